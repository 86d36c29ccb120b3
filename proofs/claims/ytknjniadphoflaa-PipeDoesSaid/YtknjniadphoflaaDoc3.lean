/-
  The document's pipe (stillageref05): Send.
-/
import Derived.Test.YtknjniadphoflaaDoc2
namespace Go.Proofs.Ytknjniadphoflaa
open Go.RowKit Go.Conc

set_option maxHeartbeats 1000000 in
theorem docSend_no (w : World) (b room : Nat) (own : List Nat) (l : List Int) (cl : Bool) (x : Int) (h : DocIs w b room own l cl) (hs : sends room l cl = false) :
    Calls Try.prog 13 #[.pointer (some ⟨b, 0, none⟩), .int .i64 x] w fun e w' => e = .returned (.bool false) ∧ ∃ n, w' = w.drewN n := by
  obtain ⟨v, ⟨hr, hown, hm⟩, _⟩ := h
  obtain ⟨n, hn⟩ : ∃ n, l.length = n := ⟨_, rfl⟩
  rw [hn] at hown
  obtain ⟨ao, cap, rfl⟩ := shape_of hown
  have c0 : w.cell? ⟨b, 0, none⟩ = some (.int .i64 room) := by rw [cell_of hr]; rfl
  have c1 : w.cell? ⟨b, 1, none⟩ = some (.slice ao n cap) := by rw [cell_of hr]; rfl
  have c2 : w.cell? ⟨b, 2, none⟩ = some (.bool cl) := by rw [cell_of hr]; rfl
  simp only [sends, hn] at hs
  cases cl with
  | true =>
    clear hr hown hm hs hn
    go_enter Try.func13, Try.ntmps13
    go_wp2
    go_quiet (fail)
    go_wp2
    go_ret
    exact ⟨rfl, _, rfl⟩
  | false =>
    have hge : decide ((room : Int) ≤ (n : Int)) = true := by simp at hs ⊢; omega
    have hge' : room ≤ n := by simp at hs; omega
    clear hr hown hm hs hn
    go_enter Try.func13, Try.ntmps13
    go_wp2
    go_quiet (fail)
    go_wp2
    go_ret
    exact ⟨rfl, _, rfl⟩

set_option maxHeartbeats 2000000 in
theorem docSend_yes (w : World) (b room : Nat) (own : List Nat) (l : List Int) (x : Int) (h : DocIs w b room own l false) (hs : l.length < room) :
    Calls Try.prog 13 #[.pointer (some ⟨b, 0, none⟩), .int .i64 x] w fun e w' => e = .returned (.bool true) ∧ DocTurn w w' b room own (l ++ [x]) false := by
  obtain ⟨i0, hi0, hz0, hz1, hz2⟩ := info_parts infoInt
  obtain ⟨v, h, rfl⟩ := h
  have h' := h
  obtain ⟨hr, hown, hl, hroom⟩ := h'
  obtain ⟨n, hn⟩ : ∃ n, l.length = n := ⟨_, rfl⟩
  rw [hn] at hown hl hs
  obtain ⟨ao, cap, rfl⟩ := shape_of hown
  have c0 : w.cell? ⟨b, 0, none⟩ = some (.int .i64 room) := by rw [cell_of hr]; rfl
  have c1 : w.cell? ⟨b, 1, none⟩ = some (.slice ao n cap) := by rw [cell_of hr]; rfl
  have c2 : w.cell? ⟨b, 2, none⟩ = some (.bool false) := by rw [cell_of hr]; rfl
  have f1 : w.frozen? ⟨b, 1, none⟩ = false := free_of hr 1
  have hrl : b < w.heap.size := lt_of_block hr
  have hge : decide ((room : Int) ≤ (n : Int)) = false := by rw [decide_eq_false_iff_not]; omega
  have hge' : ¬ room ≤ n := by omega
  have H := Lib.hid (And.intro h (And.intro hn (And.intro hown (And.intro hs hroom))))
  have HB := Lib.hid hrl
  clear h hr hown hn hl hroom hrl hs
  go_enter Try.func13, Try.ntmps13
  go_wp2
  go_quiet (fail)
  have d1 : (w.drewN nq).cell? ⟨b, 1, none⟩ = some (.slice ao n cap) := c1
  have g1 : (w.drewN nq).frozen? ⟨b, 1, none⟩ = false := f1
  have HD : Hid (Below w.heap.size w (w.drewN nq) ∧ (w.drewN nq).ownsRow 0 3 1 (.slice ao n cap) n (l.map (Value.int .i64))) :=
    Lib.hid ⟨below_drewN (Below.refl _ _) _, owns_kept H.out.2.2.1 (Kept.of_below (below_drewN (Below.refl _ _) _) (fun _ => False)) (fun _ _ h => h)⟩
  generalize w.drewN nq = wd at d1 g1 HD ⊢
  have hbd : b < wd.heap.size := World.block_lt_of_cell? _ _ d1
  have hsrc : SrcIs (wd.alloc (.cells #[] 3)) 1 (.slice ao n cap) n (l.map (Value.int .i64)) := SrcIs.of_owns (HD.out.2.alloc _) (ints_one l)
  have hown0 : (wd.alloc (.cells #[] 3)).ownsRow wd.heap.size 3 1 (.slice (some ⟨wd.heap.size, 0, none⟩) 0 0) 0 [] :=
    ⟨rfl, .inr ⟨wd.heap.size, 0, #[], rfl, Nat.le_refl _, alloc_at wd _, Nat.le_refl _, Nat.zero_le _, rfl, rfl⟩⟩
  have HH := Lib.hid (And.intro hsrc hown0)
  clear hsrc hown0
  go_wp2_with (at_builtin; refine wpList_append_src _ rfl (.tmp 22) (.tmp 26) 29 rfl wd.heap.size 3 i0 (.int .i64 0) 1 8 Try.underlying29 hi0 hz0 hz1 hz2 rfl (by decide) (.slice (some ⟨wd.heap.size, 0, none⟩) 0 0) 0 [] rfl HH.out.2 (.slice ao n cap) n (l.map (Value.int .i64)) rfl HH.out.1 ?c1 ?c2 ?c3 ?_)
  case c1 => have := H.out.2.2.2; unfold maxLen; omega
  case c2 => have := H.out.2.2.2; omega
  case c3 => simp
  · intro v' w2 hown' hgrow' _
    obtain ⟨ao', cap', rfl⟩ := shape_of hown'
    have hb2 : Below wd.heap.size wd w2 := ((Below.refl _ _).alloc (Nat.le_refl _) _).grown hgrow' (by simp) (by intro k hk; cases hk; exact Nat.le_refl _)
    have hsrc : SrcIs (w2.alloc (.cells #[.int .i64 x] 3)) 1 (.slice (some ⟨w2.heap.size, 0, none⟩) 1 1) 1 [.int .i64 x] :=
      SrcIs.of_owns (base := 0) (e := 3) ⟨rfl, .inr ⟨w2.heap.size, 1, #[.int .i64 x], rfl, Nat.zero_le _, alloc_at w2 _, Nat.le_refl _, by unfold maxLen; omega, rfl, rfl⟩⟩ (by intro u hu; simp at hu; subst hu; rfl)
    have HO := Lib.hid (And.intro (hown'.alloc (.cells #[.int .i64 x] 3)) (And.intro hb2 hsrc))
    clear hown' hgrow' hb2 hsrc
    go_wp2_with (at_builtin; refine wpList_append_src _ rfl (.tmp 27) (.tmp 29) 29 rfl wd.heap.size 3 i0 (.int .i64 0) 1 8 Try.underlying29 hi0 hz0 hz1 hz2 rfl (by decide) (.slice ao' n cap') n _ rfl HO.out.1 (.slice (some ⟨w2.heap.size, 0, none⟩) 1 1) 1 [.int .i64 x] rfl HO.out.2.2 ?k1 ?k2 ?k3 ?_)
    case k1 => have := H.out.2.2.2; unfold maxLen; omega
    case k2 => have := H.out.2.2.2; omega
    case k3 => have := HO.out.2.1.size; simp; omega
    · intro v'' w3 hown'' hgrow'' _
      obtain ⟨ao'', cap'', rfl⟩ := shape_of hown''
      have hb3 : Below wd.heap.size wd w3 := (HO.out.2.1.alloc HO.out.2.1.size _).grown hgrow'' (by have := HO.out.2.1.size; simp; omega) (by intro k hk; exact (HO.out.1.lt k hk).1)
      have hbs := HD.out.1.size
      have hbl := HB.out
      have c3 : w3.cell? ⟨b, 1, none⟩ = some (.slice ao n cap) := (hb3.cell (p := ⟨b, 1, none⟩) (show b < _ by omega)).trans d1
      have f3 : w3.frozen? ⟨b, 1, none⟩ = false := (hb3.frozen (p := ⟨b, 1, none⟩) (show b < _ by omega)).trans g1
      have HP := Lib.hid (And.intro hown'' (HD.out.1.trans (hb3.mono hbs)))
      have HS := Lib.hid hbs
      clear hown'' hgrow'' hb3 hbs hbl
      go_wp2
      go_ret
      refine ⟨rfl, .store H.out.1 HP.out.2 ?_ ?_ (List.mem_cons_self ..)⟩
      · have := owns_mono HP.out.1 HS.out
        rw [List.length_append, List.length_singleton, H.out.2.1, List.map_append]
        simpa using this
      · rw [List.length_append, List.length_singleton, H.out.2.1]; exact H.out.2.2.2.1

theorem docSend (w : World) (b room : Nat) (own : List Nat) (l : List Int) (cl : Bool) (x : Int) (h : DocIs w b room own l cl) :
    Calls Try.prog 13 #[.pointer (some ⟨b, 0, none⟩), .int .i64 x] w fun e w' => e = .returned (.bool (sends room l cl)) ∧ DocTurn w w' b room own (sent room l cl x) cl := by
  cases hs : sends room l cl with
  | false =>
    refine (docSend_no w b room own l cl x h hs).mono fun e w' ⟨he, n, hw⟩ => ?_
    subst hw
    refine ⟨he, ?_⟩
    rw [sent, hs, if_neg (by simp)]
    exact .same h n
  | true =>
    have hcl : cl = false ∧ l.length < room := by
      simp [sends] at hs
      exact hs
    obtain ⟨rfl, hl⟩ := hcl
    rw [sent, hs, if_pos rfl]
    exact docSend_yes w b room own l x h hl

/-- Take, in the words of the plain model. -/
theorem docTake (w : World) (b room : Nat) (own : List Nat) (l : List Int) (cl : Bool) (h : DocIs w b room own l cl) :
    Calls Try.prog 15 #[.pointer (some ⟨b, 0, none⟩)] w fun e w' => e = .returned (.tuple #[headOr (Value.int .i64) (.int .i64 0) l, .bool (!l.isEmpty)]) ∧ DocTurn w w' b room own l.tail cl := by
  cases l with
  | nil =>
    refine (docTake_nil w b room own cl h).mono fun e w' ⟨he, hw⟩ => ?_
    subst hw
    exact ⟨he, .same h 0⟩
  | cons x l => exact docTake_cons w b room own x l cl h

end Go.Proofs.Ytknjniadphoflaa
