/-
  The document's cache (stillageref04): Keys, Put, in the words of the plain model.
-/
import Derived.Test.YtggpmnhbplmagaaRef2
namespace Go.Proofs.Ytggpmnhbplmagaa
open Go.RowKit Go.Conc

theorem SrcIs.of_owns {w : World} {base : Nat} {e : TypeId} {size : Nat} {v : Value} {n : Nat} {xs : List Value} (h : w.ownsRow base e size v n xs) (h1 : ∀ u ∈ xs, u.oneCell' = true) : SrcIs w size v n xs := by
  rcases h.2 with ⟨rfl, rfl⟩ | ⟨g, cap, cur, rfl, _⟩
  · exact ⟨⟨none, 0, rfl, fun _ => ⟨rfl, rfl⟩, fun _ h => by cases h⟩, h.1, h1⟩
  · refine ⟨⟨_, cap, rfl, (fun h => by cases h), fun ad had j u hu => ?_⟩, h.1, h1⟩
    simp only [Option.some.injEq] at had
    subst had
    exact h.cells (g := g) rfl j u hu

set_option maxHeartbeats 1000000 in
theorem refKeys (w : World) (rb room : Nat) (own : List Nat) (L : List (Int × ByteArray)) (h : RefIs w rb room own L) :
    Calls Try.prog 19 #[.pointer (some ⟨rb, 0, none⟩)] w fun e w' => ∃ v, e = .returned v ∧ w'.ownsRow w.heap.size 3 1 v L.length ((L.map (·.1)).map (Value.int .i64)) ∧ Below w.heap.size w w' := by
  obtain ⟨i0, hi0, hz0, hz1, hz2⟩ := info_parts infoKIS
  obtain ⟨vv, ⟨hr, hown, hm⟩, rfl⟩ := h
  obtain ⟨n, hn⟩ : ∃ n, L.length = n := ⟨_, rfl⟩
  rw [hn] at hown hm
  obtain ⟨ao, cap, rfl⟩ := shape_of hown
  have hrl := lt_of_block hr
  have c1 : w.cell? ⟨rb, 1, none⟩ = some (.slice ao n cap) := by rw [cell_of hr]; rfl
  have H := Lib.hid (And.intro hr (And.intro hown hn))
  clear hr hown hn
  go_enter Try.func19, Try.ntmps19
  go_wp2
  go_loopw [3, 4] (fun v i wr => ∃ k : Nat, k ≤ n ∧ i = .int .i64 k ∧ wr.ownsRow w.heap.size 3 1 v k (((L.take k).map (·.1)).map (Value.int .i64)) ∧ Below w.heap.size w wr) (fun _ i _ => n - (intOf i).toNat)
  case atStart => exact ⟨0, Nat.zero_le _, rfl, ⟨rfl, .inr ⟨w.heap.size, 0, #[], rfl, Nat.le_refl _, alloc_at w _, Nat.le_refl _, Nat.zero_le _, rfl, rfl⟩⟩, (Below.refl _ _).alloc (Nat.le_refl _) _⟩
  case round =>
    obtain ⟨k, hk, rfl, howr, hnx⟩ := hrel
    have c1r : wr.cell? ⟨rb, 1, none⟩ = some (.slice ao n cap) := by rw [hnx.cell (p := ⟨rb, 1, none⟩) hrl]; exact c1
    by_cases hlt : k < n
    · obtain ⟨ky, hky⟩ : ∃ ky, ky = (L[k]'(by have := H.out.2.2; omega)).1 := ⟨_, rfl⟩
      obtain ⟨g, hao, hgl⟩ : ∃ g, ao = some ⟨g, 0, none⟩ ∧ g < w.heap.size := by
        obtain ⟨g, cap', hv, _, hl⟩ := owns_form H.out.2.1 (by omega)
        simp only [Value.slice.injEq] at hv
        exact ⟨g, hv.1, hl⟩
      subst hao
      have ck : wr.cell? ⟨g, k * 2, none⟩ = some (.int .i64 ky) := by
        rw [hnx.cell (p := ⟨g, k * 2, none⟩) hgl]
        have := H.out.2.1.cellAt (k * 2) (by omega)
        rw [this, hky]
        exact (cellsOf_key L k _).1
      have HK := Lib.hid (And.intro hky (And.intro howr hnx))
      clear hky hnx hgl
      go_wp2_with (at_builtin; refine wpList_append_own _ rfl _ _ 27 rfl w.heap.size 3 i0 (.int .i64 0) 1 8 Try.underlying27 hi0 hz0 hz1 hz2 rfl (by decide) _ _ _ rfl (howr.alloc _) ⟨wr.heap.size, 0, none⟩ 1 1 [.int .i64 ky] rfl rfl ?c1 ?c2 ?c3 ?c4 ?c5 ?_)
      case c1 => exact one_new
      case c2 => intro u hu; simp at hu; subst hu; rfl
      case c3 => unfold maxLen; omega
      case c4 => omega
      case c5 => have := HK.out.2.2.size; simp; omega
      · intro v' w1 hown' hgrow _
        have HW := Lib.hid (And.intro hown' hgrow)
        clear hown' hgrow howr
        go_wp2
        go_roundw
        case rel =>
          obtain ⟨hown', hgrow⟩ := HW.out
          obtain ⟨hky, howr, hnx⟩ := HK.out
          refine ⟨k + 1, by omega, by go_num, ?_, (hnx.alloc hnx.size _).grown hgrow (by have := hnx.size; simp; omega) (fun i hi => (howr.lt _ hi).1)⟩
          rw [List.take_succ_eq_append_getElem (by have := H.out.2.2; omega), List.map_append, List.map_append]
          simpa [hky] using hown'
        case measure => simp [intOf]; omega
    · obtain rfl : k = n := by omega
      have HO := Lib.hid (And.intro howr hnx)
      clear howr hnx hlt
      go_wp2
      go_ret
      obtain ⟨howr, hnx⟩ := HO.out
      have hn := H.out.2.2
      refine ⟨_, rfl, ?_, hnx⟩
      rw [hn]
      rw [show L.take k = L by rw [← hn, List.take_length]] at howr
      exact howr

/-- The first part of Put: the new thing stands ahead of all others. -/
theorem consCells (k : Int) (s : ByteArray) (L : List (Int × ByteArray)) : cellsOf ((k, s) :: L) = [.int .i64 k, .string s] ++ cellsOf L := rfl

set_option maxHeartbeats 2000000 in
theorem refPut_room (w : World) (rb room : Nat) (own : List Nat) (L : List (Int × ByteArray)) (k : Int) (s : ByteArray) (h : RefIs w rb room own L) (hnd : (L.map (·.1)).Nodup) (hroom : (without k L).length + 1 ≤ room) (hrm : room ≤ 65536) :
    Calls Try.prog 15 #[.pointer (some ⟨rb, 0, none⟩), .int .i64 k, .string s] w fun e w' => e = .returned (.tuple #[.int .i64 0, .bool false]) ∧ RefTurn w w' rb room own ((k, s) :: without k L) := by
  obtain ⟨i0, hi0, hz0, hz1, hz2⟩ := info_parts info64
  have HD := Lib.hid (refDrop w rb room own L k h hnd)
  have H := Lib.hid h
  clear h
  obtain ⟨M, hM⟩ : ∃ M, without k L = M := ⟨_, rfl⟩
  rw [hM] at HD hroom ⊢
  have HN := Lib.hid hnd
  clear hnd hM
  go_enter Try.func15, Try.ntmps15
  go_wp2_with fail
  refine HD.out.mono ?_
  rintro e w1 ⟨rfl, own1, ⟨v, hat, rfl⟩, hsub, hk⟩
  obtain ⟨hr, hown, hm⟩ := hat
  obtain ⟨n, hn⟩ : ∃ n, M.length = n := ⟨_, rfl⟩
  rw [hn] at hown hm hroom
  obtain ⟨ao, cap, rfl⟩ := shape_of hown
  have hrl := lt_of_block hr
  have c0 : w1.cell? ⟨rb, 0, none⟩ = some (.int .i64 room) := by rw [cell_of hr]; rfl
  have c1 : w1.cell? ⟨rb, 1, none⟩ = some (.slice ao n cap) := by rw [cell_of hr]; rfl
  have f1 : w1.frozen? ⟨rb, 1, none⟩ = false := free_of hr 1
  have c1a : (w1.alloc (.cells #[.int .i64 k, .string s] 64)).cell? ⟨rb, 1, none⟩ = some (.slice ao n cap) := by rw [World.cell?_alloc_lt _ _ _ hrl]; exact c1
  have hsrc : SrcIs (w1.alloc (.cells #[.int .i64 k, .string s] 64)) 2 (.slice ao n cap) n (cellsOf M) := SrcIs.of_owns (hown.alloc _) (cellsOf_one M)
  have hown1 : (w1.alloc (.cells #[.int .i64 k, .string s] 64)).ownsRow w1.heap.size 64 2 (.slice (some ⟨w1.heap.size, 0, none⟩) 1 1) 1 [.int .i64 k, .string s] :=
    ⟨rfl, .inr ⟨w1.heap.size, 1, #[.int .i64 k, .string s], rfl, Nat.le_refl _, alloc_at w1 _, Nat.le_refl _, by unfold maxLen; omega, rfl, rfl⟩⟩
  have H1 := Lib.hid (And.intro hr (And.intro hown (And.intro hn (And.intro hsub hk))))
  have HS := Lib.hid (And.intro hsrc hown1)
  clear hr hown hn hsub hk hsrc hown1
  go_wp2_with (at_builtin; refine wpList_append_src _ rfl (.tmp 16) (.tmp 20) 32 rfl w1.heap.size 64 i0 _ 2 24 Try.underlying32 hi0 hz0 hz1 hz2 rfl (by decide) (.slice (some ⟨w1.heap.size, 0, none⟩) 1 1) 1 [.int .i64 k, .string s] rfl HS.out.2 (.slice ao n cap) n (cellsOf M) rfl HS.out.1 ?c1 ?c2 ?c3 ?_)
  case c1 => unfold maxLen; omega
  case c2 => omega
  case c3 => simp
  · intro v' w2 hown2 hgrow hat
    obtain ⟨ao2, cap2, rfl⟩ := shape_of hown2
    have hb2 : Below w1.heap.size w1 w2 := ((Below.refl _ _).alloc (Nat.le_refl _) _).grown hgrow (by simp) (fun k hk => by simp [Value.ownBlock] at hk; omega)
    have c0' : w2.cell? ⟨rb, 0, none⟩ = some (.int .i64 room) := by rw [hb2.cell (p := ⟨rb, 0, none⟩) hrl]; exact c0
    have c1' : w2.cell? ⟨rb, 1, none⟩ = some (.slice ao n cap) := by rw [hb2.cell (p := ⟨rb, 1, none⟩) hrl]; exact c1
    have f1' : w2.frozen? ⟨rb, 1, none⟩ = false := by rw [hb2.frozen (p := ⟨rb, 1, none⟩) hrl]; exact f1
    have d1 : (w2.setCell ⟨rb, 1, none⟩ (.slice ao2 (1 + n) cap2)).cell? ⟨rb, 1, none⟩ = some (.slice ao2 (1 + n) cap2) := World.cell?_setCell_same _ _ _ c1'
    have d0 : (w2.setCell ⟨rb, 1, none⟩ (.slice ao2 (1 + n) cap2)).cell? ⟨rb, 0, none⟩ = some (.int .i64 room) := by rw [cell_set_ne _ _ (.inr (by omega))]; exact c0'
    have H2 := Lib.hid (And.intro hown2 hb2)
    clear hown2 hgrow hat hb2
    go_wp2_with fail
    go_quiet (fail)
    go_wp2
    go_ret2
    obtain ⟨hr, hown, hn, hsub, hk⟩ := H1.out
    obtain ⟨hown2, hb2⟩ := H2.out
    refine ⟨rfl, RefTurn.drewN (.trans hk hsub (RefTurn.store (L := M) (v := .slice ao n cap) ⟨hr, by rw [hn]; exact hown, by omega⟩ hb2 ?_ ?_ (List.mem_cons_self ..))) _⟩
    · have e : ((k, s) :: M).length = 1 + n := by rw [List.length_cons, hn]; omega
      rw [e]
      exact hown2
    · rw [List.length_cons, hn]; omega

set_option maxHeartbeats 2000000 in
theorem refPut_full (w : World) (rb room : Nat) (own : List Nat) (L : List (Int × ByteArray)) (q : Int × ByteArray) (k : Int) (s : ByteArray) (h : RefIs w rb room own (L ++ [q])) (hnd : ((L ++ [q]).map (·.1)).Nodup) (hk : ∀ p ∈ L ++ [q], p.1 ≠ k) (hroom : L.length + 1 = room) (hrm : room ≤ 65536) :
    Calls Try.prog 15 #[.pointer (some ⟨rb, 0, none⟩), .int .i64 k, .string s] w fun e w' => e = .returned (.tuple #[.int .i64 q.1, .bool true]) ∧ RefTurn w w' rb room own ((k, s) :: L) := by
  obtain ⟨i0, hi0, hz0, hz1, hz2⟩ := info_parts info64
  have hd := refDrop_no w rb room own _ k h hk
  obtain ⟨v, ⟨hr, hown, hm⟩, rfl⟩ := h
  have hlen : (L ++ [q]).length = room := by simp [hroom]
  rw [hlen] at hown hm
  obtain ⟨ao, cap, rfl⟩ := shape_of hown
  have hrl := lt_of_block hr
  have c0 : w.cell? ⟨rb, 0, none⟩ = some (.int .i64 room) := by rw [cell_of hr]; rfl
  have c1 : w.cell? ⟨rb, 1, none⟩ = some (.slice ao room cap) := by rw [cell_of hr]; rfl
  have f1 : w.frozen? ⟨rb, 1, none⟩ = false := free_of hr 1
  have c1a : (w.alloc (.cells #[.int .i64 k, .string s] 64)).cell? ⟨rb, 1, none⟩ = some (.slice ao room cap) := by rw [World.cell?_alloc_lt _ _ _ hrl]; exact c1
  have hsrc : SrcIs (w.alloc (.cells #[.int .i64 k, .string s] 64)) 2 (.slice ao room cap) room (cellsOf (L ++ [q])) := SrcIs.of_owns (hown.alloc _) (cellsOf_one _)
  have hown1 : (w.alloc (.cells #[.int .i64 k, .string s] 64)).ownsRow w.heap.size 64 2 (.slice (some ⟨w.heap.size, 0, none⟩) 1 1) 1 [.int .i64 k, .string s] :=
    ⟨rfl, .inr ⟨w.heap.size, 1, #[.int .i64 k, .string s], rfl, Nat.le_refl _, alloc_at w _, Nat.le_refl _, by unfold maxLen; omega, rfl, rfl⟩⟩
  have HD := Lib.hid hd
  have H1 := Lib.hid (And.intro hr (And.intro hown (And.intro hlen (And.intro hnd (And.intro hk hroom)))))
  have HS := Lib.hid (And.intro hsrc hown1)
  clear hd hr hown hsrc hown1 hlen hnd hk hroom
  obtain ⟨qk, qs⟩ := q
  simp only at HD H1 HS ⊢
  go_enter Try.func15, Try.ntmps15
  go_wp2_with fail
  refine HD.out.mono ?_
  rintro e w1 ⟨rfl, rfl⟩
  go_wp2_with (at_builtin; refine wpList_append_src _ rfl (.tmp 16) (.tmp 20) 32 rfl w1.heap.size 64 i0 _ 2 24 Try.underlying32 hi0 hz0 hz1 hz2 rfl (by decide) (.slice (some ⟨w1.heap.size, 0, none⟩) 1 1) 1 [.int .i64 k, .string s] rfl HS.out.2 (.slice ao room cap) room _ rfl HS.out.1 ?c1 ?c2 ?c3 ?_)
  case c1 => unfold maxLen; omega
  case c2 => omega
  case c3 => simp
  · intro v' w2 hown2 hgrow hat
    obtain ⟨g2, cap2, rfl, hg2, hg2l⟩ := owns_form hown2 (by omega)
    have hb2 : Below w1.heap.size w1 w2 := ((Below.refl _ _).alloc (Nat.le_refl _) _).grown hgrow (by simp) (fun k hk => by simp [Value.ownBlock] at hk; omega)
    have c0' : w2.cell? ⟨rb, 0, none⟩ = some (.int .i64 room) := by rw [hb2.cell (p := ⟨rb, 0, none⟩) hrl]; exact c0
    have c1' : w2.cell? ⟨rb, 1, none⟩ = some (.slice ao room cap) := by rw [hb2.cell (p := ⟨rb, 1, none⟩) hrl]; exact c1
    have f1' : w2.frozen? ⟨rb, 1, none⟩ = false := by rw [hb2.frozen (p := ⟨rb, 1, none⟩) hrl]; exact f1
    obtain ⟨w3, hw3⟩ : ∃ w3, w3 = w2.setCell ⟨rb, 1, none⟩ (.slice (some ⟨g2, 0, none⟩) (1 + room) cap2) := ⟨_, rfl⟩
    have d1 : w3.cell? ⟨rb, 1, none⟩ = some (.slice (some ⟨g2, 0, none⟩) (1 + room) cap2) := by rw [hw3]; exact World.cell?_setCell_same _ _ _ c1'
    have d0 : w3.cell? ⟨rb, 0, none⟩ = some (.int .i64 room) := by rw [hw3, cell_set_ne _ _ (.inr (by omega))]; exact c0'
    have hk3 : Kept (· = rb) w2 w3 := by rw [hw3]; exact (Kept.refl _ w2).setCell _ _ (fun _ => rfl)
    have hown3 : w3.ownsRow w1.heap.size 64 2 (.slice (some ⟨g2, 0, none⟩) (1 + room) cap2) (1 + room) ([.int .i64 k, .string s] ++ cellsOf (L ++ [(qk, qs)])) := owns_kept hown2 hk3 (fun g hg e => by simp [Value.ownBlock] at hg; omega)
    have hL : cellsOf ((k, s) :: (L ++ [(qk, qs)])) = [.int .i64 k, .string s] ++ cellsOf (L ++ [(qk, qs)]) := rfl
    have dk : w3.cell? ⟨g2, room * 2, none⟩ = some (.int .i64 qk) := by
      rw [hown3.cellAt (room * 2) (by omega), ← hL]
      obtain ⟨_, _, hlen, _, _, hroom⟩ := H1.out
      rw [(cellsOf_key ((k, s) :: (L ++ [(qk, qs)])) room (by simp; omega)).1]
      subst hroom
      simp
    have hturn : RefTurn w1 w3 rb room (rb :: (Value.slice ao room cap).ownBlock.toList) ((k, s) :: (L ++ [(qk, qs)])) := by
      obtain ⟨hr, hown, hlen, _⟩ := H1.out
      rw [hw3]
      refine RefTurn.store (L := L ++ [(qk, qs)]) (v := .slice ao room cap) ⟨hr, by rw [hlen]; exact hown, by omega⟩ hb2 ?_ ?_ (List.mem_cons_self ..)
      · have e : ((k, s) :: (L ++ [(qk, qs)])).length = 1 + room := by rw [List.length_cons, hlen]; omega
        rw [e]
        exact hown2
      · rw [List.length_cons, hlen]; omega
    have H2 := Lib.hid hturn
    have H3 := Lib.hid hw3
    have r0 : (0 : Int) ≤ (room : Int) := by omega
    have r1 : (room : Int) < ((1 + room : Nat) : Int) := by omega
    clear hown2 hgrow hat hb2 hturn hown3 hk3 hL
    have hw3' := hw3.symm
    clear hw3 H3
    go_wp2_with fail
    have hle : room < 1 + room := by omega
    have r2 : (room : Int) < (1 : Int) + (room : Int) := by omega
    go_quiet (fail)
    go_wp2_with fail
    go_quiet (fail)
    go_wp2_with fail
    obtain ⟨own3, his3, hsub3, hk3⟩ := H2.out
    have hno : ∀ p ∈ ((k, s) :: L : List (Int × ByteArray)), p.1 ≠ qk := by
      obtain ⟨_, _, _, hnd, hk, _⟩ := H1.out
      intro p hp
      rcases List.mem_cons.1 hp with rfl | hp
      · exact fun e => hk (qk, qs) (by simp) e.symm
      · exact (nodup_split (L2 := []) hnd).1 p hp
    refine (refDrop_yes _ rb room own3 ((k, s) :: L) [] qk qs (his3.kept ((Kept.refl (fun _ => False) w3).drewN _) (fun _ _ h => h)) hno).mono ?_
    rintro e w4 ⟨rfl, ht⟩
    have H4 := Lib.hid (And.intro hsub3 (And.intro hk3 ht))
    clear his3 hsub3 hk3 ht hno
    go_wp2
    go_ret2
    obtain ⟨hsub3, hk3, ht⟩ := H4.out
    refine ⟨rfl, ?_⟩
    rw [List.append_nil] at ht
    exact .trans (hk3.drewN _) hsub3 ht

theorem refPut (w : World) (rb room : Nat) (own : List Nat) (L : List (Int × ByteArray)) (k : Int) (s : ByteArray) (h : RefIs w rb room own L) (hnd : (L.map (·.1)).Nodup) (hlen : L.length ≤ room) (h1 : 1 ≤ room) (hrm : room ≤ 65536) :
    Calls Try.prog 15 #[.pointer (some ⟨rb, 0, none⟩), .int .i64 k, .string s] w fun e w' => e = .returned (.tuple #[orZero (Value.int .i64) (.int .i64 0) (goes room k L), .bool (goes room k L).isSome]) ∧ RefTurn w w' rb room own (putIn room k s L) := by
  cases hk : look k L with
  | none =>
    have hno := look_none hk
    by_cases hroom : L.length + 1 ≤ room
    · have := refPut_room w rb room own L k s h hnd (by rw [without_none hno]; exact hroom) hrm
      rw [without_none hno] at this
      simp only [goes, putIn, hk, hroom, if_true]
      exact this
    · obtain ⟨L0, q, rfl⟩ : ∃ L0 q, L = L0 ++ [q] := by
        rcases List.eq_nil_or_concat L with rfl | ⟨L0, q, rfl⟩
        · simp at hroom; omega
        · exact ⟨L0, q, by simp⟩
      have hr : ¬ (L0 ++ [q]).length + 1 ≤ room := hroom
      simp only [List.length_append, List.length_cons, List.length_nil] at hlen hroom
      have := refPut_full w rb room own L0 q k s h hnd hno (by omega) hrm
      simp only [goes, putIn, hk, hr, if_false, List.getLast?_append, List.getLast?_singleton, Option.some_or, Option.map_some, List.dropLast_concat]
      exact this
  | some v0 =>
    obtain ⟨L1, L2, rfl, hno⟩ := look_some hk
    obtain ⟨n1, n2⟩ := nodup_split hnd
    have := refPut_room w rb room own _ k s h hnd (by rw [without_split n1 n2]; simp only [List.length_append, List.length_cons] at hlen ⊢; omega) hrm
    simp only [goes, putIn, hk]
    exact this

end Go.Proofs.Ytggpmnhbplmagaa
