/-
  The document's pipe (stillageref05): Take.
-/
import Derived.Test.YtknjniadphoflaaDoc
namespace Go.Proofs.Ytknjniadphoflaa
open Go.RowKit Go.Conc

theorem ints_one (l : List Int) : ∀ u ∈ l.map (Value.int .i64), u.oneCell' = true := by
  intro u hu
  obtain ⟨z, _, rfl⟩ := List.mem_map.1 hu
  rfl

theorem docTake_nil (w : World) (b room : Nat) (own : List Nat) (cl : Bool) (h : DocIs w b room own [] cl) :
    Calls Try.prog 15 #[.pointer (some ⟨b, 0, none⟩)] w fun e w' => e = .returned (.tuple #[.int .i64 0, .bool false]) ∧ w' = w := by
  obtain ⟨v, ⟨hr, hown, hm⟩, _⟩ := h
  obtain ⟨ao, cap, rfl⟩ := shape_of hown
  have c1 : w.cell? ⟨b, 1, none⟩ = some (.slice ao 0 cap) := by rw [cell_of hr]; rfl
  clear hr hown hm
  go_enter Try.func15, Try.ntmps15
  go_wp2
  go_ret2
  exact ⟨rfl, rfl⟩

set_option maxHeartbeats 1000000 in
theorem docTake_cons (w : World) (b room : Nat) (own : List Nat) (x : Int) (l : List Int) (cl : Bool) (h : DocIs w b room own (x :: l) cl) :
    Calls Try.prog 15 #[.pointer (some ⟨b, 0, none⟩)] w fun e w' => e = .returned (.tuple #[.int .i64 x, .bool true]) ∧ DocTurn w w' b room own l cl := by
  obtain ⟨i0, hi0, hz0, hz1, hz2⟩ := info_parts infoInt
  obtain ⟨v, h, rfl⟩ := h
  have h' := h
  obtain ⟨hr, hown, hl, hroom⟩ := h'
  obtain ⟨n, hn⟩ : ∃ n, (x :: l).length = n := ⟨_, rfl⟩
  have hl0 : l.length = n - 1 := by rw [← hn]; rfl
  have hn1 : 1 ≤ n := by rw [← hn, List.length_cons]; omega
  rw [hn] at hown hl
  rcases hown.2 with ⟨_, h0⟩ | ⟨g, cap, cur, rfl, _, hg, hnc, _, hcs, htake⟩
  · omega
  have c1 : w.cell? ⟨b, 1, none⟩ = some (.slice (some ⟨g, 0, none⟩) n cap) := by rw [cell_of hr]; rfl
  have f1 : w.frozen? ⟨b, 1, none⟩ = false := free_of hr 1
  have x0 : w.cell? ⟨g, 0, none⟩ = some (.int .i64 x) := by rw [hown.cellAt 0 (by omega)]; rfl
  have hu : Try.prog.elem 29 = 3 := by kernel_rfl
  have hsz : ∀ u : World, (sizeOf 3).run Try.prog u = .ok 1 u := fun u => by simp [sizeOf, typeInfo, hi0, hz1]
  have hul : Try.prog.underlying 29 = some (.slice (Try.prog.elem 29)) := by rw [hu]; exact Try.underlying29
  obtain ⟨y2, hy2⟩ : ∃ y2, y2 = sliced (some ⟨g, 0, none⟩) 1 n cap 1 := ⟨_, rfl⟩
  have hs2 : ∀ u, (Instr.slice 29 (.slice (some ⟨g, 0, none⟩) n cap) (some (.int .i64 1)) none none).run Try.prog u = .ok y2 u := fun u => by
    have := run_slice_l (P := Try.prog) u 29 (some ⟨g, 0, none⟩) n cap hul .i64 1 (by omega) (by omega)
    rw [hu, hsz] at this
    simpa [Result.andThen, hy2] using this
  have hgl : g < w.heap.size := lt_of_block hg
  have hrl : b < w.heap.size := lt_of_block hr
  have hsrc : SrcIs (w.alloc (.cells #[] 3)) 1 y2 (n - 1) (l.map (Value.int .i64)) := by
    have e1 : (cur.toList.take (n * 1)).drop (1 * 1) = l.map (Value.int .i64) := by rw [htake]; rfl
    rw [hy2, ← e1]
    refine SrcIs.cut ((alloc_old _ _ hgl).trans hg) hn1 hnc (by omega) (fun u hu => ?_)
    rw [htake] at hu
    exact ints_one _ u hu
  have hown0 : (w.alloc (.cells #[] 3)).ownsRow w.heap.size 3 1 (.slice (some ⟨w.heap.size, 0, none⟩) 0 0) 0 [] :=
    ⟨rfl, .inr ⟨w.heap.size, 0, #[], rfl, Nat.le_refl _, alloc_at w _, Nat.le_refl _, Nat.zero_le _, rfl, rfl⟩⟩
  have i1 : (0 : Int) < (n : Int) := by omega
  have hn0 : ((n : Int) == 0) = false := by simp; omega
  have H := Lib.hid (And.intro h (And.intro hl0 hl))
  have HH := Lib.hid (And.intro hsrc hown0)
  have HB := Lib.hid (And.intro hroom (And.intro hgl hrl))
  clear h hr hown hg hnc hcs htake hsrc hown0 hn hl0 hl hy2 hu hsz hul hroom hgl
  go_enter Try.func15, Try.ntmps15
  go_wp2_with (at_builtin; refine wpList_append_src _ rfl (.tmp 18) (.tmp 23) 29 rfl w.heap.size 3 i0 (.int .i64 0) 1 8 Try.underlying29 hi0 hz0 hz1 hz2 rfl (by decide) (.slice (some ⟨w.heap.size, 0, none⟩) 0 0) 0 [] rfl HH.out.2 y2 (n - 1) (l.map (Value.int .i64)) rfl HH.out.1 ?c1 ?c2 ?c3 ?_)
  case c1 => have := HB.out.1; have := H.out.2.2; unfold maxLen; omega
  case c2 => have := HB.out.1; have := H.out.2.2; omega
  case c3 => simp
  · intro v' w2 hown' hgrow' _
    obtain ⟨ao', cap', rfl⟩ := shape_of hown'
    have hb2 : Below w.heap.size w w2 := ((Below.refl _ _).alloc (Nat.le_refl _) _).grown hgrow' (by simp) (by intro k hk; cases hk; exact Nat.le_refl _)
    have c2 : w2.cell? ⟨b, 1, none⟩ = some (.slice (some ⟨g, 0, none⟩) n cap) := (hb2.cell (p := ⟨b, 1, none⟩) hrl).trans c1
    have f2 : w2.frozen? ⟨b, 1, none⟩ = false := (hb2.frozen (p := ⟨b, 1, none⟩) hrl).trans f1
    have HO := Lib.hid (And.intro hown' hb2)
    clear hown' hgrow' hb2
    go_wp2
    go_ret2
    refine ⟨rfl, .store H.out.1 HO.out.2 ?_ (by have := H.out.2; omega) (List.mem_cons_self ..)⟩
    rw [H.out.2.1]
    have := HO.out.1
    simpa using this

end Go.Proofs.Ytknjniadphoflaa
