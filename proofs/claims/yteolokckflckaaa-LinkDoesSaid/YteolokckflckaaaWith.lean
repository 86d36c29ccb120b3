/-
  One link that the law made, and beside it a slice of texts that the law made; texts and flags that came in.
-/
import Derived.Test.YteolokckflckaaaIns
import Derived.Deep.Grids
namespace Go.Proofs.Yteolokckflckaaa
open Go.ChangeShapes Go.WideShapes Go.Deep Go.RowKit Go.Conc

/-- The link and the law's own slice of texts. -/
def With (w0 w : World) (p room : Nat) (C : List ByteArray) (T : List (ByteArray × Nat)) (v : Value) (W : List ByteArray) : Prop :=
  ∃ own, LinkIs w p room own C T ∧ (∀ b ∈ own, w0.heap.size ≤ b) ∧ Below w0.heap.size w0 w ∧ Good T ∧ w.ownsRow w0.heap.size 9 1 v W.length (W.map Value.string) ∧ ∀ g, v.ownBlock = some g → g ∉ own

section
variable {w0 w w' : World} {p room : Nat} {C C' : List ByteArray} {T T' : List (ByteArray × Nat)} {v v' : Value} {W W' : List ByteArray}

theorem With.one (h : With w0 w p room C T v W) : One w0 w p room C T := by
  obtain ⟨own, h1, h2, h3, h4, _⟩ := h
  exact ⟨own, h1, h2, h3, h4⟩
theorem With.start (h : One w0 w p room C T) : With w0 (w.alloc (.cells #[] 9)) p room C T (.slice (some ⟨w.heap.size, 0, none⟩) 0 0) [] := by
  obtain ⟨own, h1, h2, h3, h4⟩ := h
  refine ⟨own, h1.below ((Below.refl _ _).alloc (Nat.le_refl _) _), h2, h3.alloc h3.size _, h4, ⟨rfl, .inr ⟨w.heap.size, 0, #[], rfl, h3.size, alloc_at w _, Nat.le_refl _, Nat.zero_le _, rfl, rfl⟩⟩, fun g hg hm => ?_⟩
  simp only [Value.ownBlock, Option.some.injEq] at hg
  have := h1.lt g hm
  omega
theorem With.kept (h : With w0 w p room C T v W) (hb : Below w.heap.size w w') : With w0 w' p room C T v W := by
  obtain ⟨own, h1, h2, h3, h4, h5, h6⟩ := h
  exact ⟨own, h1.below hb, h2, h3.trans (hb.mono h3.size), h4, owns_kept h5 (Kept.of_below hb (fun _ => False)) (fun _ _ h => h), h6⟩
theorem With.drew (h : With w0 w p room C T v W) : With w0 w.drew p room C T v W := h.kept (Below.refl _ _).drew
theorem With.alloc (h : With w0 w p room C T v W) (o : Obj) : With w0 (w.alloc o) p room C T v W := h.kept ((Below.refl _ _).alloc (Nat.le_refl _) o)
theorem With.below (h : With w0 w p room C T v W) : Below w0.heap.size w0 w := by
  obtain ⟨_, _, _, h, _⟩ := h
  exact h
theorem With.as (h : With w0 w p room C T v W) (hC : C = C') (hT : T = T') : With w0 w p room C' T' v W := by
  subst hC hT; exact h

theorem With.turn {own : List Nat} (h2 : ∀ b ∈ own, w0.heap.size ≤ b) (h3 : Below w0.heap.size w0 w) (h5 : w.ownsRow w0.heap.size 9 1 v W.length (W.map Value.string)) (h6 : ∀ g, v.ownBlock = some g → g ∉ own)
    (ht : LinkTurn w w' p room own C' T') (hg : Good T') : With w0 w' p room C' T' v W := by
  obtain ⟨own', hc, hsub, hk⟩ := ht
  refine ⟨own', hc, fun b hb => ?_, hk.below h3 h3.size (fun i hi => h2 i hi), hg, owns_kept h5 hk (fun g hg => h6 g hg), fun g hg hm => ?_⟩
  · rcases hsub b hb with hb | hb
    · exact h2 b hb
    · have := h3.size; omega
  · rcases hsub g hm with hm | hm
    · exact h6 g hg hm
    · obtain ⟨_, _, hc⟩ := owns_block h5 g hg
      have := lt_of_block hc
      omega

theorem With.send (h : With w0 w p room C T v W) (hT : T.length < 100000) (s : ByteArray) (k n m : Int) (hm : mayB k n = true) :
    Calls Try.prog 8 #[.pointer (some ⟨p, 0, none⟩), .string s, fate k n m] w fun e w' => e = .returned (.int .i64 0) ∧ With w0 w' p room (sendC room C s k n m) (sendT T s k n) v W := by
  obtain ⟨own, h1, h2, h3, h4, h5, h6⟩ := h
  refine (Yteolokckflckaaa.send w p room own C T s k n m h1 hT).mono fun _ _ ⟨he, ht⟩ => ?_
  rw [hm] at he ht
  exact ⟨he, .turn h2 h3 h5 h6 ht (h4.send s k n hm)⟩
theorem With.sendNo (h : With w0 w p room C T v W) (s : ByteArray) (k n m : Int) (hm : mayB k n = false) :
    Calls Try.prog 8 #[.pointer (some ⟨p, 0, none⟩), .string s, fate k n m] w fun e w' => e = .returned (.int .i64 180) ∧ With w0 w' p room C T v W := by
  obtain ⟨own, h1, h2, h3, h4, h5, h6⟩ := h
  exact (send_no w p room own C T s k n m h1 hm).mono fun _ _ ⟨he, ht⟩ => ⟨he, .turn h2 h3 h5 h6 ht h4⟩
theorem With.take (h : With w0 w p room C T v W) :
    Calls Try.prog 10 #[.pointer (some ⟨p, 0, none⟩)] w fun e w' => e = .returned (.tuple #[.string (headS C), .bool (!C.isEmpty)]) ∧ With w0 w' p room C.tail T v W := by
  obtain ⟨own, h1, h2, h3, h4, h5, h6⟩ := h
  exact (Yteolokckflckaaa.take w p room own C T h1).mono fun _ _ ⟨he, ht⟩ => ⟨he, .turn h2 h3 h5 h6 ht h4⟩
theorem With.step (h : With w0 w p room C T v W) :
    Calls Try.prog 9 #[.pointer (some ⟨p, 0, none⟩)] w fun e w' => e = .returned (.tuple #[]) ∧ With w0 w' p room (stepC room C T) (stepT T) v W := by
  obtain ⟨own, h1, h2, h3, h4, h5, h6⟩ := h
  exact (step_walk w p room own C T h1 h4).mono fun _ _ ⟨he, ht⟩ => ⟨he, .turn h2 h3 h5 h6 ht h4.step⟩

/-- The slice grows. -/
theorem With.grown (h : With w0 w p room C T v W) (hg : w.grownBy w' v.ownBlock) (ho : w'.ownsRow w0.heap.size 9 1 v' W'.length (W'.map Value.string)) (hat : v'.ownBlock = v.ownBlock ∨ v'.ownBlock = some w.heap.size) : With w0 w' p room C T v' W' := by
  obtain ⟨own, h1, h2, h3, h4, h5, h6⟩ := h
  have k : Kept (fun g => v.ownBlock = some g) w w' := Kept.of_grown hg (fun _ e => e)
  refine ⟨own, h1.kept k (fun i hi e => h6 i e hi), h2, k.below h3 h3.size (fun i hi => (owns_block h5 i hi).1), h4, ho, fun g hg' hm => ?_⟩
  rcases hat with e | e
  · exact h6 g (e ▸ hg') hm
  · rw [e, Option.some.injEq] at hg'
    have := h1.lt g hm
    omega
theorem With.row (h : With w0 w p room C T v W) : w.ownsRow w0.heap.size 9 1 v W.length (W.map Value.string) := by
  obtain ⟨_, _, _, _, _, h, _⟩ := h
  exact h
/-- Where a text of the slice lies. -/
theorem With.cell (h : With w0 w p room C T v W) {i : Nat} (hi : i < W.length) : ∃ g cap, v = .slice (some ⟨g, 0, none⟩) W.length cap ∧ w.cell? ⟨g, i, none⟩ = some (.string (W[i])) := by
  have hr := h.row
  rcases hr.2 with ⟨_, h0⟩ | ⟨g, cap, cur, hv, _⟩
  · omega
  · subst hv
    exact ⟨g, cap, rfl, by rw [hr.cellAt i (by omega), List.getElem?_map, List.getElem?_eq_getElem hi]; rfl⟩
end

theorem StrsIn.cells {w : World} {ao : Option Addr} {n : Nat} {xs : List ByteArray} (hl : xs.length = n) (h : 0 < n → ∃ b off, ao = some ⟨b, off, none⟩ ∧ ∀ i, i < n → w.cell? ⟨b, off + i, none⟩ = some (.string (xs.getD i ⟨#[]⟩))) :
    ∃ b off, ∀ i, i < n → ∃ z, ao = some ⟨b, off, none⟩ ∧ w.cell? ⟨b, off + i, none⟩ = some (.string z) ∧ b < w.heap.size := by
  by_cases h0 : 0 < n
  · obtain ⟨b, off, ha, hc⟩ := h h0
    exact ⟨b, off, fun i hi => ⟨xs.getD i ⟨#[]⟩, ha, hc i hi, World.block_lt_of_cell? _ _ (hc i hi)⟩⟩
  · exact ⟨0, 0, fun i hi => by omega⟩

/-- v is a slice of flags that reads as xs. -/
def FlagsIn (w : World) (v : Value) (xs : List Bool) : Prop :=
  ∃ ao cap, v = .slice ao xs.length cap ∧ xs.length ≤ 9223372036854775807 ∧ ∃ b off, ∀ i, i < xs.length → ∃ z, ao = some ⟨b, off, none⟩ ∧ w.cell? ⟨b, off + i, none⟩ = some (.bool z) ∧ b < w.heap.size

section
variable {H : Type} {enc : TypeId × Value → H} {w : World} {base : Nat} {spare : Nat → Bool} {held : Bool}

theorem open_texts {r : Reach} {b0 : Nat} {v : Value} {d : DataW H} {p : List MemPlace} (hv : Value.okWide Try.prog w r b0 39 v) (h : DataW.Trod enc Try.prog w base spare held 39 v d p) : ∃ xs, StrsIn w v xs := by
  obtain ⟨a, len, cap, rfl⟩ := okWide_slice Try.underlying39 hv
  obtain ⟨fuel, hf⟩ := h
  rcases open_strs Try.underlying39 Try.underlying9 (by kernel_rfl) hf with ⟨hcs, _⟩ | ⟨a', len', cap', m, Sx, hcs, _, hl, hm, hmm, _, hc⟩
  · simp only [Value.cells, List.cons.injEq, Value.slice.injEq, and_true] at hcs
    obtain ⟨rfl, rfl, rfl⟩ := hcs
    exact ⟨[], none, 0, rfl, by simp, fun h => by simp at h⟩
  · simp only [Value.cells, List.cons.injEq, Value.slice.injEq, and_true] at hcs
    obtain ⟨rfl, rfl, rfl⟩ := hcs
    have hlm : len ≤ m := by split at hmm <;> omega
    unfold maxLen at hm
    refine ⟨(List.range len).map Sx, some a', cap, by simp, by simp; omega, fun h0 => ?_⟩
    rw [List.length_map, List.length_range] at h0
    obtain ⟨b, off, spot⟩ := a'
    have hspot : spot = none := by
      have := (hc 0 (by omega)).1
      simpa [Addr.add] using World.cell?_spot this
    subst hspot
    refine ⟨b, off, rfl, fun i hi => ?_⟩
    rw [List.length_map, List.length_range] at hi
    have := (hc i (by omega)).1
    rw [Addr.add_lit] at this
    rw [this]
    simp [List.getD_eq_getElem?_getD, hi]

theorem open_flags {r : Reach} {b0 : Nat} {v : Value} {d : DataW H} {p : List MemPlace} (hv : Value.okWide Try.prog w r b0 46 v) (h : DataW.Trod enc Try.prog w base spare held 46 v d p) : ∃ xs, FlagsIn w v xs := by
  obtain ⟨a, len, cap, rfl⟩ := okWide_slice Try.underlying46 hv
  obtain ⟨fuel, hf⟩ := h
  rcases open_slice Try.underlying46 hf with ⟨hcs, _⟩ | ⟨a', len', cap', m, n, D, Pl, hcs, _, hl, hm, hmm, _, hi⟩
  · simp only [Value.cells, List.cons.injEq, Value.slice.injEq, and_true] at hcs
    obtain ⟨rfl, rfl, rfl⟩ := hcs
    exact ⟨[], none, 0, rfl, by simp, 0, 0, fun i h => by simp at h⟩
  · simp only [Value.cells, List.cons.injEq, Value.slice.injEq, and_true] at hcs
    obtain ⟨rfl, rfl, rfl⟩ := hcs
    have hlm : len ≤ m := by split at hmm <;> omega
    unfold maxLen at hm
    have hop : ∀ i, i < len → ∃ z : Bool, w.cell? (a'.add i) = some (.bool z) := by
      intro i hil
      obtain ⟨cs', hc, ht⟩ := hi i (by omega)
      rw [show Try.prog.cellsOf 4 = 1 by kernel_rfl] at hc
      obtain ⟨z, hz, _⟩ := DataW.trod_bool Try.underlying4 ht
      subst hz
      obtain ⟨_, _, hat⟩ := World.cells?_some hc
      have := hat 0 (by omega)
      rw [add_add] at this
      exact ⟨z, by simpa using this⟩
    by_cases h0 : len = 0
    · subst h0
      exact ⟨[], _, cap, rfl, by simp, 0, 0, fun i h => by simp at h⟩
    · obtain ⟨b, off, spot⟩ := a'
      have hspot : spot = none := by
        obtain ⟨z, hc⟩ := hop 0 (by omega)
        simpa [Addr.add] using World.cell?_spot hc
      subst hspot
      refine ⟨List.replicate len true, some ⟨b, off, none⟩, cap, by simp, by simp; omega, b, off, fun i hi => ?_⟩
      rw [List.length_replicate] at hi
      obtain ⟨z, hc⟩ := hop i hi
      rw [Addr.add_lit] at hc
      exact ⟨z, rfl, hc, World.block_lt_of_cell? _ _ hc⟩
end

end Go.Proofs.Yteolokckflckaaa
