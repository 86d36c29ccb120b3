/-
  A script of the law's calls, told by its cells.
-/
import Derived.Test.YteolokckflckaaaWith
namespace Go.Proofs.Yteolokckflckaaa
open Go.ChangeShapes Go.WideShapes Go.Deep Go.RowKit Go.Conc

/-- What the cells of a call hold. -/
def OpAt (w : World) (b o : Nat) (kd : Int) (s : ByteArray) (fk fn fm : Int) : Prop :=
  w.cell? ⟨b, o, none⟩ = some (.int .i64 kd) ∧ w.cell? ⟨b, o + 1, none⟩ = some (.string s) ∧ w.cell? ⟨b, o + 2, none⟩ = some (.int .i64 fk) ∧ w.cell? ⟨b, o + 2 + 1, none⟩ = some (.int .i64 fn) ∧ w.cell? ⟨b, o + 2 + 2, none⟩ = some (.int .u8 fm)
/-- v is a slice of as many calls as xs has places. -/
def OpsIn (w : World) (v : Value) (xs : List Unit) : Prop :=
  ∃ ao cap, v = .slice ao xs.length cap ∧ xs.length ≤ 9223372036854775807 ∧ ∃ b off, ∀ i, i < xs.length → ∃ kd s fk fn fm, ao = some ⟨b, off, none⟩ ∧ b < w.heap.size ∧ s.size ≤ 9223372036854775807 ∧ OpAt w b (off + i * 5) kd s fk fn fm

theorem OpAt.below {w w' : World} {b o : Nat} {kd : Int} {s : ByteArray} {fk fn fm : Int} (h : OpAt w b o kd s fk fn fm) (hb : Below w.heap.size w w') : OpAt w' b o kd s fk fn fm := by
  obtain ⟨h0, h1, h2, h3, h4⟩ := h
  have hl := World.block_lt_of_cell? _ _ h0
  exact ⟨(hb.cell (p := ⟨b, o, none⟩) hl).trans h0, (hb.cell (p := ⟨b, o + 1, none⟩) hl).trans h1, (hb.cell (p := ⟨b, o + 2, none⟩) hl).trans h2, (hb.cell (p := ⟨b, o + 2 + 1, none⟩) hl).trans h3, (hb.cell (p := ⟨b, o + 2 + 2, none⟩) hl).trans h4⟩

theorem cells44 : Try.prog.cellsOf 44 = 5 := by kernel_rfl
theorem cells30 : Try.prog.cellsOf 30 = 3 := by kernel_rfl

section
variable {H : Type} {enc : TypeId × Value → H} {w : World} {base : Nat} {spare : Nat → Bool} {held : Bool}

theorem open_ops {r : Reach} {b0 : Nat} {v : Value} {d : DataW H} {p : List MemPlace} (hv : Value.okWide Try.prog w r b0 37 v) (h : DataW.Trod enc Try.prog w base spare held 37 v d p) : ∃ xs, OpsIn w v xs := by
  obtain ⟨a, len, cap, rfl⟩ := okWide_slice Try.underlying37 hv
  obtain ⟨fuel, hf⟩ := h
  rcases open_slice Try.underlying37 hf with ⟨hcs, _⟩ | ⟨a', len', cap', m, n, D, Pl, hcs, _, hl, hm, hmm, _, hi⟩
  · simp only [Value.cells, List.cons.injEq, Value.slice.injEq, and_true] at hcs
    obtain ⟨rfl, rfl, rfl⟩ := hcs
    exact ⟨[], none, 0, rfl, by simp, 0, 0, fun i h => by simp at h⟩
  · simp only [Value.cells, List.cons.injEq, Value.slice.injEq, and_true] at hcs
    obtain ⟨rfl, rfl, rfl⟩ := hcs
    have hlm : len ≤ m := by split at hmm <;> omega
    unfold maxLen at hm
    have hop : ∀ i, i < len → ∃ (kd : Int) (s : ByteArray) (fk fn fm : Int), s.size ≤ 9223372036854775807 ∧ w.cell? (a'.add (i * 5)) = some (.int .i64 kd) ∧ w.cell? (a'.add (i * 5 + 1)) = some (.string s) ∧ w.cell? (a'.add (i * 5 + 2)) = some (.int .i64 fk) ∧ w.cell? (a'.add (i * 5 + 3)) = some (.int .i64 fn) ∧ w.cell? (a'.add (i * 5 + 4)) = some (.int .u8 fm) := by
      intro i hil
      obtain ⟨cs', hc, ht⟩ := hi i (by omega)
      rw [cells44] at hc
      obtain ⟨xs, n', _, _, hcl, hlen, hfl⟩ := DataW.trod_struct Try.underlying44 ht
      rw [cells44] at hcl
      match cs', hcl with
      | [c0, c1, c2, c3, c4], _ =>
        obtain ⟨_, _, hat⟩ := World.cells?_some hc
        match xs, hlen with
        | [y0, y1, y2], _ =>
          have t0 := hfl 0 _ rfl
          have t1 := hfl 1 _ rfl
          have t2 := hfl 2 _ rfl
          obtain ⟨kd, e0, _⟩ := DataW.trod_int Try.underlying3 t0
          obtain ⟨s, e1, _, hsz⟩ := DataW.trod_string Try.underlying9 t1
          have t2' : DataW.trod enc Try.prog w base spare held n' 30 [c2, c3, c4] = some y2 := by
            have h := t2
            change DataW.trod enc Try.prog w base spare held n' 30 (List.take (Try.prog.cellsOf 30) (List.drop 2 [c0, c1, c2, c3, c4])) = _ at h
            rw [cells30] at h
            exact h
          obtain ⟨zs, n'', _, _, _, hlen2, hfl2⟩ := DataW.trod_struct Try.underlying30 t2'
          match zs, hlen2 with
          | [z0, z1, z2], _ =>
            have u0 := hfl2 0 _ rfl
            have u1 := hfl2 1 _ rfl
            have u2 := hfl2 2 _ rfl
            obtain ⟨fk, f0, _⟩ := DataW.trod_int Try.underlying3 u0
            obtain ⟨fn, f1, _⟩ := DataW.trod_int Try.underlying3 u1
            obtain ⟨fm, f2, _⟩ := DataW.trod_int Try.underlying5 u2
            change List.take (Try.prog.cellsOf 3) (List.drop 0 [c0, c1, c2, c3, c4]) = _ at e0
            change List.take (Try.prog.cellsOf 9) (List.drop 1 [c0, c1, c2, c3, c4]) = _ at e1
            change List.take (Try.prog.cellsOf 3) (List.drop 0 [c2, c3, c4]) = _ at f0
            change List.take (Try.prog.cellsOf 3) (List.drop 1 [c2, c3, c4]) = _ at f1
            change List.take (Try.prog.cellsOf 5) (List.drop 2 [c2, c3, c4]) = _ at f2
            simp only [show Try.prog.cellsOf 3 = 1 by kernel_rfl, show Try.prog.cellsOf 9 = 1 by kernel_rfl, show Try.prog.cellsOf 5 = 1 by kernel_rfl, List.drop_zero, List.take_succ_cons, List.take_zero, List.cons.injEq, and_true, List.drop_succ_cons] at e0 e1 f0 f1 f2
            subst e0 e1 f0 f1 f2
            refine ⟨kd, s, fk, fn, fm, by unfold maxLen at hsz; exact hsz, ?_, ?_, ?_, ?_, ?_⟩
            · have := hat 0 (by omega); rwa [add_add] at this
            · have := hat 1 (by omega); rwa [add_add] at this
            · have := hat 2 (by omega); rwa [add_add] at this
            · have := hat 3 (by omega); rwa [add_add] at this
            · have := hat 4 (by omega); rwa [add_add] at this
    by_cases h0 : len = 0
    · subst h0
      exact ⟨[], _, cap, rfl, by simp, 0, 0, fun i h => by simp at h⟩
    · obtain ⟨b, off, spot⟩ := a'
      have hspot : spot = none := by
        obtain ⟨kd, s, fk, fn, fm, _, hc, _⟩ := hop 0 (by omega)
        simpa [Addr.add] using World.cell?_spot hc
      subst hspot
      refine ⟨List.replicate len (), some ⟨b, off, none⟩, cap, by simp, by simp; omega, b, off, fun i hi => ?_⟩
      rw [List.length_replicate] at hi
      obtain ⟨kd, s, fk, fn, fm, hsz, h1, h2, h3, h4, h5⟩ := hop i hi
      rw [Addr.add_lit] at h1 h2 h3 h4 h5
      exact ⟨kd, s, fk, fn, fm, rfl, World.block_lt_of_cell? _ _ h1, hsz, h1, h2, h3, h4, h5⟩
end

end Go.Proofs.Yteolokckflckaaa
