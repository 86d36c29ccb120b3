/-
  A script of the law's calls, told as a plain list.
-/
import Derived.Test.YtknjniadphoflaaDoc7
namespace Go.Proofs.Ytknjniadphoflaa
open Go.ChangeShapes Go.WideShapes Go.Deep Go.RowKit Go.Conc

/-- v is a slice of calls that reads as ops. -/
def OpsIn (w : World) (v : Value) (ops : List (Int × Int × Int × Int)) : Prop :=
  ∃ ao cap, v = .slice ao ops.length cap ∧ ops.length ≤ 9223372036854775807 ∧
    ∃ b off, ∀ i, i < ops.length → ∃ k n m s, ao = some ⟨b, off, none⟩ ∧ ops[i]? = some (k, n, m, s) ∧ b < w.heap.size ∧
      w.cell? ⟨b, off + i * 4, none⟩ = some (.int .i64 k) ∧ w.cell? ⟨b, off + i * 4 + 1, none⟩ = some (.int .i64 n) ∧ w.cell? ⟨b, off + i * 4 + 2, none⟩ = some (.int .i64 m) ∧ w.cell? ⟨b, off + i * 4 + 3, none⟩ = some (.int .i64 s)

theorem cells40 : Try.prog.cellsOf 40 = 4 := by kernel_rfl

section
variable {H : Type} {enc : TypeId × Value → H} {w : World} {base : Nat} {spare : Nat → Bool} {held : Bool}

theorem open_ops {r : Reach} {b0 : Nat} {v : Value} {d : DataW H} {p : List MemPlace} (hv : Value.okWide Try.prog w r b0 30 v) (h : DataW.Trod enc Try.prog w base spare held 30 v d p) : ∃ ops, OpsIn w v ops := by
  obtain ⟨a, len, cap, rfl⟩ := okWide_slice Try.underlying30 hv
  obtain ⟨fuel, hf⟩ := h
  rcases open_slice Try.underlying30 hf with ⟨hcs, _⟩ | ⟨a', len', cap', m, n, D, Pl, hcs, _, hl, hm, hmm, _, hi⟩
  · simp only [Value.cells, List.cons.injEq, Value.slice.injEq, and_true] at hcs
    obtain ⟨rfl, rfl, rfl⟩ := hcs
    exact ⟨[], none, 0, rfl, by simp, 0, 0, fun i h => by simp at h⟩
  · simp only [Value.cells, List.cons.injEq, Value.slice.injEq, and_true] at hcs
    obtain ⟨rfl, rfl, rfl⟩ := hcs
    have hlm : len ≤ m := by split at hmm <;> omega
    have hop : ∀ i, i < len → ∃ q : Int × Int × Int × Int, w.cell? (a'.add (i * 4)) = some (.int .i64 q.1) ∧ w.cell? (a'.add (i * 4 + 1)) = some (.int .i64 q.2.1) ∧ w.cell? (a'.add (i * 4 + 2)) = some (.int .i64 q.2.2.1) ∧ w.cell? (a'.add (i * 4 + 3)) = some (.int .i64 q.2.2.2) := by
      intro i hil
      obtain ⟨cs', hc, ht⟩ := hi i (by omega)
      rw [cells40] at hc
      obtain ⟨xs, n', _, _, hcl, hlen, hfl⟩ := DataW.trod_struct Try.underlying40 ht
      rw [cells40] at hcl
      match cs', hcl with
      | [c0, c1, c2, c3], _ =>
        obtain ⟨_, _, hat⟩ := World.cells?_some hc
        match xs, hlen with
        | [y0, y1, y2, y3], _ =>
          have t0 := hfl 0 _ rfl
          have t1 := hfl 1 _ rfl
          have t2 := hfl 2 _ rfl
          have t3 := hfl 3 _ rfl
          obtain ⟨k, e0, _⟩ := DataW.trod_int Try.underlying3 t0
          obtain ⟨q, e1, _⟩ := DataW.trod_int Try.underlying3 t1
          obtain ⟨s, e2, _⟩ := DataW.trod_int Try.underlying3 t2
          obtain ⟨u, e3, _⟩ := DataW.trod_int Try.underlying3 t3
          change List.take (Try.prog.cellsOf 3) (List.drop 0 [c0, c1, c2, c3]) = _ at e0
          change List.take (Try.prog.cellsOf 3) (List.drop 1 [c0, c1, c2, c3]) = _ at e1
          change List.take (Try.prog.cellsOf 3) (List.drop 2 [c0, c1, c2, c3]) = _ at e2
          change List.take (Try.prog.cellsOf 3) (List.drop 3 [c0, c1, c2, c3]) = _ at e3
          simp only [show Try.prog.cellsOf 3 = 1 by kernel_rfl, List.drop_zero, List.take_succ_cons, List.take_zero, List.cons.injEq, and_true, List.drop_succ_cons] at e0 e1 e2 e3
          subst e0 e1 e2 e3
          refine ⟨(k, q, s, u), ?_, ?_, ?_, ?_⟩
          · have := hat 0 (by omega); rwa [add_add] at this
          · have := hat 1 (by omega); rwa [add_add] at this
          · have := hat 2 (by omega); rwa [add_add] at this
          · have := hat 3 (by omega); rwa [add_add] at this
    unfold maxLen at hm
    by_cases h0 : len = 0
    · subst h0
      exact ⟨[], _, cap, rfl, by simp, 0, 0, fun i h => by simp at h⟩
    · obtain ⟨b, off, spot⟩ := a'
      have hspot : spot = none := by
        obtain ⟨q, hc, _⟩ := hop 0 (by omega)
        simpa [Addr.add] using World.cell?_spot hc
      subst hspot
      have hop' : ∀ i, i < len → ∃ q : Int × Int × Int × Int, w.cell? ⟨b, off + i * 4, none⟩ = some (.int .i64 q.1) ∧ w.cell? ⟨b, off + i * 4 + 1, none⟩ = some (.int .i64 q.2.1) ∧ w.cell? ⟨b, off + i * 4 + 2, none⟩ = some (.int .i64 q.2.2.1) ∧ w.cell? ⟨b, off + i * 4 + 3, none⟩ = some (.int .i64 q.2.2.2) := by
        intro i hi
        obtain ⟨q, s1, s2, s3, s4⟩ := hop i hi
        rw [Addr.add_lit] at s1 s2 s3 s4
        exact ⟨q, s1, s2, s3, s4⟩
      have : ∃ f : Nat → Int × Int × Int × Int, ∀ i, i < len → w.cell? ⟨b, off + i * 4, none⟩ = some (.int .i64 (f i).1) ∧ w.cell? ⟨b, off + i * 4 + 1, none⟩ = some (.int .i64 (f i).2.1) ∧ w.cell? ⟨b, off + i * 4 + 2, none⟩ = some (.int .i64 (f i).2.2.1) ∧ w.cell? ⟨b, off + i * 4 + 3, none⟩ = some (.int .i64 (f i).2.2.2) :=
        ⟨fun i => if hil : i < len then (hop' i hil).choose else (0, 0, 0, 0), fun i hil => by simp only [dif_pos hil]; exact (hop' i hil).choose_spec⟩
      obtain ⟨f, hf'⟩ := this
      refine ⟨(List.range len).map f, some ⟨b, off, none⟩, cap, by simp, by simp; omega, b, off, fun i hi => ?_⟩
      rw [List.length_map, List.length_range] at hi
      obtain ⟨s1, s2, s3, s4⟩ := hf' i hi
      exact ⟨_, _, _, _, rfl, by rw [List.getElem?_map, List.getElem?_range hi]; rfl, World.block_lt_of_cell? _ _ s1, s1, s2, s3, s4⟩
end

end Go.Proofs.Ytknjniadphoflaa
