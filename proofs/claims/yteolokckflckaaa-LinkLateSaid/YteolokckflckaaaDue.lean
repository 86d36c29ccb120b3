/-
  Messages that are late, in plain Lean: which are still late behind so many steps, which come at a step.
-/
import Derived.Test.YteolokckflckaaaIns
namespace Go.Proofs.Yteolokckflckaaa

/-- What is late behind t steps. -/
def lateAt (D : List (ByteArray × Nat)) (t : Nat) : List (ByteArray × Nat) := (D.filter fun q => decide (t < q.2)).map fun q => (q.1, q.2 - t)
/-- What comes at step t, of those from place i on. -/
def due (D : List (ByteArray × Nat)) (t i : Nat) : List ByteArray := ((D.drop i).filter fun q => decide (q.2 = t)).map (·.1)

theorem lateAt_zero {D : List (ByteArray × Nat)} (h : Good D) : lateAt D 0 = D := by
  unfold lateAt
  rw [List.filter_eq_self.2 (fun q hq => by have := h q hq; simp; omega)]
  simp
theorem lateAt_done {D : List (ByteArray × Nat)} (h : Good D) (t : Nat) (ht : 8 ≤ t) : lateAt D t = [] := by
  unfold lateAt
  rw [List.filter_eq_nil_iff.2 (fun q hq => by have := h q hq; simp; omega)]
  rfl
theorem stepT_lateAt (D : List (ByteArray × Nat)) (t : Nat) (ht : 1 ≤ t) : stepT (lateAt D (t - 1)) = lateAt D t := by
  unfold stepT lateAt
  rw [List.filter_map, List.filter_filter, List.map_map]
  have e : D.filter (fun a => (decide (t - 1 < a.2) && ((fun q : ByteArray × Nat => decide (1 < q.2)) ∘ fun q => (q.1, q.2 - (t - 1))) a)) = D.filter (fun q => decide (t < q.2)) := by
    refine List.filter_congr (fun q _ => ?_)
    simp only [Function.comp, ← Bool.decide_and]
    congr 1
    simp only [eq_iff_iff]
    omega
  have e' : D.filter (fun a => (((fun q : ByteArray × Nat => decide (1 < q.2)) ∘ fun q => (q.1, q.2 - (t - 1))) a && decide (t - 1 < a.2))) = D.filter (fun q => decide (t < q.2)) := by
    rw [← e]
    refine List.filter_congr (fun q _ => Bool.and_comm _ _)
  first | rw [e] | rw [e']
  refine List.map_congr_left (fun q hq => ?_)
  have : t < q.2 := by have := (List.mem_filter.1 hq).2; simpa using this
  simp only [Function.comp, Prod.mk.injEq, true_and]
  omega

theorem stepC_all (room : Nat) : ∀ (T : List (ByteArray × Nat)) (C : List ByteArray), C.length + T.length ≤ room → stepC room C T = C ++ (T.filter fun q => decide (q.2 ≤ 1)).map (·.1)
  | [], C, _ => by simp [stepC]
  | q :: T, C, h => by
    rw [List.length_cons] at h
    have ih := stepC_all room T
    unfold stepC at ih ⊢
    rw [List.foldl_cons]
    by_cases hq : q.2 ≤ 1
    · rw [if_pos hq, ih _ (by unfold comesL; rw [if_pos (by omega), List.length_append, List.length_singleton]; omega)]
      unfold comesL
      rw [if_pos (by omega), List.filter_cons_of_pos (by simpa using hq)]
      simp
    · rw [if_neg hq, ih _ (by omega), List.filter_cons_of_neg (by simpa using hq)]

theorem stepC_lateAt (room : Nat) (D : List (ByteArray × Nat)) (t : Nat) (ht : 1 ≤ t) (hD : D.length ≤ room) : stepC room [] (lateAt D (t - 1)) = due D t 0 := by
  rw [stepC_all]
  · unfold lateAt due
    rw [List.filter_map, List.filter_filter, List.map_map, List.nil_append, List.drop_zero]
    have e : D.filter (fun a => ((((fun q : ByteArray × Nat => decide (q.2 ≤ 1)) ∘ fun q => (q.1, q.2 - (t - 1))) a) && decide (t - 1 < a.2))) = D.filter (fun q => decide (q.2 = t)) := by
      refine List.filter_congr (fun q _ => ?_)
      simp only [Function.comp, ← Bool.decide_and]
      congr 1
      simp only [eq_iff_iff]
      omega
    rw [e]
    rfl
  · unfold lateAt
    rw [List.length_map]
    have := List.length_filter_le (fun q : ByteArray × Nat => decide (t - 1 < q.2)) D
    simp
    omega

theorem due_end (D : List (ByteArray × Nat)) (t : Nat) : due D t D.length = [] := by
  unfold due
  rw [List.drop_length]
  rfl
theorem due_yes (D : List (ByteArray × Nat)) (t i : Nat) (hi : i < D.length) (h : (D[i]).2 = t) : due D t i = (D[i]).1 :: due D t (i + 1) := by
  unfold due
  rw [List.drop_eq_getElem_cons hi, List.filter_cons_of_pos (by simpa using h)]
  rfl
theorem due_no (D : List (ByteArray × Nat)) (t i : Nat) (hi : i < D.length) (h : (D[i]).2 ≠ t) : due D t i = due D t (i + 1) := by
  unfold due
  rw [List.drop_eq_getElem_cons hi, List.filter_cons_of_neg (by simpa using h)]

/-- The messages of LinkLate, the first n. -/
def msgs (xs : List Int) (n : Nat) : List (ByteArray × Nat) := (List.range n).map fun (j : Nat) => (byteStr [(j : Int)], (1 + bits .and .i64 (xs.getD j 0) 7).toNat)
theorem msgs_length (xs : List Int) (n : Nat) : (msgs xs n).length = n := by simp [msgs]
theorem msgs_succ (xs : List Int) (n : Nat) : msgs xs (n + 1) = msgs xs n ++ [(byteStr [(n : Int)], (1 + bits .and .i64 (xs.getD n 0) 7).toNat)] := by
  unfold msgs
  rw [List.range_succ, List.map_append]
  rfl
theorem msgs_at (xs : List Int) (n i : Nat) (h : i < (msgs xs n).length) : (msgs xs n)[i] = (byteStr [(i : Int)], (1 + bits .and .i64 (xs.getD i 0) 7).toNat) := by
  simp [msgs]
theorem msgs_good (xs : List Int) (n : Nat) : Good (msgs xs n) := by
  intro q hq
  obtain ⟨j, _, rfl⟩ := List.mem_map.1 hq
  have : 0 ≤ bits .and .i64 (xs.getD j 0) 7 ∧ bits .and .i64 (xs.getD j 0) 7 ≤ 7 := and_le _ 7 (by decide) (by omega)
  simp only
  omega

end Go.Proofs.Yteolokckflckaaa
