/-
  Of keys that were put, the last ones: plain Lean. No program here.
-/
import Derived.Test.YtggpmnhbplmagaaModel
namespace Go.Proofs.Ytggpmnhbplmagaa

section
variable {K V : Type} [DecidableEq K]

/-- Each key once: where it stands first. -/
def once : List (K × V) → List (K × V)
  | [] => []
  | p :: L => p :: without p.1 (once L)

theorem without_append (k : K) (L M : List (K × V)) : without k (L ++ M) = without k L ++ without k M := by simp [without]
theorem mem_without {k : K} {p : K × V} {L : List (K × V)} : p ∈ without k L ↔ p ∈ L ∧ p.1 ≠ k := by simp [without]
theorem without_comm (k k' : K) (L : List (K × V)) : without k (without k' L) = without k' (without k L) := by
  simp [without, List.filter_filter, Bool.and_comm]

theorem look_isSome {k : K} {L : List (K × V)} : (look k L).isSome = true ↔ ∃ p ∈ L, p.1 = k := by
  induction L with
  | nil => simp [look]
  | cons q L ih =>
    simp only [look]
    by_cases h : q.1 = k
    · simp [h]
    · simp [h, ih]

theorem once_snoc (L : List (K × V)) (x : K × V) : once (L ++ [x]) = if (look x.1 (once L)).isSome then once L else once L ++ [x] := by
  induction L with
  | nil => simp [once, look, without]
  | cons p L ih =>
    have ee : once (p :: L) = p :: without p.1 (once L) := rfl
    have ee2 : once (p :: L ++ [x]) = p :: without p.1 (once (L ++ [x])) := rfl
    rw [ee2, ee, ih]
    clear ee ee2
    by_cases hp : p.1 = x.1
    · rw [if_pos (show (look x.1 (p :: without p.1 (once L))).isSome = true by simp [look, hp])]
      congr 1
      split
      · rfl
      · rw [without_append]
        have : without p.1 [x] = [] := by simp [without, hp]
        rw [this, List.append_nil]
    · have hl : (look x.1 (p :: without p.1 (once L))).isSome = (look x.1 (once L)).isSome := by
        rw [Bool.eq_iff_iff, look_isSome, look_isSome]
        constructor
        · rintro ⟨q, hq, e⟩
          rcases List.mem_cons.1 hq with rfl | hq
          · exact absurd e hp
          · exact ⟨q, (mem_without.1 hq).1, e⟩
        · rintro ⟨q, hq, e⟩
          exact ⟨q, List.mem_cons_of_mem _ (mem_without.2 ⟨hq, fun h => hp (h.symm.trans e)⟩), e⟩
      rw [hl]
      split
      · rfl
      · rw [without_append, List.cons_append]
        have : without p.1 [x] = [x] := by simp [without, Ne.symm hp]
        rw [this]

theorem once_prefix (L M : List (K × V)) : ∃ N, once (L ++ M) = once L ++ N := by
  induction M generalizing L with
  | nil => exact ⟨[], by simp⟩
  | cons x M ih =>
    obtain ⟨N, hN⟩ := ih (L ++ [x])
    rw [show L ++ x :: M = L ++ [x] ++ M by simp, hN, once_snoc]
    split
    · exact ⟨N, rfl⟩
    · exact ⟨x :: N, by simp⟩

theorem once_nodup (L : List (K × V)) : ((once L).map (·.1)).Nodup := by
  induction L with
  | nil => simp [once]
  | cons p L ih =>
    simp only [once, List.map_cons, List.nodup_cons]
    refine ⟨fun h => ?_, nodup_without ih⟩
    obtain ⟨q, hq, e⟩ := List.mem_map.1 h
    exact (mem_without.1 hq).2 e

/-- Put, said of the first so many of all. -/
theorem putIn_take {room : Nat} (h0 : 1 ≤ room) (k : K) (v : V) (D : List (K × V)) (hD : (D.map (·.1)).Nodup) :
    putIn room k v (D.take room) = ((k, v) :: without k D).take room := by
  obtain ⟨r, rfl⟩ : ∃ r, room = r + 1 := ⟨room - 1, by omega⟩
  rw [List.take_succ_cons]
  unfold putIn
  cases hk : look k (D.take (r + 1)) with
  | some s =>
    simp only
    congr 1
    obtain ⟨L1, L2, hL, hno⟩ := look_some hk
    have hD' : D = L1 ++ (k, s) :: (L2 ++ D.drop (r + 1)) := by
      conv => lhs; rw [← List.take_append_drop (r + 1) D, hL]
      simp
    rw [hD'] at hD
    obtain ⟨n1, n2⟩ := nodup_split hD
    rw [hL, without_split hno (fun p hp => n2 p (List.mem_append_left _ hp))]
    conv => rhs; rw [hD', without_split n1 n2]
    by_cases hlen : D.length ≤ r + 1
    · have : D.drop (r + 1) = [] := List.drop_eq_nil_of_le hlen
      rw [this, List.append_nil, List.take_of_length_le]
      have := congrArg List.length hD'
      simp at this ⊢
      omega
    · have hl := congrArg List.length hL
      rw [List.length_take, Nat.min_eq_left (by omega)] at hl
      simp only [List.length_append, List.length_cons] at hl
      rw [← List.append_assoc, List.take_append_of_le_length (by simp; omega), List.take_of_length_le (by simp; omega)]
  | none =>
    have hno := look_none hk
    simp only
    by_cases hlen : D.length ≤ r
    · have hDt : D.take (r + 1) = D := List.take_of_length_le (by omega)
      rw [hDt] at hno ⊢
      rw [if_pos (by omega), without_none hno, List.take_of_length_le hlen]
    · rw [if_neg (by rw [List.length_take]; omega)]
      congr 1
      have hw : without k D = D.take (r + 1) ++ without k (D.drop (r + 1)) := by
        conv => lhs; rw [← List.take_append_drop (r + 1) D]
        rw [without_append, without_none hno]
      rw [hw, List.take_append_of_le_length (by rw [List.length_take]; omega), List.take_take, List.dropLast_eq_take, List.take_take, List.length_take]
      congr 1
      omega

/-- The first k of them, the last first. -/
def lastOf (f : Nat → K × V) : Nat → List (K × V)
  | 0 => []
  | k + 1 => f k :: lastOf f k

theorem lastOf_put {room : Nat} (h0 : 1 ≤ room) (f : Nat → K × V) (k : Nat) :
    putIn room (f k).1 (f k).2 ((once (lastOf f k)).take room) = (once (lastOf f (k + 1))).take room :=
  putIn_take h0 _ _ _ (once_nodup _)

/-- What was found, if so many are enough. -/
theorem once_enough {room : Nat} {P M : List (K × V)} (h : (once P).length = room) : (once (P ++ M)).take room = once P := by
  obtain ⟨N, hN⟩ := once_prefix P M
  rw [hN, List.take_append_of_le_length (by omega), List.take_of_length_le (by omega)]

theorem look_used {k k' : K} {L : List (K × V)} : look k' (used k L) = look k' L := by
  unfold used
  cases hk : look k L with
  | none => rfl
  | some v =>
    simp only [look]
    by_cases h : k = k'
    · subst h; rw [if_pos rfl, hk]
    · rw [if_neg h]
      clear hk
      induction L with
      | nil => rfl
      | cons p L ih =>
        simp only [without, List.filter_cons]
        by_cases hp : p.1 = k
        · rw [if_neg (by simp [hp])]
          simp only [look]
          rw [if_neg (fun e => h (hp.symm.trans e))]
          exact ih
        · rw [if_pos (by simp [hp])]
          simp only [look]
          split
          · rfl
          · exact ih

theorem look_at {L : List (K × V)} (h : (L.map (·.1)).Nodup) {i : Nat} {p : K × V} (hi : L[i]? = some p) : look p.1 L = some p.2 := by
  induction L generalizing i with
  | nil => simp at hi
  | cons q L ih =>
    simp only [List.map_cons, List.nodup_cons] at h
    cases i with
    | zero =>
      simp only [List.getElem?_cons_zero, Option.some.injEq] at hi
      subst hi
      simp [look]
    | succ i =>
      rw [List.getElem?_cons_succ] at hi
      simp only [look]
      rw [if_neg (fun e => h.1 (List.mem_map.2 ⟨p, List.mem_of_getElem? hi, e.symm⟩))]
      exact ih h.2 hi
end

end Go.Proofs.Ytggpmnhbplmagaa
