/-
  What waits or is late was sent, but for a byte at most: in plain Lean.
-/
import Derived.Test.YteolokckflckaaaNear
namespace Go.Proofs.Yteolokckflckaaa

/-- Each message is one of W, or one of W with a byte turned; those of W are no longer than a text may be. -/
def SentOk (C : List ByteArray) (T : List (ByteArray × Nat)) (W : List ByteArray) : Prop :=
  (∀ s ∈ C, ∃ t ∈ W, nearB s t = true) ∧ (∀ q ∈ T, ∃ t ∈ W, nearB q.1 t = true) ∧ ∀ t ∈ W, t.size ≤ 9223372036854775807

theorem nearB_size {a b : ByteArray} (h : nearB a b = true) : a.size = b.size := by
  unfold nearB at h
  simp only [Bool.and_eq_true, decide_eq_true_eq] at h
  exact h.1
theorem mem_comesL {room : Nat} {C : List ByteArray} {s x : ByteArray} (h : x ∈ comesL room C s) : x ∈ C ∨ x = s := by
  unfold comesL at h
  split at h
  · rcases List.mem_append.1 h with h | h
    · exact .inl h
    · exact .inr (List.mem_singleton.1 h)
  · exact .inl h
theorem comesL_length (room : Nat) (C : List ByteArray) (s : ByteArray) : (comesL room C s).length ≤ C.length + 1 := by
  unfold comesL
  split <;> simp
theorem mem_stepC {room : Nat} {x : ByteArray} : ∀ {T : List (ByteArray × Nat)} {C : List ByteArray}, x ∈ stepC room C T → x ∈ C ∨ ∃ q ∈ T, q.1 = x
  | [], _, h => .inl h
  | q :: T, C, h => by
    have h' : x ∈ stepC room (if q.2 ≤ 1 then comesL room C q.1 else C) T := h
    rcases mem_stepC h' with h | ⟨r, hr, hx⟩
    · split at h
      · rcases mem_comesL h with h | h
        · exact .inl h
        · exact .inr ⟨q, List.mem_cons_self .., h.symm⟩
      · exact .inl h
    · exact .inr ⟨r, List.mem_cons_of_mem _ hr, hx⟩
theorem step_length (room : Nat) : ∀ (T : List (ByteArray × Nat)) (C : List ByteArray), (stepC room C T).length + (stepT T).length ≤ C.length + T.length
  | [], C => by simp [stepC, stepT]
  | q :: T, C => by
    have ih := step_length room T (if q.2 ≤ 1 then comesL room C q.1 else C)
    have e : stepC room C (q :: T) = stepC room (if q.2 ≤ 1 then comesL room C q.1 else C) T := rfl
    rw [e]
    by_cases h : q.2 ≤ 1
    · have e2 : stepT (q :: T) = stepT T := by unfold stepT; rw [List.filter_cons_of_neg (by simp; omega)]
      have := comesL_length room C q.1
      rw [e2, List.length_cons]
      rw [if_pos h] at ih ⊢
      omega
    · have e2 : (stepT (q :: T)).length = (stepT T).length + 1 := by unfold stepT; rw [List.filter_cons_of_pos (by simp; omega)]; simp
      rw [e2, List.length_cons]
      rw [if_neg h] at ih ⊢
      omega
theorem mem_stepT {T : List (ByteArray × Nat)} {q : ByteArray × Nat} (h : q ∈ stepT T) : ∃ r ∈ T, r.1 = q.1 ∧ r.2 = q.2 + 1 := by
  unfold stepT at h
  obtain ⟨r, hr, rfl⟩ := List.mem_map.1 h
  obtain ⟨h1, h2⟩ := List.mem_filter.1 hr
  have : 1 < r.2 := by simpa using h2
  exact ⟨r, h1, rfl, by simp only; omega⟩

section
variable {C : List ByteArray} {T : List (ByteArray × Nat)} {W : List ByteArray}

theorem SentOk.nil : SentOk [] [] [] := by
  unfold SentOk
  simp
theorem SentOk.more (h : SentOk C T W) (s : ByteArray) (hs : s.size ≤ 9223372036854775807) : SentOk C T (W ++ [s]) := by
  obtain ⟨h1, h2, h3⟩ := h
  refine ⟨fun x hx => ?_, fun x hx => ?_, fun t ht => ?_⟩
  · obtain ⟨t, ht, hn⟩ := h1 x hx
    exact ⟨t, List.mem_append_left _ ht, hn⟩
  · obtain ⟨t, ht, hn⟩ := h2 x hx
    exact ⟨t, List.mem_append_left _ ht, hn⟩
  · rcases List.mem_append.1 ht with ht | ht
    · exact h3 t ht
    · rw [List.mem_singleton.1 ht]; exact hs
theorem SentOk.send (h : SentOk C T W) (room : Nat) (s : ByteArray) (k n m : Int) (hs : s.size ≤ 9223372036854775807) : SentOk (sendC room C s k n m) (sendT T s k n) (W ++ [s]) := by
  obtain ⟨h1, h2, h3⟩ := h.more s hs
  have hself : ∃ t ∈ W ++ [s], nearB s t = true := ⟨s, List.mem_append_right _ (List.mem_singleton_self _), nearB_self s⟩
  have hturn : ∃ t ∈ W ++ [s], nearB (turnS s n m) t = true := ⟨s, List.mem_append_right _ (List.mem_singleton_self _), nearB_turn s n m⟩
  refine ⟨fun x hx => ?_, fun q hq => ?_, h3⟩
  · unfold sendC at hx
    split at hx
    · rcases mem_comesL hx with hx | rfl
      · exact h1 x hx
      · exact hself
    · split at hx
      · rcases mem_comesL hx with hx | rfl
        · rcases mem_comesL hx with hx | rfl
          · exact h1 x hx
          · exact hself
        · exact hself
      · split at hx
        · rcases mem_comesL hx with hx | rfl
          · exact h1 x hx
          · exact hturn
        · exact h1 x hx
  · unfold sendT at hq
    split at hq
    · rcases List.mem_append.1 hq with hq | hq
      · exact h2 q hq
      · rw [List.mem_singleton.1 hq]; exact hself
    · exact h2 q hq
theorem SentOk.tail (h : SentOk C T W) : SentOk C.tail T W := ⟨fun x hx => h.1 x (List.mem_of_mem_tail hx), h.2⟩
theorem SentOk.step (h : SentOk C T W) (room : Nat) : SentOk (stepC room C T) (stepT T) W := by
  obtain ⟨h1, h2, h3⟩ := h
  refine ⟨fun x hx => ?_, fun q hq => ?_, h3⟩
  · rcases mem_stepC hx with hx | ⟨q, hq, rfl⟩
    · exact h1 x hx
    · exact h2 q hq
  · obtain ⟨r, hr, e, _⟩ := mem_stepT hq
    rw [← e]
    exact h2 r hr
end

theorem send_length (room : Nat) (C : List ByteArray) (T : List (ByteArray × Nat)) (s : ByteArray) (k n m : Int) : (sendC room C s k n m).length + (sendT T s k n).length ≤ C.length + T.length + 2 := by
  have h1 := comesL_length room C s
  have h2 := comesL_length room (comesL room C s) s
  have h3 := comesL_length room C (turnS s n m)
  unfold sendC sendT
  by_cases k3 : k = 3
  · subst k3
    simp
    omega
  · rw [if_neg k3]
    split
    · omega
    · split
      · omega
      · split <;> omega

end Go.Proofs.Yteolokckflckaaa
