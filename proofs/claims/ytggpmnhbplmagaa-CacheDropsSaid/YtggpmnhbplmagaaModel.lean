/-
  A cache in plain Lean: a list of keys and things, the one that was used last first. No program, no memory here.
-/
import Derived.Test.YtggpmnhbplmagaaBase
namespace Go.Proofs.Ytggpmnhbplmagaa

theorem nodup_split {K V : Type} {k : K} {v : V} {L1 L2 : List (K × V)} (h : ((L1 ++ (k, v) :: L2).map (·.1)).Nodup) : (∀ p ∈ L1, p.1 ≠ k) ∧ (∀ p ∈ L2, p.1 ≠ k) := by
  simp only [List.map_append, List.map_cons, List.nodup_append, List.nodup_cons] at h
  obtain ⟨_, ⟨h2, _⟩, h3⟩ := h
  refine ⟨fun p hp e => h3 p.1 (List.mem_map.2 ⟨p, hp, rfl⟩) k (List.mem_cons_self ..) e, fun p hp e => h2 (List.mem_map.2 ⟨p, hp, e⟩)⟩

section
variable {K V : Type} [DecidableEq K]

/-- The thing of a key. -/
def look (k : K) : List (K × V) → Option V
  | [] => none
  | p :: L => if p.1 = k then some p.2 else look k L
/-- All but a key. -/
def without (k : K) (L : List (K × V)) : List (K × V) := L.filter fun p => decide (p.1 ≠ k)
/-- Behind Get. -/
def used (k : K) (L : List (K × V)) : List (K × V) :=
  match look k L with
  | some v => (k, v) :: without k L
  | none => L
/-- Behind Put. -/
def putIn (room : Nat) (k : K) (v : V) (L : List (K × V)) : List (K × V) :=
  match look k L with
  | some _ => (k, v) :: without k L
  | none => if L.length + 1 ≤ room then (k, v) :: L else (k, v) :: L.dropLast
/-- The key that goes at Put. -/
def goes (room : Nat) (k : K) (L : List (K × V)) : Option K :=
  match look k L with
  | some _ => none
  | none => if L.length + 1 ≤ room then none else L.getLast?.map (·.1)

theorem look_none {k : K} {L : List (K × V)} (h : look k L = none) : ∀ p ∈ L, p.1 ≠ k := by
  induction L with
  | nil => intro p hp; cases hp
  | cons q L ih =>
    simp only [look] at h
    split at h
    · cases h
    · intro p hp
      rcases List.mem_cons.1 hp with rfl | hp
      · assumption
      · exact ih h p hp

theorem look_none_of {k : K} {L : List (K × V)} (h : ∀ p ∈ L, p.1 ≠ k) : look k L = none := by
  induction L with
  | nil => rfl
  | cons q L ih =>
    simp only [look]
    rw [if_neg (h q (List.mem_cons_self ..)), ih (fun p hp => h p (List.mem_cons_of_mem _ hp))]

theorem without_none {k : K} {L : List (K × V)} (h : ∀ p ∈ L, p.1 ≠ k) : without k L = L := by
  unfold without
  rw [List.filter_eq_self]
  exact fun p hp => decide_eq_true (h p hp)

theorem look_some {k : K} {v : V} {L : List (K × V)} (h : look k L = some v) : ∃ L1 L2, L = L1 ++ (k, v) :: L2 ∧ ∀ p ∈ L1, p.1 ≠ k := by
  induction L with
  | nil => simp [look] at h
  | cons q L ih =>
    simp only [look] at h
    split at h
    · rename_i hq
      obtain ⟨a, b⟩ := q
      simp only [Option.some.injEq] at h hq
      subst h hq
      exact ⟨[], L, rfl, by simp⟩
    · rename_i hq
      obtain ⟨L1, L2, rfl, h1⟩ := ih h
      refine ⟨q :: L1, L2, rfl, ?_⟩
      intro p hp
      rcases List.mem_cons.1 hp with rfl | hp
      · exact hq
      · exact h1 p hp

theorem look_append {k : K} {v : V} {L1 L2 : List (K × V)} (h : ∀ p ∈ L1, p.1 ≠ k) : look k (L1 ++ (k, v) :: L2) = some v := by
  induction L1 with
  | nil => simp [look]
  | cons q L1 ih =>
    simp only [List.cons_append, look]
    rw [if_neg (h q (List.mem_cons_self ..))]
    exact ih (fun p hp => h p (List.mem_cons_of_mem _ hp))

theorem without_split {k : K} {v : V} {L1 L2 : List (K × V)} (h1 : ∀ p ∈ L1, p.1 ≠ k) (h2 : ∀ p ∈ L2, p.1 ≠ k) : without k (L1 ++ (k, v) :: L2) = L1 ++ L2 := by
  have e1 := without_none h1
  have e2 := without_none h2
  unfold without at *
  rw [List.filter_append, List.filter_cons, e1, e2]
  simp

theorem nodup_without {k : K} {L : List (K × V)} (h : (L.map (·.1)).Nodup) : ((without k L).map (·.1)).Nodup :=
  ((List.filter_sublist).map _).nodup h

theorem without_keys {k : K} {L : List (K × V)} : ∀ p ∈ without k L, p.1 ≠ k := by
  intro p hp
  unfold without at hp
  exact of_decide_eq_true (List.mem_filter.1 hp).2

theorem nodup_cons_without {k : K} {v : V} {L : List (K × V)} (h : (L.map (·.1)).Nodup) : (((k, v) :: without k L).map (·.1)).Nodup := by
  simp only [List.map_cons, List.nodup_cons]
  refine ⟨fun hk => ?_, nodup_without h⟩
  obtain ⟨p, hp, e⟩ := List.mem_map.1 hk
  exact without_keys p hp e

end
end Go.Proofs.Ytggpmnhbplmagaa
