/-
  Three pipes, three of the document's pipes, and what else is held, side by side.
-/
import Derived.Test.YtknjniadphoflaaScript
namespace Go.Proofs.Ytknjniadphoflaa
open Go.RowKit Go.Conc

def upd {α : Type} (f : Nat → α) (i : Nat) (v : α) : Nat → α := fun k => if k = i then v else f k

def Six (w0 w : World) (ex : List (Nat × Obj)) (p c b R : Nat → Nat) (L : Nat → List Int) (C : Nat → Bool) (L' : Nat → List Int) (C' : Nat → Bool) : Prop :=
  ∃ own : Nat → List Nat, (∀ i, i < 3 → IntPipe w (p i) (c i) (R i) (L i) (C i)) ∧ (∀ i, i < 3 → DocIs w (b i) (R i) (own i) (L' i) (C' i)) ∧
    (∀ i, i < 3 → w0.heap.size ≤ p i ∧ w0.heap.size ≤ c i ∧ ∀ k ∈ own i, w0.heap.size ≤ k) ∧
    (∀ i j, i < 3 → j < 3 → i ≠ j → p i ≠ p j ∧ c i ≠ c j ∧ ∀ k ∈ own i, k ∉ own j) ∧
    (∀ i j, i < 3 → j < 3 → p i ∉ own j ∧ c i ∉ own j) ∧
    (∀ e ∈ ex, w.heap[e.1]? = some e.2 ∧ ∀ i, i < 3 → e.1 ≠ p i ∧ e.1 ≠ c i ∧ e.1 ∉ own i) ∧ Below w0.heap.size w0 w

section
variable {w0 w w' : World} {ex : List (Nat × Obj)} {p c b R : Nat → Nat} {L : Nat → List Int} {C : Nat → Bool} {L' : Nat → List Int} {C' : Nat → Bool}

theorem Six.turnP (h : Six w0 w ex p c b R L C L' C') {i : Nat} (hi : i < 3) {l : List Int} {cl : Bool} (hp : IntPipe w' (p i) (c i) (R i) l cl) (k : Kept (fun k => k = p i ∨ k = c i) w w') : Six w0 w' ex p c b R (upd L i l) (upd C i cl) L' C' := by
  obtain ⟨own, h1, h2, h3, h4, h5, h6, h7⟩ := h
  refine ⟨own, fun j hj => ?_, fun j hj => (h2 j hj).kept k (fun q hq e => ?_), h3, h4, h5, fun e he => ⟨k.get (h6 e he).1 (fun hs => ?_), (h6 e he).2⟩, k.below h7 h7.size (fun q hq => ?_)⟩
  · by_cases hij : j = i
    · subst hij
      simp only [upd, if_true]
      exact hp
    · simp only [upd, if_neg hij]
      refine (h1 j hj).kept k (fun e => ?_) (fun e => ?_)
      · rcases e with e | e
        · exact (h4 j i hj hi hij).1 e
        · exact PipeAt.ne2 (h1 i hi) (h1 j hj) e.symm
      · rcases e with e | e
        · exact PipeAt.ne2 (h1 j hj) (h1 i hi) e
        · exact (h4 j i hj hi hij).2.1 e
  · rcases e with e | e
    · exact (h5 i j hi hj).1 (e ▸ hq)
    · exact (h5 i j hi hj).2 (e ▸ hq)
  · rcases hs with hs | hs
    · exact ((h6 e he).2 i hi).1 hs
    · exact ((h6 e he).2 i hi).2.1 hs
  · rcases hq with rfl | rfl
    · exact (h3 i hi).1
    · exact (h3 i hi).2.1

theorem Six.turnD' {own : Nat → List Nat} (h1 : ∀ i, i < 3 → IntPipe w (p i) (c i) (R i) (L i) (C i)) (h2 : ∀ i, i < 3 → DocIs w (b i) (R i) (own i) (L' i) (C' i))
    (h3 : ∀ i, i < 3 → w0.heap.size ≤ p i ∧ w0.heap.size ≤ c i ∧ ∀ k ∈ own i, w0.heap.size ≤ k)
    (h4 : ∀ i j, i < 3 → j < 3 → i ≠ j → p i ≠ p j ∧ c i ≠ c j ∧ ∀ k ∈ own i, k ∉ own j)
    (h5 : ∀ i j, i < 3 → j < 3 → p i ∉ own j ∧ c i ∉ own j)
    (h6 : ∀ e ∈ ex, w.heap[e.1]? = some e.2 ∧ ∀ i, i < 3 → e.1 ≠ p i ∧ e.1 ≠ c i ∧ e.1 ∉ own i) (h7 : Below w0.heap.size w0 w)
    {i : Nat} (hi : i < 3) {l : List Int} {cl : Bool} (ht : DocTurn w w' (b i) (R i) (own i) l cl) : Six w0 w' ex p c b R L C (upd L' i l) (upd C' i cl) := by
  obtain ⟨own', hd, hsub, k⟩ := ht
  have hbi := (h2 i hi).mem
  have hnew : ∀ q ∈ own', q ∈ own i ∨ w.heap.size ≤ q := hsub
  refine ⟨upd own i own', fun j hj => (h1 j hj).kept k (fun e => ?_) (fun e => ?_), fun j hj => ?_, fun j hj => ⟨(h3 j hj).1, (h3 j hj).2.1, fun q hq => ?_⟩, fun j j' hj hj' hne => ⟨(h4 j j' hj hj' hne).1, (h4 j j' hj hj' hne).2.1, fun q hq hq' => ?_⟩, fun j j' hj hj' => ⟨fun hq => ?_, fun hq => ?_⟩, fun e he => ⟨k.get (h6 e he).1 (fun hs => ((h6 e he).2 i hi).2.2 (hs ▸ hbi)), fun j hj => ⟨((h6 e he).2 j hj).1, ((h6 e he).2 j hj).2.1, fun hq => ?_⟩⟩, k.below h7 h7.size (fun q hq => hq ▸ (h3 i hi).2.2 _ hbi)⟩
  · exact (h5 j i hj hi).1 (e ▸ hbi)
  · exact (h5 j i hj hi).2 (e ▸ hbi)
  · by_cases hij : j = i
    · subst hij
      simp only [upd, if_true]
      exact hd
    · simp only [upd, if_neg hij]
      exact (h2 j hj).kept k (fun q hq e => (h4 j i hj hi hij).2.2 q hq (e ▸ hbi))
  · by_cases hij : j = i
    · subst hij
      simp only [upd, if_true] at hq
      rcases hnew q hq with hq | hq
      · exact (h3 j hj).2.2 q hq
      · exact Nat.le_trans h7.size hq
    · simp only [upd, if_neg hij] at hq
      exact (h3 j hj).2.2 q hq
  · by_cases hij : j = i
    · subst hij
      simp only [upd, if_true, if_neg (Ne.symm hne)] at hq hq'
      rcases hnew q hq with hq | hq
      · exact (h4 j j' hj hj' hne).2.2 q hq hq'
      · have := (h2 j' hj').lt q hq'; omega
    · by_cases hij' : j' = i
      · subst hij'
        simp only [upd, if_true, if_neg hij] at hq hq'
        rcases hnew q hq' with hq' | hq'
        · exact (h4 j j' hj hj' hne).2.2 q hq hq'
        · have := (h2 j hj).lt q hq; omega
      · simp only [upd, if_neg hij, if_neg hij'] at hq hq'
        exact (h4 j j' hj hj' hne).2.2 q hq hq'
  · by_cases hij' : j' = i
    · subst hij'
      simp only [upd, if_true] at hq
      rcases hnew _ hq with hq | hq
      · exact (h5 j j' hj hj').1 hq
      · have := (h1 j hj).lt.1; omega
    · simp only [upd, if_neg hij'] at hq
      exact (h5 j j' hj hj').1 hq
  · by_cases hij' : j' = i
    · subst hij'
      simp only [upd, if_true] at hq
      rcases hnew _ hq with hq | hq
      · exact (h5 j j' hj hj').2 hq
      · have := (h1 j hj).lt.2; omega
    · simp only [upd, if_neg hij'] at hq
      exact (h5 j j' hj hj').2 hq
  · by_cases hij : j = i
    · subst hij
      simp only [upd, if_true] at hq
      rcases hnew _ hq with hq | hq
      · exact ((h6 e he).2 j hj).2.2 hq
      · have := lt_of_block (h6 e he).1; omega
    · simp only [upd, if_neg hij] at hq
      exact ((h6 e he).2 j hj).2.2 hq
end

end Go.Proofs.Ytknjniadphoflaa
