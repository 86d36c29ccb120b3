/-
  Three pipes, three of the document's pipes: Move of the document.
-/
import Derived.Test.YtknjniadphoflaaSix4
namespace Go.Proofs.Ytknjniadphoflaa
open Go.RowKit Go.Conc

section
variable {w0 w w' : World} {ex : List (Nat × Obj)} {p c b R : Nat → Nat} {L : Nat → List Int} {C : Nat → Bool} {L' : Nat → List Int} {C' : Nat → Bool}

theorem Six.docMove (h : Six w0 w ex p c b R L C L' C') {i j : Nat} (hi : i < 3) (hj : j < 3) (hij : i ≠ j) :
    Calls Try.prog 20 #[.pointer (some ⟨b i, 0, none⟩), .pointer (some ⟨b j, 0, none⟩)] w fun e w' => e = .returned (.int .i64 (moved (L' i) (R j) (L' j) (C' j))) ∧
      Six w0 w' ex p c b R L C (upd (upd L' i ((L' i).drop (moved (L' i) (R j) (L' j) (C' j)))) j (L' j ++ (L' i).take (moved (L' i) (R j) (L' j) (C' j)))) C' := by
  obtain ⟨own, h1, h2, h3, h4, h5, h6, h7⟩ := h
  have hbi := (h2 i hi).mem
  have hbj := (h2 j hj).mem
  have hpair : DocPair w (own i) (own j) w (b i) (R i) (L' i) (C' i) (b j) (R j) (L' j) (C' j) :=
    ⟨own i, own j, h2 i hi, h2 j hj, (h4 i j hi hj hij).2.2, fun _ h => .inl h, fun _ h => .inl h, Kept.refl _ _⟩
  refine (Ytknjniadphoflaa.docMove w (own i) (own j) (b i) (R i) (L' i) (C' i) (b j) (R j) (L' j) (C' j) hpair).mono fun _ w1 ⟨he, hm⟩ => ⟨he, ?_⟩
  obtain ⟨oa, ob, ha, hb, d1, d2, d3, k⟩ := hm
  have hji : j ≠ i := Ne.symm hij
  have hnew : ∀ q, ∀ y ∈ upd (upd own i oa) j ob q, y ∈ own q ∨ w.heap.size ≤ y := by
    intro q y hy
    by_cases hqj : q = j
    · subst hqj; simp only [upd, if_true] at hy; exact d3 y hy
    · by_cases hqi : q = i
      · subst hqi; simp only [upd, if_true, if_neg hqj] at hy; exact d2 y hy
      · simp only [upd, if_neg hqi, if_neg hqj] at hy; exact .inl hy
  have hbnot : ∀ q, q < 3 → q ≠ i → q ≠ j → ∀ y ∈ own q, ¬ (y = b i ∨ y = b j) := by
    rintro q hq hqi hqj y hy (e | e)
    · exact (h4 q i hq hi hqi).2.2 y hy (e ▸ hbi)
    · exact (h4 q j hq hj hqj).2.2 y hy (e ▸ hbj)
  refine ⟨upd (upd own i oa) j ob, fun q hq => (h1 q hq).kept k (fun e => ?_) (fun e => ?_), fun q hq => ?_, fun q hq => ⟨(h3 q hq).1, (h3 q hq).2.1, fun y hy => ?_⟩, fun q q' hq hq' hne => ⟨(h4 q q' hq hq' hne).1, (h4 q q' hq hq' hne).2.1, fun y hy hy' => ?_⟩,
    fun q q' hq hq' => ⟨fun hy => ?_, fun hy => ?_⟩, fun e he => ⟨k.get (h6 e he).1 (fun hs => ?_), fun q hq => ⟨((h6 e he).2 q hq).1, ((h6 e he).2 q hq).2.1, fun hy => ?_⟩⟩, k.below h7 h7.size (fun y hy => ?_)⟩
  · rcases e with e | e
    · exact (h5 q i hq hi).1 (e ▸ hbi)
    · exact (h5 q j hq hj).1 (e ▸ hbj)
  · rcases e with e | e
    · exact (h5 q i hq hi).2 (e ▸ hbi)
    · exact (h5 q j hq hj).2 (e ▸ hbj)
  · by_cases hqj : q = j
    · subst hqj; simp only [upd, if_true]; exact hb
    · by_cases hqi : q = i
      · subst hqi; simp only [upd, if_true, if_neg hqj]; exact ha
      · simp only [upd, if_neg hqi, if_neg hqj]
        exact (h2 q hq).kept k (hbnot q hq hqi hqj)
  · rcases hnew q y hy with hy | hy
    · exact (h3 q hq).2.2 y hy
    · exact Nat.le_trans h7.size hy
  · by_cases hqj : q = j
    · subst hqj
      by_cases hq'i : q' = i
      · subst hq'i
        simp only [upd, if_true, if_neg hij] at hy hy'
        exact d1 y hy' hy
      · simp only [upd, if_neg hq'i, if_neg (Ne.symm hne)] at hy'
        rcases hnew q y hy with hy | hy
        · exact (h4 q q' hq hq' hne).2.2 y hy hy'
        · have := (h2 q' hq').lt y hy'; omega
    · by_cases hqi : q = i
      · subst hqi
        by_cases hq'j : q' = j
        · subst hq'j
          simp only [upd, if_true, if_neg hij] at hy hy'
          exact d1 y hy hy'
        · simp only [upd, if_neg (Ne.symm hne), if_neg hq'j] at hy'
          rcases hnew q y hy with hy | hy
          · exact (h4 q q' hq hq' hne).2.2 y hy hy'
          · have := (h2 q' hq').lt y hy'; omega
      · simp only [upd, if_neg hqi, if_neg hqj] at hy
        rcases hnew q' y hy' with hy' | hy'
        · exact (h4 q q' hq hq' hne).2.2 y hy hy'
        · have := (h2 q hq).lt y hy; omega
  · rcases hnew q' _ hy with hy | hy
    · exact (h5 q q' hq hq').1 hy
    · have := (h1 q hq).lt.1; omega
  · rcases hnew q' _ hy with hy | hy
    · exact (h5 q q' hq hq').2 hy
    · have := (h1 q hq).lt.2; omega
  · rcases hs with hs | hs
    · exact ((h6 e he).2 i hi).2.2 (hs ▸ hbi)
    · exact ((h6 e he).2 j hj).2.2 (hs ▸ hbj)
  · rcases hnew q _ hy with hy | hy
    · exact ((h6 e he).2 q hq).2.2 hy
    · have := lt_of_block (h6 e he).1; omega
  · rcases hy with rfl | rfl
    · exact (h3 i hi).2.2 _ hbi
    · exact (h3 j hj).2.2 _ hbj
end

end Go.Proofs.Ytknjniadphoflaa
