/-
  Three pipes, three of the document's pipes: Either.
-/
import Derived.Test.YtknjniadphoflaaSix2
namespace Go.Proofs.Ytknjniadphoflaa
open Go.RowKit Go.Conc

/-- What Either answers. -/
def eithX : List Int → List Int → Int × Int
  | x :: _, _ => (x, 1)
  | [], y :: _ => (y, 2)
  | [], [] => (0, 0)
/-- What is left behind Either. -/
def eithL (L : Nat → List Int) (i j : Nat) : Nat → List Int := if (L i).isEmpty then upd L j (L j).tail else upd L i (L i).tail

section
variable {w0 w w' : World} {ex : List (Nat × Obj)} {p c b R : Nat → Nat} {L : Nat → List Int} {C : Nat → Bool} {L' : Nat → List Int} {C' : Nat → Bool}

theorem Six.docEither (h : Six w0 w ex p c b R L C L' C') {i j : Nat} (hi : i < 3) (hj : j < 3) :
    Calls Try.prog 19 #[.pointer (some ⟨b i, 0, none⟩), .pointer (some ⟨b j, 0, none⟩)] w fun e w' => e = .returned (.tuple #[.int .i64 (eithX (L' i) (L' j)).1, .int .i64 (eithX (L' i) (L' j)).2]) ∧ Six w0 w' ex p c b R L C (eithL L' i j) C' := by
  have h' := h
  obtain ⟨own, h1, h2, h3, h4, h5, h6, h7⟩ := h'
  unfold eithL
  cases hl : L' i with
  | cons x l =>
    have hd := h2 i hi
    rw [hl] at hd
    refine (docEither_first w (b i) (R i) (b j) (own i) x l (C' i) hd).mono fun _ _ ⟨he, ht⟩ => ⟨he, ?_⟩
    have := Six.turnD' h1 h2 h3 h4 h5 h6 h7 hi ht
    rw [upd_self] at this
    simpa using this
  | nil =>
    have hd := h2 i hi
    rw [hl] at hd
    refine (docEither_second w (b i) (R i) (b j) (R j) (own i) (own j) (L' j) (C' i) (C' j) hd (h2 j hj)).mono fun _ _ ⟨he, ht⟩ => ⟨?_, ?_⟩
    · rw [he]; cases L' j <;> rfl
    · have := Six.turnD' h1 h2 h3 h4 h5 h6 h7 hj ht
      rw [upd_self] at this
      simpa using this

/-- Two pipes have turned. -/
theorem Six.turnP2 (h : Six w0 w ex p c b R L C L' C') {i j : Nat} (hi : i < 3) (hj : j < 3) (hij : i ≠ j) {l m : List Int} (hp : IntPipe w' (p i) (c i) (R i) l (C i)) (hq : IntPipe w' (p j) (c j) (R j) m (C j)) (k : Kept (fun k => k = c i ∨ k = c j) w w') :
    Six w0 w' ex p c b R (upd (upd L i l) j m) C L' C' := by
  obtain ⟨own, h1, h2, h3, h4, h5, h6, h7⟩ := h
  refine ⟨own, fun q hq' => ?_, fun q hq' => (h2 q hq').kept k (fun y hy e => ?_), h3, h4, h5, fun e he => ⟨k.get (h6 e he).1 (fun hs => ?_), (h6 e he).2⟩, k.below h7 h7.size (fun y hy => ?_)⟩
  · by_cases hqj : q = j
    · subst hqj
      simp only [upd, if_true]
      exact hq
    · by_cases hqi : q = i
      · subst hqi
        simp only [upd, if_true, if_neg hqj]
        exact hp
      · simp only [upd, if_neg hqi, if_neg hqj]
        refine (h1 q hq').kept k (fun e => ?_) (fun e => ?_)
        · rcases e with e | e
          · exact PipeAt.ne2 (h1 i hi) (h1 q hq') e.symm
          · exact PipeAt.ne2 (h1 j hj) (h1 q hq') e.symm
        · rcases e with e | e
          · exact (h4 q i hq' hi hqi).2.1 e
          · exact (h4 q j hq' hj hqj).2.1 e
  · rcases e with e | e
    · exact (h5 i q hi hq').2 (e ▸ hy)
    · exact (h5 j q hj hq').2 (e ▸ hy)
  · rcases hs with hs | hs
    · exact ((h6 e he).2 i hi).2.1 hs
    · exact ((h6 e he).2 j hj).2.1 hs
  · rcases hy with rfl | rfl
    · exact (h3 i hi).2.1
    · exact (h3 j hj).2.1

theorem Six.move (h : Six w0 w ex p c b R L C L' C') {i j : Nat} (hi : i < 3) (hj : j < 3) (hij : i ≠ j) :
    Calls Try.prog 21 #[.pointer (some ⟨p i, 0, none⟩), .pointer (some ⟨p j, 0, none⟩)] w fun e w' => e = .returned (.int .i64 (moved (L i) (R j) (L j) (C j))) ∧
      Six w0 w' ex p c b R (upd (upd L i ((L i).drop (moved (L i) (R j) (L j) (C j)))) j (L j ++ (L i).take (moved (L i) (R j) (L j) (C j)))) C L' C' := by
  have h' := h
  obtain ⟨own, h1, h2, h3, h4, _⟩ := h'
  exact (moveInt w (p i) (c i) (R i) (p j) (c j) (R j) (L i) (L j) (C i) (C j) (h1 i hi) (h1 j hj) (h4 i j hi hj hij).1 (h4 i j hi hj hij).2.1).mono fun _ _ ⟨he, hp, hq, hk, _⟩ => ⟨he, h.turnP2 hi hj hij hp hq hk⟩
end

end Go.Proofs.Ytknjniadphoflaa
