/-
  Three pipes, three of the document's pipes: Either of the code.
-/
import Derived.Test.YtknjniadphoflaaSix3
namespace Go.Proofs.Ytknjniadphoflaa
open Go.RowKit Go.Conc

theorem upd_upd_of {α : Type} {f : Nat → α} {i j : Nat} {v : α} : upd (upd f i (f i)) j v = upd f j v := by
  rw [upd_self]

section
variable {w0 w w' : World} {ex : List (Nat × Obj)} {p c b R : Nat → Nat} {L : Nat → List Int} {C : Nat → Bool} {L' : Nat → List Int} {C' : Nat → Bool}

theorem Six.either (h : Six w0 w ex p c b R L C L' C') {i j : Nat} (hi : i < 3) (hj : j < 3) :
    Calls Try.prog 18 #[.pointer (some ⟨p i, 0, none⟩), .pointer (some ⟨p j, 0, none⟩)] w fun e w' => e = .returned (.tuple #[.int .i64 (eithX (L i) (L j)).1, .int .i64 (eithX (L i) (L j)).2]) ∧ Six w0 w' ex p c b R (eithL L i j) C L' C' := by
  have h' := h
  obtain ⟨own, h1, h2, h3, h4, _⟩ := h'
  have hpi := h1 i hi
  unfold eithL
  cases hl : L i with
  | cons x l =>
    rw [hl] at hpi
    refine (eitherInt_first w (p i) (c i) (R i) (p j) x l (C i) hpi).mono fun _ _ ⟨he, hp, hk, _⟩ => ⟨he, ?_⟩
    have := h.turnP hi hp (hk.mono fun _ _ e => .inr e)
    rw [upd_self] at this
    simpa using this
  | nil =>
    rw [hl] at hpi
    by_cases hij : i = j
    · subst hij
      refine (eitherInt_same w (p i) (c i) (R i) (C i) hpi).mono fun _ _ ⟨he, hp, hk, _⟩ => ⟨by rw [he, hl]; rfl, ?_⟩
      have := h.turnP hi hp (hk.mono fun _ _ e => .inr e)
      rw [upd_self] at this
      simpa [hl] using this
    · refine (eitherInt_second w (p i) (c i) (R i) (p j) (c j) (R j) (L j) (C i) (C j) hpi (h1 j hj) (PipeAt.ne2 (h1 i hi) (h1 j hj)) (h4 i j hi hj hij).2.1).mono fun _ _ ⟨he, hp, hq, hk, _⟩ => ⟨?_, ?_⟩
      · rw [he]; cases L j <;> rfl
      · have hp' := hp
        rw [← hl] at hp'
        have := h.turnP2 hi hj hij hp' hq hk
        rw [upd_upd_of] at this
        simpa using this
end

end Go.Proofs.Ytknjniadphoflaa
