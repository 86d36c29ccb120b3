/-
  Three pipes, three of the document's pipes: what each call on one of them does.
-/
import Derived.Test.YtknjniadphoflaaSix
namespace Go.Proofs.Ytknjniadphoflaa
open Go.RowKit Go.Conc

theorem upd_self {α : Type} (f : Nat → α) (i : Nat) : upd f i (f i) = f := by
  funext k
  unfold upd
  split
  · subst_vars; rfl
  · rfl

section
variable {w0 w w' : World} {ex : List (Nat × Obj)} {p c b R : Nat → Nat} {L : Nat → List Int} {C : Nat → Bool} {L' : Nat → List Int} {C' : Nat → Bool}

theorem Six.send (h : Six w0 w ex p c b R L C L' C') {i : Nat} (hi : i < 3) (x : Int) : Calls Try.prog 12 #[.pointer (some ⟨p i, 0, none⟩), .int .i64 x] w fun e w' => e = .returned (.bool (sends (R i) (L i) (C i))) ∧ Six w0 w' ex p c b R (upd L i (sent (R i) (L i) (C i) x)) C L' C' := by
  have h' := h
  obtain ⟨own, h1, _⟩ := h'
  refine (sendInt w (p i) (c i) (R i) (L i) (C i) x (h1 i hi)).mono fun _ _ ⟨he, hp, hk, _⟩ => ⟨he, ?_⟩
  have := h.turnP hi hp (hk.mono fun _ _ e => .inr e)
  rwa [upd_self] at this
theorem Six.take (h : Six w0 w ex p c b R L C L' C') {i : Nat} (hi : i < 3) : Calls Try.prog 14 #[.pointer (some ⟨p i, 0, none⟩)] w fun e w' => e = .returned (.tuple #[headOr (Value.int .i64) (.int .i64 0) (L i), .bool (!(L i).isEmpty)]) ∧ Six w0 w' ex p c b R (upd L i (L i).tail) C L' C' := by
  have h' := h
  obtain ⟨own, h1, _⟩ := h'
  refine (takeInt w (p i) (c i) (R i) (L i) (C i) (h1 i hi)).mono fun _ _ ⟨he, hp, hk, _⟩ => ⟨he, ?_⟩
  have := h.turnP hi hp (hk.mono fun _ _ e => .inr e)
  rwa [upd_self] at this
theorem Six.close (h : Six w0 w ex p c b R L C L' C') {i : Nat} (hi : i < 3) : Calls Try.prog 16 #[.pointer (some ⟨p i, 0, none⟩)] w fun e w' => e = .returned (.bool (!(C i))) ∧ Six w0 w' ex p c b R L (upd C i true) L' C' := by
  have h' := h
  obtain ⟨own, h1, _⟩ := h'
  refine (closeInt w (p i) (c i) (R i) (L i) (C i) (h1 i hi)).mono fun _ _ ⟨he, hp, hk, _⟩ => ⟨he, ?_⟩
  have := h.turnP hi hp (hk.mono fun _ _ e => .inl e)
  rwa [upd_self] at this
theorem Six.len (h : Six w0 w ex p c b R L C L' C') {i : Nat} (hi : i < 3) : Calls Try.prog 22 #[.pointer (some ⟨p i, 0, none⟩)] w fun e w' => e = .returned (.int .i64 (L i).length) ∧ w' = w := by
  obtain ⟨own, h1, _⟩ := h
  exact lenInt w (p i) (c i) (R i) (L i) (C i) (h1 i hi)
theorem Six.docSend (h : Six w0 w ex p c b R L C L' C') {i : Nat} (hi : i < 3) (x : Int) : Calls Try.prog 13 #[.pointer (some ⟨b i, 0, none⟩), .int .i64 x] w fun e w' => e = .returned (.bool (sends (R i) (L' i) (C' i))) ∧ Six w0 w' ex p c b R L C (upd L' i (sent (R i) (L' i) (C' i) x)) C' := by
  have h' := h
  obtain ⟨own, h1, h2, h3, h4, h5, h6, h7⟩ := h'
  refine (Ytknjniadphoflaa.docSend w (b i) (R i) (own i) (L' i) (C' i) x (h2 i hi)).mono fun _ _ ⟨he, ht⟩ => ⟨he, ?_⟩
  have := Six.turnD' h1 h2 h3 h4 h5 h6 h7 hi ht
  rwa [upd_self] at this
theorem Six.docTake (h : Six w0 w ex p c b R L C L' C') {i : Nat} (hi : i < 3) : Calls Try.prog 15 #[.pointer (some ⟨b i, 0, none⟩)] w fun e w' => e = .returned (.tuple #[headOr (Value.int .i64) (.int .i64 0) (L' i), .bool (!(L' i).isEmpty)]) ∧ Six w0 w' ex p c b R L C (upd L' i (L' i).tail) C' := by
  have h' := h
  obtain ⟨own, h1, h2, h3, h4, h5, h6, h7⟩ := h'
  refine (Ytknjniadphoflaa.docTake w (b i) (R i) (own i) (L' i) (C' i) (h2 i hi)).mono fun _ _ ⟨he, ht⟩ => ⟨he, ?_⟩
  have := Six.turnD' h1 h2 h3 h4 h5 h6 h7 hi ht
  rwa [upd_self] at this
theorem Six.docClose (h : Six w0 w ex p c b R L C L' C') {i : Nat} (hi : i < 3) : Calls Try.prog 17 #[.pointer (some ⟨b i, 0, none⟩)] w fun e w' => e = .returned (.bool (!(C' i))) ∧ Six w0 w' ex p c b R L C L' (upd C' i true) := by
  have h' := h
  obtain ⟨own, h1, h2, h3, h4, h5, h6, h7⟩ := h'
  refine (Ytknjniadphoflaa.docClose w (b i) (R i) (own i) (L' i) (C' i) (h2 i hi)).mono fun _ _ ⟨he, ht⟩ => ⟨he, ?_⟩
  have := Six.turnD' h1 h2 h3 h4 h5 h6 h7 hi ht
  rwa [upd_self] at this
end

end Go.Proofs.Ytknjniadphoflaa
