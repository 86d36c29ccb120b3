/-
  The document's pipe (stillageref05): two of them apart; Move.
-/
import Derived.Test.YtknjniadphoflaaDoc4
namespace Go.Proofs.Ytknjniadphoflaa
open Go.RowKit Go.Conc

/-- Two of the document's pipes, apart; since w0 only theirs has turned. -/
def DocPair (w0 : World) (oa0 ob0 : List Nat) (w : World) (a ra : Nat) (la : List Int) (cla : Bool) (b rb : Nat) (lb : List Int) (clb : Bool) : Prop :=
  ∃ oa ob, DocIs w a ra oa la cla ∧ DocIs w b rb ob lb clb ∧ (∀ k ∈ oa, k ∉ ob) ∧ (∀ k ∈ oa, k ∈ oa0 ∨ w0.heap.size ≤ k) ∧ (∀ k ∈ ob, k ∈ ob0 ∨ w0.heap.size ≤ k) ∧ Kept (fun k => k = a ∨ k = b) w0 w

theorem DocIs.mem {w : World} {b room : Nat} {own : List Nat} {l : List Int} {cl : Bool} (h : DocIs w b room own l cl) : b ∈ own := by
  obtain ⟨v, _, rfl⟩ := h
  exact List.mem_cons_self ..

section
variable {w0 w w' : World} {oa0 ob0 : List Nat} {a ra : Nat} {la la' : List Int} {cla : Bool} {b rb : Nat} {lb lb' : List Int} {clb : Bool}

theorem DocPair.drewN (h : DocPair w0 oa0 ob0 w a ra la cla b rb lb clb) (n : Nat) : DocPair w0 oa0 ob0 (w.drewN n) a ra la cla b rb lb clb := by
  obtain ⟨oa, ob, ha, hb, h1, h2, h3, h4⟩ := h
  exact ⟨oa, ob, ha.kept ((Kept.refl (fun _ => False) w).drewN n) (fun _ _ h => h), hb.kept ((Kept.refl (fun _ => False) w).drewN n) (fun _ _ h => h), h1, h2, h3, h4.drewN n⟩

theorem DocPair.turnA {oa ob : List Nat} (hb : DocIs w b rb ob lb clb) (ha0 : a ∈ oa) (h1 : ∀ k ∈ oa, k ∉ ob) (h2 : ∀ k ∈ oa, k ∈ oa0 ∨ w0.heap.size ≤ k) (h3 : ∀ k ∈ ob, k ∈ ob0 ∨ w0.heap.size ≤ k)
    (h4 : Kept (fun k => k = a ∨ k = b) w0 w) (ht : DocTurn w w' a ra oa la' cla) : DocPair w0 oa0 ob0 w' a ra la' cla b rb lb clb := by
  obtain ⟨oa', ha, hsub, k⟩ := ht
  refine ⟨oa', ob, ha, hb.kept k (fun i hi e => h1 a ha0 (e ▸ hi)), fun i hi hi' => ?_, fun i hi => ?_, h3, h4.trans (k.mono fun _ _ e => .inl e)⟩
  · rcases hsub i hi with hi | hi
    · exact h1 i hi hi'
    · have := hb.lt i hi'; omega
  · rcases hsub i hi with hi | hi
    · exact h2 i hi
    · exact .inr (Nat.le_trans h4.size hi)

theorem DocPair.turnB {oa ob : List Nat} (ha : DocIs w a ra oa la cla) (hb0 : b ∈ ob) (h1 : ∀ k ∈ oa, k ∉ ob) (h2 : ∀ k ∈ oa, k ∈ oa0 ∨ w0.heap.size ≤ k) (h3 : ∀ k ∈ ob, k ∈ ob0 ∨ w0.heap.size ≤ k)
    (h4 : Kept (fun k => k = a ∨ k = b) w0 w) (ht : DocTurn w w' b rb ob lb' clb) : DocPair w0 oa0 ob0 w' a ra la cla b rb lb' clb := by
  obtain ⟨ob', hb, hsub, k⟩ := ht
  refine ⟨oa, ob', ha.kept k (fun i hi e => h1 i hi (e ▸ hb0)), hb, fun i hi hi' => ?_, h2, fun i hi => ?_, h4.trans (k.mono fun _ _ e => .inr e)⟩
  · rcases hsub i hi' with hi' | hi'
    · exact h1 i hi hi'
    · have := ha.lt i hi; omega
  · rcases hsub i hi with hi | hi
    · exact h3 i hi
    · exact .inr (Nat.le_trans h4.size hi)

theorem DocPair.take {x : Int} (h : DocPair w0 oa0 ob0 w a ra (x :: la) cla b rb lb clb) : Calls Try.prog 15 #[.pointer (some ⟨a, 0, none⟩)] w fun e w' => e = .returned (.tuple #[.int .i64 x, .bool true]) ∧ DocPair w0 oa0 ob0 w' a ra la cla b rb lb clb := by
  obtain ⟨oa, ob, ha, hb, h1, h2, h3, h4⟩ := h
  exact (docTake_cons w a ra oa x la cla ha).mono fun _ _ ⟨he, ht⟩ => ⟨he, .turnA hb ha.mem h1 h2 h3 h4 ht⟩
theorem DocPair.send (h : DocPair w0 oa0 ob0 w a ra la cla b rb lb false) (x : Int) (hs : lb.length < rb) : Calls Try.prog 13 #[.pointer (some ⟨b, 0, none⟩), .int .i64 x] w fun e w' => e = .returned (.bool true) ∧ DocPair w0 oa0 ob0 w' a ra la cla b rb (lb ++ [x]) false := by
  obtain ⟨oa, ob, ha, hb, h1, h2, h3, h4⟩ := h
  exact (docSend_yes w b rb ob lb x hb hs).mono fun _ _ ⟨he, ht⟩ => ⟨he, .turnB ha hb.mem h1 h2 h3 h4 ht⟩
end

end Go.Proofs.Ytknjniadphoflaa
