/-
  No cell of these rows narrows 'for every input' (looked for: loops, veiled, ifaces, maps, wideKeys, modest, calm, conditions, laid).
  DERIVED. THE GIVEN ROWS OF THIS SEAT. 4 by the template 'for every input the law returns true; each argument reads behind the call as it read before'; 0 by the template 'total and deterministic' (their statements: YteolokckflckaaaTotals.lean).
  GIVEN WITH THE SEED: the statements are not yours to turn. If you find one false, say at which input.
  Laid BY PROGRAM, IN A SANDBOX (cutbox-rows.mjs): the forced cells as the released guide's own fill.sh prints them over the translation e6bba4d20de9a9b3… (all of the seat's roots in one cut). By AI agents, Wed Nov 11 2026. No macro, syntax, notation, axiom, sorry.
-/
import Derived.Test.YteolokckflckaaaChecked
import GoSem.Claim
import GoSem.ClaimJoined
import GoSem.ClaimMapViews
import Derived.JoinedTies
import Derived.KernelRfl
namespace Go.Proofs.Yteolokckflckaaa
/- THE CELL 'sum', in the pinned program and in every row, IS THE sha256 OF THE DUMP (.gsa) THAT YteolokckflckaaaProg.lean LOADS. Nothing in Lean hashes anything: it is a label: what it is worth is what the hold of that sum in a sandbox is worth. -/
noncomputable def Try.pinned : Pinned := { name := "yteolokckflckaaa", sum := "e6bba4d20de9a9b3cba94f148ef4cda8e678551f656c497a075425c1816a651d", checked := Try.checked }
namespace Rows
def none {H : Type} : Left H := { results := [], args := [] }

/-- 'stillagelaw18.LinkLate': WHATEVER THE INPUT: true; the input reads as it did. -/
def linkLateSpec : ChangeSpec := { name := "linkLate", fn := fun _ => fun
  | [d] => { results := [.lit (.bool true)], args := [d] }
  | _ => none }
def linkLateRow : OpenClaim := { program := "yteolokckflckaaa", sum := "e6bba4d20de9a9b3cba94f148ef4cda8e678551f656c497a075425c1816a651d", func := "stillage/stillagelaw18.LinkLate", spec := "linkLate", unfollowed := true, recurses := true, apart := false }
def LinkLateSaid : Prop := linkLateRow.holds Try.pinned (OpenSpec.ofChange linkLateSpec)

/-- ITS FALSE NEIGHBOUR: 'it returns false'. Refute it at one input. -/
def linkLateWrong : ChangeSpec := { name := "linkLate", fn := fun _ => fun
  | [d] => { results := [.lit (.bool false)], args := [d] }
  | _ => none }
def LinkLateWrongFalsely : Prop := linkLateRow.holds Try.pinned (OpenSpec.ofChange linkLateWrong)

/-- 'stillagelaw18.LinkDoes': WHATEVER THE INPUT: true; the input reads as it did. -/
def linkDoesSpec : ChangeSpec := { name := "linkDoes", fn := fun _ => fun
  | [d1, d2] => { results := [.lit (.bool true)], args := [d1, d2] }
  | _ => none }
def linkDoesRow : OpenClaim := { program := "yteolokckflckaaa", sum := "e6bba4d20de9a9b3cba94f148ef4cda8e678551f656c497a075425c1816a651d", func := "stillage/stillagelaw18.LinkDoes", spec := "linkDoes", unfollowed := true, recurses := true, apart := false }
def LinkDoesSaid : Prop := linkDoesRow.holds Try.pinned (OpenSpec.ofChange linkDoesSpec)

/-- ITS FALSE NEIGHBOUR: 'it returns false'. Refute it at one input. -/
def linkDoesWrong : ChangeSpec := { name := "linkDoes", fn := fun _ => fun
  | [d1, d2] => { results := [.lit (.bool false)], args := [d1, d2] }
  | _ => none }
def LinkDoesWrongFalsely : Prop := linkDoesRow.holds Try.pinned (OpenSpec.ofChange linkDoesWrong)

/-- 'stillagelaw18.LinkOrder': WHATEVER THE INPUT: true; the input reads as it did. -/
def linkOrderSpec : ChangeSpec := { name := "linkOrder", fn := fun _ => fun
  | [d1, d2] => { results := [.lit (.bool true)], args := [d1, d2] }
  | _ => none }
def linkOrderRow : OpenClaim := { program := "yteolokckflckaaa", sum := "e6bba4d20de9a9b3cba94f148ef4cda8e678551f656c497a075425c1816a651d", func := "stillage/stillagelaw18.LinkOrder", spec := "linkOrder", unfollowed := true, recurses := true, apart := false }
def LinkOrderSaid : Prop := linkOrderRow.holds Try.pinned (OpenSpec.ofChange linkOrderSpec)

/-- ITS FALSE NEIGHBOUR: 'it returns false'. Refute it at one input. -/
def linkOrderWrong : ChangeSpec := { name := "linkOrder", fn := fun _ => fun
  | [d1, d2] => { results := [.lit (.bool false)], args := [d1, d2] }
  | _ => none }
def LinkOrderWrongFalsely : Prop := linkOrderRow.holds Try.pinned (OpenSpec.ofChange linkOrderWrong)

/-- 'stillagelaw18.LinkSent': WHATEVER THE INPUT: true; the input reads as it did. -/
def linkSentSpec : ChangeSpec := { name := "linkSent", fn := fun _ => fun
  | [d] => { results := [.lit (.bool true)], args := [d] }
  | _ => none }
def linkSentRow : OpenClaim := { program := "yteolokckflckaaa", sum := "e6bba4d20de9a9b3cba94f148ef4cda8e678551f656c497a075425c1816a651d", func := "stillage/stillagelaw18.LinkSent", spec := "linkSent", unfollowed := true, recurses := true, apart := false }
def LinkSentSaid : Prop := linkSentRow.holds Try.pinned (OpenSpec.ofChange linkSentSpec)

/-- ITS FALSE NEIGHBOUR: 'it returns false'. Refute it at one input. -/
def linkSentWrong : ChangeSpec := { name := "linkSent", fn := fun _ => fun
  | [d] => { results := [.lit (.bool false)], args := [d] }
  | _ => none }
def LinkSentWrongFalsely : Prop := linkSentRow.holds Try.pinned (OpenSpec.ofChange linkSentWrong)

/- THE SECOND FORM. 'bulk': how many values and letters a reading holds, each counted each time it is reached (what is shared counts as often as it is met; a slice's spare places count too). A statement '..UptoSaid' is the law's where the arguments, and the package variables that the reading takes, are together of bulk at most 1048576: NARROWER than '..Said'. Prove '..Said' where nothing that the law and all that it calls make is longer than what came in: it says more and counts as full. Else prove '..UptoSaid'. A law counts once. -/
mutual
def uptoBulk {H : Type} : DataW H → Nat
  | .lit (.string bytes) => bytes.length + 1
  | .lit _ => 1
  | .nil => 1
  | .ptr d => uptoBulk d + 1
  | .slice elems spare => uptoBulkAll elems + uptoBulkAll spare + 1
  | .agg parts => uptoBulkAll parts + 1
  | .iface _ d => uptoBulk d + 1
  | .map entries => uptoBulkEntries entries + 1
  | .held _ => 1
def uptoBulkAll {H : Type} : List (DataW H) → Nat
  | [] => 0
  | d :: r => uptoBulk d + uptoBulkAll r
def uptoBulkEntries {H : Type} : List (Lit × DataW H) → Nat
  | [] => 0
  | x :: r => uptoBulkEntry x + uptoBulkEntries r
def uptoBulkEntry {H : Type} : Lit × DataW H → Nat
  | (.string bytes, d) => bytes.length + uptoBulk d + 1
  | (_, d) => uptoBulk d + 1
 end
def uptoSmall : (H : Type) → List (DataW H) → Bool := fun _ ds => decide (uptoBulkAll ds ≤ 1048576)
def OpenSpec.upto (s : _root_.Go.ChangeSpec) : _root_.Go.OpenSpec := { _root_.Go.OpenSpec.ofChange s with cond := some uptoSmall }

/-- 'stillagelaw18.LinkLate', WHERE WHAT IT READS IS OF BULK AT MOST 1048576: true; the input reads as it did. -/
def linkLateUptoRow : OpenClaim := { program := "yteolokckflckaaa", sum := "e6bba4d20de9a9b3cba94f148ef4cda8e678551f656c497a075425c1816a651d", func := "stillage/stillagelaw18.LinkLate", spec := "linkLate", unfollowed := true, recurses := true, apart := false, narrowed := true }
def LinkLateUptoSaid : Prop := linkLateUptoRow.holds Try.pinned (OpenSpec.upto linkLateSpec)

/-- 'stillagelaw18.LinkDoes', WHERE WHAT IT READS IS OF BULK AT MOST 1048576: true; the input reads as it did. -/
def linkDoesUptoRow : OpenClaim := { program := "yteolokckflckaaa", sum := "e6bba4d20de9a9b3cba94f148ef4cda8e678551f656c497a075425c1816a651d", func := "stillage/stillagelaw18.LinkDoes", spec := "linkDoes", unfollowed := true, recurses := true, apart := false, narrowed := true }
def LinkDoesUptoSaid : Prop := linkDoesUptoRow.holds Try.pinned (OpenSpec.upto linkDoesSpec)

/-- 'stillagelaw18.LinkOrder', WHERE WHAT IT READS IS OF BULK AT MOST 1048576: true; the input reads as it did. -/
def linkOrderUptoRow : OpenClaim := { program := "yteolokckflckaaa", sum := "e6bba4d20de9a9b3cba94f148ef4cda8e678551f656c497a075425c1816a651d", func := "stillage/stillagelaw18.LinkOrder", spec := "linkOrder", unfollowed := true, recurses := true, apart := false, narrowed := true }
def LinkOrderUptoSaid : Prop := linkOrderUptoRow.holds Try.pinned (OpenSpec.upto linkOrderSpec)

/-- 'stillagelaw18.LinkSent', WHERE WHAT IT READS IS OF BULK AT MOST 1048576: true; the input reads as it did. -/
def linkSentUptoRow : OpenClaim := { program := "yteolokckflckaaa", sum := "e6bba4d20de9a9b3cba94f148ef4cda8e678551f656c497a075425c1816a651d", func := "stillage/stillagelaw18.LinkSent", spec := "linkSent", unfollowed := true, recurses := true, apart := false, narrowed := true }
def LinkSentUptoSaid : Prop := linkSentUptoRow.holds Try.pinned (OpenSpec.upto linkSentSpec)

end Rows
end Go.Proofs.Yteolokckflckaaa
