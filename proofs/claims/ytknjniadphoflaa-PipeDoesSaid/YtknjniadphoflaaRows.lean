/-
  No cell of these rows narrows 'for every input' (looked for: loops, veiled, ifaces, maps, wideKeys, modest, calm, conditions, laid).
  DERIVED. THE GIVEN ROWS OF THIS SEAT. 5 by the template 'for every input the law returns true; each argument reads behind the call as it read before'; 0 by the template 'total and deterministic' (their statements: YtknjniadphoflaaTotals.lean).
  GIVEN WITH THE SEED: the statements are not yours to turn. If you find one false, say at which input.
  Laid BY PROGRAM, IN A SANDBOX (cutbox-rows.mjs): the forced cells as the released guide's own fill.sh prints them over the translation 55fd62818d3313ba… (all of the seat's roots in one cut). By AI agents, Wed Nov 11 2026. No macro, syntax, notation, axiom, sorry.
-/
import Derived.Test.YtknjniadphoflaaChecked
import GoSem.Claim
import GoSem.ClaimJoined
import GoSem.ClaimMapViews
import Derived.JoinedTies
import Derived.KernelRfl
namespace Go.Proofs.Ytknjniadphoflaa
/- THE CELL 'sum', in the pinned program and in every row, IS THE sha256 OF THE DUMP (.gsa) THAT YtknjniadphoflaaProg.lean LOADS. Nothing in Lean hashes anything: it is a label: what it is worth is what the hold of that sum in a sandbox is worth. -/
noncomputable def Try.pinned : Pinned := { name := "ytknjniadphoflaa", sum := "55fd62818d3313bad4decffb51963e29584082164aa3b67b1c6b777c70a8eab2", checked := Try.checked }
namespace Rows
def none {H : Type} : Left H := { results := [], args := [] }

/-- 'stillagelaw05.PipeNews': WHATEVER THE INPUT: true; the input reads as it did. -/
def pipeNewsSpec : ChangeSpec := { name := "pipeNews", fn := fun _ => fun
  | [d] => { results := [.lit (.bool true)], args := [d] }
  | _ => none }
def pipeNewsRow : OpenClaim := { program := "ytknjniadphoflaa", sum := "55fd62818d3313bad4decffb51963e29584082164aa3b67b1c6b777c70a8eab2", func := "stillage/stillagelaw05.PipeNews", spec := "pipeNews", apart := false }
def PipeNewsSaid : Prop := pipeNewsRow.holds Try.pinned (OpenSpec.ofChange pipeNewsSpec)

/-- ITS FALSE NEIGHBOUR: 'it returns false'. Refute it at one input. -/
def pipeNewsWrong : ChangeSpec := { name := "pipeNews", fn := fun _ => fun
  | [d] => { results := [.lit (.bool false)], args := [d] }
  | _ => none }
def PipeNewsWrongFalsely : Prop := pipeNewsRow.holds Try.pinned (OpenSpec.ofChange pipeNewsWrong)

/-- 'stillagelaw05.PipeDoes': WHATEVER THE INPUT: true; the input reads as it did. -/
def pipeDoesSpec : ChangeSpec := { name := "pipeDoes", fn := fun _ => fun
  | [d1, d2] => { results := [.lit (.bool true)], args := [d1, d2] }
  | _ => none }
def pipeDoesRow : OpenClaim := { program := "ytknjniadphoflaa", sum := "55fd62818d3313bad4decffb51963e29584082164aa3b67b1c6b777c70a8eab2", func := "stillage/stillagelaw05.PipeDoes", spec := "pipeDoes", apart := false }
def PipeDoesSaid : Prop := pipeDoesRow.holds Try.pinned (OpenSpec.ofChange pipeDoesSpec)

/-- ITS FALSE NEIGHBOUR: 'it returns false'. Refute it at one input. -/
def pipeDoesWrong : ChangeSpec := { name := "pipeDoes", fn := fun _ => fun
  | [d1, d2] => { results := [.lit (.bool false)], args := [d1, d2] }
  | _ => none }
def PipeDoesWrongFalsely : Prop := pipeDoesRow.holds Try.pinned (OpenSpec.ofChange pipeDoesWrong)

/-- 'stillagelaw05.PipeOrder': WHATEVER THE INPUT: true; the input reads as it did. -/
def pipeOrderSpec : ChangeSpec := { name := "pipeOrder", fn := fun _ => fun
  | [d1, d2] => { results := [.lit (.bool true)], args := [d1, d2] }
  | _ => none }
def pipeOrderRow : OpenClaim := { program := "ytknjniadphoflaa", sum := "55fd62818d3313bad4decffb51963e29584082164aa3b67b1c6b777c70a8eab2", func := "stillage/stillagelaw05.PipeOrder", spec := "pipeOrder", apart := false }
def PipeOrderSaid : Prop := pipeOrderRow.holds Try.pinned (OpenSpec.ofChange pipeOrderSpec)

/-- ITS FALSE NEIGHBOUR: 'it returns false'. Refute it at one input. -/
def pipeOrderWrong : ChangeSpec := { name := "pipeOrder", fn := fun _ => fun
  | [d1, d2] => { results := [.lit (.bool false)], args := [d1, d2] }
  | _ => none }
def PipeOrderWrongFalsely : Prop := pipeOrderRow.holds Try.pinned (OpenSpec.ofChange pipeOrderWrong)

/-- 'stillagelaw05.PipeCloses': WHATEVER THE INPUT: true; the input reads as it did. -/
def pipeClosesSpec : ChangeSpec := { name := "pipeCloses", fn := fun _ => fun
  | [d] => { results := [.lit (.bool true)], args := [d] }
  | _ => none }
def pipeClosesRow : OpenClaim := { program := "ytknjniadphoflaa", sum := "55fd62818d3313bad4decffb51963e29584082164aa3b67b1c6b777c70a8eab2", func := "stillage/stillagelaw05.PipeCloses", spec := "pipeCloses", apart := false }
def PipeClosesSaid : Prop := pipeClosesRow.holds Try.pinned (OpenSpec.ofChange pipeClosesSpec)

/-- ITS FALSE NEIGHBOUR: 'it returns false'. Refute it at one input. -/
def pipeClosesWrong : ChangeSpec := { name := "pipeCloses", fn := fun _ => fun
  | [d] => { results := [.lit (.bool false)], args := [d] }
  | _ => none }
def PipeClosesWrongFalsely : Prop := pipeClosesRow.holds Try.pinned (OpenSpec.ofChange pipeClosesWrong)

/-- 'stillagelaw05.PipeMoves': WHATEVER THE INPUT: true; the input reads as it did. -/
def pipeMovesSpec : ChangeSpec := { name := "pipeMoves", fn := fun _ => fun
  | [d1, d2, d3] => { results := [.lit (.bool true)], args := [d1, d2, d3] }
  | _ => none }
def pipeMovesRow : OpenClaim := { program := "ytknjniadphoflaa", sum := "55fd62818d3313bad4decffb51963e29584082164aa3b67b1c6b777c70a8eab2", func := "stillage/stillagelaw05.PipeMoves", spec := "pipeMoves", apart := false }
def PipeMovesSaid : Prop := pipeMovesRow.holds Try.pinned (OpenSpec.ofChange pipeMovesSpec)

/-- ITS FALSE NEIGHBOUR: 'it returns false'. Refute it at one input. -/
def pipeMovesWrong : ChangeSpec := { name := "pipeMoves", fn := fun _ => fun
  | [d1, d2, d3] => { results := [.lit (.bool false)], args := [d1, d2, d3] }
  | _ => none }
def PipeMovesWrongFalsely : Prop := pipeMovesRow.holds Try.pinned (OpenSpec.ofChange pipeMovesWrong)

/- THE SECOND FORM. 'bulk': how many values and letters a reading holds, each counted each time it is reached (what is shared counts as often as it is met; a slice's spare places count too). A statement '..UptoSaid' is the law's where the arguments, and the package variables that the reading takes, are together of bulk at most 1048576: NARROWER than '..Said'. Prove '..Said' where nothing that the law and all that it calls make is longer than what came in: it says more and counts as full. Else prove '..UptoSaid'. A law counts once. -/
mutual
def uptoBulk {H : Type} : DataW H → Nat
  | .lit (.string bytes) => bytes.length + 1
  | .lit _ => 1
  | .nil => 1
  | .ptr d => uptoBulk d + 1
  | .slice elems spare => uptoBulkAll elems + uptoBulkAll spare + 1
  | .agg parts => uptoBulkAll parts + 1
  | .iface _ d => uptoBulk d + 1
  | .map entries => uptoBulkEntries entries + 1
  | .held _ => 1
def uptoBulkAll {H : Type} : List (DataW H) → Nat
  | [] => 0
  | d :: r => uptoBulk d + uptoBulkAll r
def uptoBulkEntries {H : Type} : List (Lit × DataW H) → Nat
  | [] => 0
  | x :: r => uptoBulkEntry x + uptoBulkEntries r
def uptoBulkEntry {H : Type} : Lit × DataW H → Nat
  | (.string bytes, d) => bytes.length + uptoBulk d + 1
  | (_, d) => uptoBulk d + 1
 end
def uptoSmall : (H : Type) → List (DataW H) → Bool := fun _ ds => decide (uptoBulkAll ds ≤ 1048576)
def OpenSpec.upto (s : _root_.Go.ChangeSpec) : _root_.Go.OpenSpec := { _root_.Go.OpenSpec.ofChange s with cond := some uptoSmall }

/-- 'stillagelaw05.PipeNews', WHERE WHAT IT READS IS OF BULK AT MOST 1048576: true; the input reads as it did. -/
def pipeNewsUptoRow : OpenClaim := { program := "ytknjniadphoflaa", sum := "55fd62818d3313bad4decffb51963e29584082164aa3b67b1c6b777c70a8eab2", func := "stillage/stillagelaw05.PipeNews", spec := "pipeNews", apart := false, narrowed := true }
def PipeNewsUptoSaid : Prop := pipeNewsUptoRow.holds Try.pinned (OpenSpec.upto pipeNewsSpec)

/-- 'stillagelaw05.PipeDoes', WHERE WHAT IT READS IS OF BULK AT MOST 1048576: true; the input reads as it did. -/
def pipeDoesUptoRow : OpenClaim := { program := "ytknjniadphoflaa", sum := "55fd62818d3313bad4decffb51963e29584082164aa3b67b1c6b777c70a8eab2", func := "stillage/stillagelaw05.PipeDoes", spec := "pipeDoes", apart := false, narrowed := true }
def PipeDoesUptoSaid : Prop := pipeDoesUptoRow.holds Try.pinned (OpenSpec.upto pipeDoesSpec)

/-- 'stillagelaw05.PipeOrder', WHERE WHAT IT READS IS OF BULK AT MOST 1048576: true; the input reads as it did. -/
def pipeOrderUptoRow : OpenClaim := { program := "ytknjniadphoflaa", sum := "55fd62818d3313bad4decffb51963e29584082164aa3b67b1c6b777c70a8eab2", func := "stillage/stillagelaw05.PipeOrder", spec := "pipeOrder", apart := false, narrowed := true }
def PipeOrderUptoSaid : Prop := pipeOrderUptoRow.holds Try.pinned (OpenSpec.upto pipeOrderSpec)

/-- 'stillagelaw05.PipeCloses', WHERE WHAT IT READS IS OF BULK AT MOST 1048576: true; the input reads as it did. -/
def pipeClosesUptoRow : OpenClaim := { program := "ytknjniadphoflaa", sum := "55fd62818d3313bad4decffb51963e29584082164aa3b67b1c6b777c70a8eab2", func := "stillage/stillagelaw05.PipeCloses", spec := "pipeCloses", apart := false, narrowed := true }
def PipeClosesUptoSaid : Prop := pipeClosesUptoRow.holds Try.pinned (OpenSpec.upto pipeClosesSpec)

/-- 'stillagelaw05.PipeMoves', WHERE WHAT IT READS IS OF BULK AT MOST 1048576: true; the input reads as it did. -/
def pipeMovesUptoRow : OpenClaim := { program := "ytknjniadphoflaa", sum := "55fd62818d3313bad4decffb51963e29584082164aa3b67b1c6b777c70a8eab2", func := "stillage/stillagelaw05.PipeMoves", spec := "pipeMoves", apart := false, narrowed := true }
def PipeMovesUptoSaid : Prop := pipeMovesUptoRow.holds Try.pinned (OpenSpec.upto pipeMovesSpec)

end Rows
end Go.Proofs.Ytknjniadphoflaa
