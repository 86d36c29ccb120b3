/-
  No cell of these rows narrows 'for every input' (looked for: loops, veiled, ifaces, maps, wideKeys, modest, calm, conditions, laid).
  DERIVED. THE GIVEN ROWS OF THIS SEAT. 6 by the template 'for every input the law returns true; each argument reads behind the call as it read before'; 0 by the template 'total and deterministic' (their statements: YtggpmnhbplmagaaTotals.lean).
  GIVEN WITH THE SEED: the statements are not yours to turn. If you find one false, say at which input.
  Laid BY PROGRAM, IN A SANDBOX (cutbox-rows.mjs): the forced cells as the released guide's own fill.sh prints them over the translation 7c9b94eea51de131… (all of the seat's roots in one cut). By AI agents, Wed Nov 11 2026. No macro, syntax, notation, axiom, sorry.
-/
import Derived.Test.YtggpmnhbplmagaaChecked
import GoSem.Claim
import GoSem.ClaimJoined
import GoSem.ClaimMapViews
import Derived.JoinedTies
import Derived.KernelRfl
namespace Go.Proofs.Ytggpmnhbplmagaa
/- THE CELL 'sum', in the pinned program and in every row, IS THE sha256 OF THE DUMP (.gsa) THAT YtggpmnhbplmagaaProg.lean LOADS. Nothing in Lean hashes anything: it is a label: what it is worth is what the hold of that sum in a sandbox is worth. -/
noncomputable def Try.pinned : Pinned := { name := "ytggpmnhbplmagaa", sum := "7c9b94eea51de131fd8eafc083f35043557039dec84968020c09d92c20d082d1", checked := Try.checked }
namespace Rows
def none {H : Type} : Left H := { results := [], args := [] }

/-- 'stillagelaw04.CacheNews': WHATEVER THE INPUT: true; the input reads as it did. -/
def cacheNewsSpec : ChangeSpec := { name := "cacheNews", fn := fun _ => fun
  | [d] => { results := [.lit (.bool true)], args := [d] }
  | _ => none }
def cacheNewsRow : OpenClaim := { program := "ytggpmnhbplmagaa", sum := "7c9b94eea51de131fd8eafc083f35043557039dec84968020c09d92c20d082d1", func := "stillage/stillagelaw04.CacheNews", spec := "cacheNews", apart := false }
def CacheNewsSaid : Prop := cacheNewsRow.holds Try.pinned (OpenSpec.ofChange cacheNewsSpec)

/-- ITS FALSE NEIGHBOUR: 'it returns false'. Refute it at one input. -/
def cacheNewsWrong : ChangeSpec := { name := "cacheNews", fn := fun _ => fun
  | [d] => { results := [.lit (.bool false)], args := [d] }
  | _ => none }
def CacheNewsWrongFalsely : Prop := cacheNewsRow.holds Try.pinned (OpenSpec.ofChange cacheNewsWrong)

/-- 'stillagelaw04.CacheDoes': WHATEVER THE INPUT: true; the input reads as it did. -/
def cacheDoesSpec : ChangeSpec := { name := "cacheDoes", fn := fun _ => fun
  | [d1, d2] => { results := [.lit (.bool true)], args := [d1, d2] }
  | _ => none }
def cacheDoesRow : OpenClaim := { program := "ytggpmnhbplmagaa", sum := "7c9b94eea51de131fd8eafc083f35043557039dec84968020c09d92c20d082d1", func := "stillage/stillagelaw04.CacheDoes", spec := "cacheDoes", apart := false }
def CacheDoesSaid : Prop := cacheDoesRow.holds Try.pinned (OpenSpec.ofChange cacheDoesSpec)

/-- ITS FALSE NEIGHBOUR: 'it returns false'. Refute it at one input. -/
def cacheDoesWrong : ChangeSpec := { name := "cacheDoes", fn := fun _ => fun
  | [d1, d2] => { results := [.lit (.bool false)], args := [d1, d2] }
  | _ => none }
def CacheDoesWrongFalsely : Prop := cacheDoesRow.holds Try.pinned (OpenSpec.ofChange cacheDoesWrong)

/-- 'stillagelaw04.CacheKinds': WHATEVER THE INPUT: true; the input reads as it did. -/
def cacheKindsSpec : ChangeSpec := { name := "cacheKinds", fn := fun _ => fun
  | [d1, d2] => { results := [.lit (.bool true)], args := [d1, d2] }
  | _ => none }
def cacheKindsRow : OpenClaim := { program := "ytggpmnhbplmagaa", sum := "7c9b94eea51de131fd8eafc083f35043557039dec84968020c09d92c20d082d1", func := "stillage/stillagelaw04.CacheKinds", spec := "cacheKinds", apart := false }
def CacheKindsSaid : Prop := cacheKindsRow.holds Try.pinned (OpenSpec.ofChange cacheKindsSpec)

/-- ITS FALSE NEIGHBOUR: 'it returns false'. Refute it at one input. -/
def cacheKindsWrong : ChangeSpec := { name := "cacheKinds", fn := fun _ => fun
  | [d1, d2] => { results := [.lit (.bool false)], args := [d1, d2] }
  | _ => none }
def CacheKindsWrongFalsely : Prop := cacheKindsRow.holds Try.pinned (OpenSpec.ofChange cacheKindsWrong)

/-- 'stillagelaw04.CacheKeeps': WHATEVER THE INPUT: true; the input reads as it did. -/
def cacheKeepsSpec : ChangeSpec := { name := "cacheKeeps", fn := fun _ => fun
  | [d1, d2] => { results := [.lit (.bool true)], args := [d1, d2] }
  | _ => none }
def cacheKeepsRow : OpenClaim := { program := "ytggpmnhbplmagaa", sum := "7c9b94eea51de131fd8eafc083f35043557039dec84968020c09d92c20d082d1", func := "stillage/stillagelaw04.CacheKeeps", spec := "cacheKeeps", apart := false }
def CacheKeepsSaid : Prop := cacheKeepsRow.holds Try.pinned (OpenSpec.ofChange cacheKeepsSpec)

/-- ITS FALSE NEIGHBOUR: 'it returns false'. Refute it at one input. -/
def cacheKeepsWrong : ChangeSpec := { name := "cacheKeeps", fn := fun _ => fun
  | [d1, d2] => { results := [.lit (.bool false)], args := [d1, d2] }
  | _ => none }
def CacheKeepsWrongFalsely : Prop := cacheKeepsRow.holds Try.pinned (OpenSpec.ofChange cacheKeepsWrong)

/-- 'stillagelaw04.CacheLess': WHATEVER THE INPUT: true; the input reads as it did. -/
def cacheLessSpec : ChangeSpec := { name := "cacheLess", fn := fun _ => fun
  | [d1, d2] => { results := [.lit (.bool true)], args := [d1, d2] }
  | _ => none }
def cacheLessRow : OpenClaim := { program := "ytggpmnhbplmagaa", sum := "7c9b94eea51de131fd8eafc083f35043557039dec84968020c09d92c20d082d1", func := "stillage/stillagelaw04.CacheLess", spec := "cacheLess", apart := false }
def CacheLessSaid : Prop := cacheLessRow.holds Try.pinned (OpenSpec.ofChange cacheLessSpec)

/-- ITS FALSE NEIGHBOUR: 'it returns false'. Refute it at one input. -/
def cacheLessWrong : ChangeSpec := { name := "cacheLess", fn := fun _ => fun
  | [d1, d2] => { results := [.lit (.bool false)], args := [d1, d2] }
  | _ => none }
def CacheLessWrongFalsely : Prop := cacheLessRow.holds Try.pinned (OpenSpec.ofChange cacheLessWrong)

/-- 'stillagelaw04.CacheDrops': WHATEVER THE INPUT: true; the input reads as it did. -/
def cacheDropsSpec : ChangeSpec := { name := "cacheDrops", fn := fun _ => fun
  | [d1, d2, d3] => { results := [.lit (.bool true)], args := [d1, d2, d3] }
  | _ => none }
def cacheDropsRow : OpenClaim := { program := "ytggpmnhbplmagaa", sum := "7c9b94eea51de131fd8eafc083f35043557039dec84968020c09d92c20d082d1", func := "stillage/stillagelaw04.CacheDrops", spec := "cacheDrops", apart := false }
def CacheDropsSaid : Prop := cacheDropsRow.holds Try.pinned (OpenSpec.ofChange cacheDropsSpec)

/-- ITS FALSE NEIGHBOUR: 'it returns false'. Refute it at one input. -/
def cacheDropsWrong : ChangeSpec := { name := "cacheDrops", fn := fun _ => fun
  | [d1, d2, d3] => { results := [.lit (.bool false)], args := [d1, d2, d3] }
  | _ => none }
def CacheDropsWrongFalsely : Prop := cacheDropsRow.holds Try.pinned (OpenSpec.ofChange cacheDropsWrong)

/- THE SECOND FORM. 'bulk': how many values and letters a reading holds, each counted each time it is reached (what is shared counts as often as it is met; a slice's spare places count too). A statement '..UptoSaid' is the law's where the arguments, and the package variables that the reading takes, are together of bulk at most 1048576: NARROWER than '..Said'. Prove '..Said' where nothing that the law and all that it calls make is longer than what came in: it says more and counts as full. Else prove '..UptoSaid'. A law counts once. -/
mutual
def uptoBulk {H : Type} : DataW H → Nat
  | .lit (.string bytes) => bytes.length + 1
  | .lit _ => 1
  | .nil => 1
  | .ptr d => uptoBulk d + 1
  | .slice elems spare => uptoBulkAll elems + uptoBulkAll spare + 1
  | .agg parts => uptoBulkAll parts + 1
  | .iface _ d => uptoBulk d + 1
  | .map entries => uptoBulkEntries entries + 1
  | .held _ => 1
def uptoBulkAll {H : Type} : List (DataW H) → Nat
  | [] => 0
  | d :: r => uptoBulk d + uptoBulkAll r
def uptoBulkEntries {H : Type} : List (Lit × DataW H) → Nat
  | [] => 0
  | x :: r => uptoBulkEntry x + uptoBulkEntries r
def uptoBulkEntry {H : Type} : Lit × DataW H → Nat
  | (.string bytes, d) => bytes.length + uptoBulk d + 1
  | (_, d) => uptoBulk d + 1
 end
def uptoSmall : (H : Type) → List (DataW H) → Bool := fun _ ds => decide (uptoBulkAll ds ≤ 1048576)
def OpenSpec.upto (s : _root_.Go.ChangeSpec) : _root_.Go.OpenSpec := { _root_.Go.OpenSpec.ofChange s with cond := some uptoSmall }

/-- 'stillagelaw04.CacheNews', WHERE WHAT IT READS IS OF BULK AT MOST 1048576: true; the input reads as it did. -/
def cacheNewsUptoRow : OpenClaim := { program := "ytggpmnhbplmagaa", sum := "7c9b94eea51de131fd8eafc083f35043557039dec84968020c09d92c20d082d1", func := "stillage/stillagelaw04.CacheNews", spec := "cacheNews", apart := false, narrowed := true }
def CacheNewsUptoSaid : Prop := cacheNewsUptoRow.holds Try.pinned (OpenSpec.upto cacheNewsSpec)

/-- 'stillagelaw04.CacheDoes', WHERE WHAT IT READS IS OF BULK AT MOST 1048576: true; the input reads as it did. -/
def cacheDoesUptoRow : OpenClaim := { program := "ytggpmnhbplmagaa", sum := "7c9b94eea51de131fd8eafc083f35043557039dec84968020c09d92c20d082d1", func := "stillage/stillagelaw04.CacheDoes", spec := "cacheDoes", apart := false, narrowed := true }
def CacheDoesUptoSaid : Prop := cacheDoesUptoRow.holds Try.pinned (OpenSpec.upto cacheDoesSpec)

/-- 'stillagelaw04.CacheKinds', WHERE WHAT IT READS IS OF BULK AT MOST 1048576: true; the input reads as it did. -/
def cacheKindsUptoRow : OpenClaim := { program := "ytggpmnhbplmagaa", sum := "7c9b94eea51de131fd8eafc083f35043557039dec84968020c09d92c20d082d1", func := "stillage/stillagelaw04.CacheKinds", spec := "cacheKinds", apart := false, narrowed := true }
def CacheKindsUptoSaid : Prop := cacheKindsUptoRow.holds Try.pinned (OpenSpec.upto cacheKindsSpec)

/-- 'stillagelaw04.CacheKeeps', WHERE WHAT IT READS IS OF BULK AT MOST 1048576: true; the input reads as it did. -/
def cacheKeepsUptoRow : OpenClaim := { program := "ytggpmnhbplmagaa", sum := "7c9b94eea51de131fd8eafc083f35043557039dec84968020c09d92c20d082d1", func := "stillage/stillagelaw04.CacheKeeps", spec := "cacheKeeps", apart := false, narrowed := true }
def CacheKeepsUptoSaid : Prop := cacheKeepsUptoRow.holds Try.pinned (OpenSpec.upto cacheKeepsSpec)

/-- 'stillagelaw04.CacheLess', WHERE WHAT IT READS IS OF BULK AT MOST 1048576: true; the input reads as it did. -/
def cacheLessUptoRow : OpenClaim := { program := "ytggpmnhbplmagaa", sum := "7c9b94eea51de131fd8eafc083f35043557039dec84968020c09d92c20d082d1", func := "stillage/stillagelaw04.CacheLess", spec := "cacheLess", apart := false, narrowed := true }
def CacheLessUptoSaid : Prop := cacheLessUptoRow.holds Try.pinned (OpenSpec.upto cacheLessSpec)

/-- 'stillagelaw04.CacheDrops', WHERE WHAT IT READS IS OF BULK AT MOST 1048576: true; the input reads as it did. -/
def cacheDropsUptoRow : OpenClaim := { program := "ytggpmnhbplmagaa", sum := "7c9b94eea51de131fd8eafc083f35043557039dec84968020c09d92c20d082d1", func := "stillage/stillagelaw04.CacheDrops", spec := "cacheDrops", apart := false, narrowed := true }
def CacheDropsUptoSaid : Prop := cacheDropsUptoRow.holds Try.pinned (OpenSpec.upto cacheDropsSpec)

end Rows
end Go.Proofs.Ytggpmnhbplmagaa
