/-
  What came in, told as plain lists; texts of one byte.
-/
import Derived.Test.YteolokckflckaaaFixed
import Derived.Test.YteolokckflckaaaLift
import Derived.Deep.Strs
import Derived.Laws.BitsLemmas
namespace Go.Proofs.Yteolokckflckaaa
open Go.ChangeShapes Go.WideShapes Go.Deep Go.RowKit Go.Conc

theorem and_le (n : Int) (b : Nat) (hb : (BitVec.ofInt IntKind.i64.bits (b : Int)).toNat ≤ b) (hb' : b < 9223372036854775808) : 0 ≤ bits .and .i64 n b ∧ bits .and .i64 n b ≤ b := by
  have h : (BitVec.ofInt IntKind.i64.bits n &&& BitVec.ofInt IntKind.i64.bits (b : Int)).toNat ≤ b := by
    rw [BitVec.toNat_and]
    exact Nat.le_trans Nat.and_le_right hb
  unfold bits
  dsimp only
  rw [IntKind.wrap_i64]
  omega

theorem run_str1 (u : World) (b : Nat) (hb : b = u.heap.size) (m : Int) :
    (convert 28 9 (.slice (some ⟨b, 0, none⟩) 1 1)).run Try.prog (u.alloc (.cells #[.int .u8 m] 5)) = .ok (.string (byteStr [m])) (u.alloc (.cells #[.int .u8 m] 5)) := by
  subst hb
  refine run_str _ _ 1 1 [m] rfl fun j x hj => ?_
  rw [cell_of (alloc_at u _)]
  match j, hj with
  | 0, hj => simp at hj; subst hj; rfl

/-- v is a slice that reads as xs. -/
def IntsIn (w : World) (v : Value) (xs : List Int) : Prop :=
  ∃ ao cap, v = .slice ao xs.length cap ∧ xs.length ≤ 9223372036854775807 ∧ (0 < xs.length → ∃ b off, ao = some ⟨b, off, none⟩ ∧ ∀ i, i < xs.length → w.cell? ⟨b, off + i, none⟩ = some (.int .i64 (xs.getD i 0)))
def StrsIn (w : World) (v : Value) (xs : List ByteArray) : Prop :=
  ∃ ao cap, v = .slice ao xs.length cap ∧ xs.length ≤ 9223372036854775807 ∧ (0 < xs.length → ∃ b off, ao = some ⟨b, off, none⟩ ∧ ∀ i, i < xs.length → w.cell? ⟨b, off + i, none⟩ = some (.string (xs.getD i ⟨#[]⟩)))

section
variable {H : Type} {enc : TypeId × Value → H} {w : World} {base : Nat} {spare : Nat → Bool} {held : Bool}

theorem open_keys {r : Reach} {b0 : Nat} {v : Value} {d : DataW H} {p : List MemPlace} (hv : Value.okWide Try.prog w r b0 22 v) (h : DataW.Trod enc Try.prog w base spare held 22 v d p) : ∃ xs, IntsIn w v xs := by
  obtain ⟨a, len, cap, rfl⟩ := okWide_slice Try.underlying22 hv
  obtain ⟨fuel, hf⟩ := h
  rcases open_ints Try.underlying22 Try.underlying3 (by kernel_rfl) hf with ⟨hcs, _⟩ | ⟨a', len', cap', zs, hcs, _, hl, hm, hz, _, hc, _⟩
  · simp only [Value.cells, List.cons.injEq, Value.slice.injEq, and_true] at hcs
    obtain ⟨rfl, rfl, rfl⟩ := hcs
    exact ⟨[], none, 0, rfl, by simp, fun h => by simp at h⟩
  · simp only [Value.cells, List.cons.injEq, Value.slice.injEq, and_true] at hcs
    obtain ⟨rfl, rfl, rfl⟩ := hcs
    have hlz : len ≤ zs.length := by rw [hz]; split <;> omega
    have hlen : (zs.take len).length = len := by rw [List.length_take]; omega
    unfold maxLen at hm
    refine ⟨zs.take len, _, cap, by rw [hlen], by omega, fun h0 => ?_⟩
    rw [hlen] at h0
    obtain ⟨b, off, spot⟩ := a'
    have hspot : spot = none := by
      have := hc 0 (by omega)
      simpa [Addr.add] using World.cell?_spot this
    subst hspot
    refine ⟨b, off, rfl, fun i hi => ?_⟩
    rw [hlen] at hi
    have := hc i (by omega)
    rw [Addr.add_lit] at this
    rw [show (zs.take len).getD i 0 = zs.getD i 0 by simp [List.getD_eq_getElem?_getD, hi]]
    exact this
end

end Go.Proofs.Yteolokckflckaaa
