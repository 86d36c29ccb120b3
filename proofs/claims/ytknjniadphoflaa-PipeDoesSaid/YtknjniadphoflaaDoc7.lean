/-
  Move of a pipe onto itself. And a script of the law's calls, told as a plain list.
-/
import Derived.Test.YtknjniadphoflaaDoc6
import Derived.Deep.Slices
import Derived.LaidEqlPtr
namespace Go.Proofs.Ytknjniadphoflaa
open Go.ChangeShapes Go.WideShapes Go.Deep Go.RowKit Go.Conc

theorem moveInt_same (w : World) (p : Nat) :
    Calls Try.prog 21 #[.pointer (some ⟨p, 0, none⟩), .pointer (some ⟨p, 0, none⟩)] w fun e w' => e = .returned (.int .i64 0) ∧ w' = w := by
  have heq : (Go.binOp .eql 33 (.pointer (some ⟨p, 0, none⟩)) (.pointer (some ⟨p, 0, none⟩))).run Try.prog w = .ok (.bool true) w := by
    have h : (Try.prog.info? 62).isSome = true := by kernel_rfl
    obtain ⟨i, hi⟩ := Option.isSome_iff_exists.1 h
    exact run_eql_ptr_same w ⟨p, 0, none⟩ Try.underlying33 hi
  go_enter Try.func21, Try.ntmps21
  go_wp2
  go_ret
  exact ⟨rfl, rfl⟩

end Go.Proofs.Ytknjniadphoflaa
