/-
  The document's pipe (stillageref05): Either. And Either of one empty pipe and itself.
-/
import Derived.Test.YtknjniadphoflaaDoc3
namespace Go.Proofs.Ytknjniadphoflaa
open Go.RowKit Go.Conc

theorem docEither_first (w : World) (a room b : Nat) (own : List Nat) (x : Int) (l : List Int) (cl : Bool) (h : DocIs w a room own (x :: l) cl) :
    Calls Try.prog 19 #[.pointer (some ⟨a, 0, none⟩), .pointer (some ⟨b, 0, none⟩)] w fun e w' => e = .returned (.tuple #[.int .i64 x, .int .i64 1]) ∧ DocTurn w w' a room own l cl := by
  have H := Lib.hid (docTake_cons w a room own x l cl h)
  clear h
  go_enter Try.func19, Try.ntmps19
  go_wp2_with fail
  refine H.out.mono ?_
  rintro e w1 ⟨rfl, h⟩
  have H1 := Lib.hid h
  clear h
  go_wp2_with fail
  go_ret2
  exact ⟨rfl, H1.out⟩

theorem docEither_second (w : World) (a room b roomb : Nat) (own ownb : List Nat) (l : List Int) (cl clb : Bool) (h : DocIs w a room own [] cl) (hb : DocIs w b roomb ownb l clb) :
    Calls Try.prog 19 #[.pointer (some ⟨a, 0, none⟩), .pointer (some ⟨b, 0, none⟩)] w fun e w' => e = .returned (.tuple #[headOr (Value.int .i64) (.int .i64 0) l, .int .i64 (if l.isEmpty then 0 else 2)]) ∧ DocTurn w w' b roomb ownb l.tail clb := by
  have H := Lib.hid (docTake_nil w a room own cl h)
  have HB := Lib.hid (docTake w b roomb ownb l clb hb)
  clear h hb
  go_enter Try.func19, Try.ntmps19
  go_wp2_with fail
  refine H.out.mono ?_
  rintro e w1 ⟨rfl, rfl⟩
  go_wp2_with fail
  refine HB.out.mono ?_
  rintro e w2 ⟨rfl, h⟩
  have H1 := Lib.hid h
  clear h HB H
  cases l with
  | nil =>
    simp only [headOr, List.isEmpty_nil, Bool.not_true]
    go_wp2_with fail
    go_ret2
    exact ⟨rfl, H1.out⟩
  | cons x l =>
    simp only [headOr, List.isEmpty_cons, Bool.not_false]
    go_wp2_with fail
    go_ret2
    exact ⟨rfl, H1.out⟩

set_option maxHeartbeats 400000 in
theorem eitherInt_same (w : World) (p c room : Nat) (cl : Bool) (h : IntPipe w p c room [] cl) :
    Calls Try.prog 18 #[.pointer (some ⟨p, 0, none⟩), .pointer (some ⟨p, 0, none⟩)] w fun e w' => e = .returned (.tuple #[.int .i64 0, .int .i64 0]) ∧
      IntPipe w' p c room [] cl ∧ Kept (· = c) w w' ∧ w'.heap.size = w.heap.size := by
  have t1 := takeInt w p c room [] cl h
  simp only [headOr, List.isEmpty_nil, Bool.not_true, List.tail_nil] at t1
  have T1 := Lib.hid t1
  clear t1 h
  go_enter Try.func18, Try.ntmps18
  go_wp2_with fail
  refine T1.out.mono ?_
  rintro e w1 ⟨rfl, hp1, hk1, hs1⟩
  have t2 := takeInt w1 p c room [] cl hp1
  simp only [headOr, List.isEmpty_nil, Bool.not_true, List.tail_nil] at t2
  have T2 := Lib.hid t2
  have H1 := Lib.hid (And.intro hk1 hs1)
  clear t2 hp1 hk1 hs1 T1
  go_wp2_with fail
  refine T2.out.mono ?_
  rintro e w2 ⟨rfl, hp2, hk2, hs2⟩
  have H2 := Lib.hid (And.intro hp2 (And.intro hk2 hs2))
  clear hp2 hk2 hs2 T2
  go_wp2_with fail
  go_ret2
  exact ⟨rfl, H2.out.1, H1.out.1.trans H2.out.2.1, H2.out.2.2.trans H1.out.2⟩

end Go.Proofs.Ytknjniadphoflaa
