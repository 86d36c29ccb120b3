/-
  The calls whose answers the document fixes (stillagelaw05.fixed): they answer true, and nothing that was there has turned.
-/
import Derived.Test.YtknjniadphoflaaPipe2
namespace Go.Proofs.Ytknjniadphoflaa
open Go.RowKit Go.Conc

/-- Two pipes of ints, side by side. -/
structure Two (w0 w : World) (p c ra : Nat) (la : List Int) (cla : Bool) (q d rb : Nat) (lb : List Int) (clb : Bool) : Prop where
  one : IntPipe w p c ra la cla
  two : IntPipe w q d rb lb clb
  apart : p ≠ q ∧ c ≠ d
  old : Below w0.heap.size w0 w
  above : w0.heap.size ≤ p ∧ w0.heap.size ≤ c ∧ w0.heap.size ≤ q ∧ w0.heap.size ≤ d

section
variable {w0 w w' : World} {p c ra : Nat} {la : List Int} {cla : Bool} {q d rb : Nat} {lb : List Int} {clb : Bool}

theorem Two.first (h : Two w0 w p c ra la cla q d rb lb clb) {la' : List Int} {cla' : Bool} (h1 : IntPipe w' p c ra la' cla') (k : Kept (fun k => k = c ∨ k = p) w w') : Two w0 w' p c ra la' cla' q d rb lb clb :=
  ⟨h1, h.two.kept k (fun e => by rcases e with e | e; exact PipeAt.ne2 h.one h.two e.symm; exact h.apart.1 e.symm) (fun e => by rcases e with e | e; exact h.apart.2 e.symm; exact PipeAt.ne2 h.two h.one e), h.apart,
    k.below h.old (by have := h.old.size; omega) (fun i hi => by rcases hi with rfl | rfl; exact h.above.2.1; exact h.above.1), h.above⟩
theorem Two.second (h : Two w0 w p c ra la cla q d rb lb clb) {lb' : List Int} {clb' : Bool} (h1 : IntPipe w' q d rb lb' clb') (k : Kept (fun k => k = d ∨ k = q) w w') : Two w0 w' p c ra la cla q d rb lb' clb' :=
  ⟨h.one.kept k (fun e => by rcases e with e | e; exact PipeAt.ne2 h.two h.one e.symm; exact h.apart.1 e) (fun e => by rcases e with e | e; exact h.apart.2 e; exact PipeAt.ne2 h.one h.two e), h1, h.apart,
    k.below h.old (by have := h.old.size; omega) (fun i hi => by rcases hi with rfl | rfl; exact h.above.2.2.2; exact h.above.2.2.1), h.above⟩

theorem Two.send1 (h : Two w0 w p c ra la cla q d rb lb clb) (x : Int) (b : Bool) (hb : sends ra la cla = b) : Calls Try.prog 12 #[.pointer (some ⟨p, 0, none⟩), .int .i64 x] w fun e w' => e = .returned (.bool b) ∧ Two w0 w' p c ra (sent ra la cla x) cla q d rb lb clb :=
  (sendInt w p c ra la cla x h.one).mono fun _ _ ⟨he, hp, hk, _⟩ => ⟨hb ▸ he, h.first hp (hk.mono fun _ _ e => .inl e)⟩
theorem Two.send2 (h : Two w0 w p c ra la cla q d rb lb clb) (x : Int) (b : Bool) (hb : sends rb lb clb = b) : Calls Try.prog 12 #[.pointer (some ⟨q, 0, none⟩), .int .i64 x] w fun e w' => e = .returned (.bool b) ∧ Two w0 w' p c ra la cla q d rb (sent rb lb clb x) clb :=
  (sendInt w q d rb lb clb x h.two).mono fun _ _ ⟨he, hp, hk, _⟩ => ⟨hb ▸ he, h.second hp (hk.mono fun _ _ e => .inl e)⟩
theorem Two.take1 {x : Int} (h : Two w0 w p c ra (x :: la) cla q d rb lb clb) : Calls Try.prog 14 #[.pointer (some ⟨p, 0, none⟩)] w fun e w' => e = .returned (.tuple #[.int .i64 x, .bool true]) ∧ Two w0 w' p c ra la cla q d rb lb clb :=
  (takeInt w p c ra _ cla h.one).mono fun _ _ ⟨he, hp, hk, _⟩ => ⟨he, h.first hp (hk.mono fun _ _ e => .inl e)⟩
theorem Two.either1 {x : Int} (h : Two w0 w p c ra (x :: la) cla q d rb lb clb) : Calls Try.prog 18 #[.pointer (some ⟨p, 0, none⟩), .pointer (some ⟨q, 0, none⟩)] w fun e w' => e = .returned (.tuple #[.int .i64 x, .int .i64 1]) ∧ Two w0 w' p c ra la cla q d rb lb clb :=
  (eitherInt_first w p c ra q x la cla h.one).mono fun _ _ ⟨he, hp, hk, _⟩ => ⟨he, h.first hp (hk.mono fun _ _ e => .inl e)⟩
theorem Two.either2 (h : Two w0 w p c ra [] cla q d rb lb clb) : Calls Try.prog 18 #[.pointer (some ⟨p, 0, none⟩), .pointer (some ⟨q, 0, none⟩)] w fun e w' => e = .returned (.tuple #[headOr (Value.int .i64) (.int .i64 0) lb, .int .i64 (if lb.isEmpty then 0 else 2)]) ∧ Two w0 w' p c ra [] cla q d rb lb.tail clb :=
  (eitherInt_second w p c ra q d rb lb cla clb h.one h.two (PipeAt.ne2 h.one h.two) h.apart.2).mono fun _ _ ⟨he, hp, hq, hk, _⟩ => ⟨he, hp, hq, h.apart,
    hk.below h.old (by have := h.old.size; omega) (fun i hi => by rcases hi with rfl | rfl; exact h.above.2.1; exact h.above.2.2.2), h.above⟩
theorem Two.close1 (h : Two w0 w p c ra la cla q d rb lb clb) : Calls Try.prog 16 #[.pointer (some ⟨p, 0, none⟩)] w fun e w' => e = .returned (.bool (!cla)) ∧ Two w0 w' p c ra la true q d rb lb clb :=
  (closeInt w p c ra la cla h.one).mono fun _ _ ⟨he, hp, hk, _⟩ => ⟨he, h.first hp (hk.mono fun _ _ e => .inr e)⟩
theorem Two.len1 (h : Two w0 w p c ra la cla q d rb lb clb) (n : Int) (hn : (la.length : Int) = n) : Calls Try.prog 22 #[.pointer (some ⟨p, 0, none⟩)] w fun e w' => e = .returned (.int .i64 n) ∧ Two w0 w' p c ra la cla q d rb lb clb :=
  (lenInt w p c ra la cla h.one).mono fun _ _ ⟨he, hw⟩ => ⟨hn ▸ he, hw ▸ h⟩
end

set_option maxHeartbeats 2000000 in
set_option maxRecDepth 100000 in
theorem fixed_true (w : World) : Calls Try.prog 9 #[] w fun e w' => e = .returned (.bool true) ∧ Below w.heap.size w w' := by
  go_enter Try.func9, Try.ntmps9
  go_wp2_with fail
  refine (newInt 2 (by omega) (by omega) w).mono ?_
  rintro e w1 ⟨rfl, hp, ho, hs⟩
  have H1 := Lib.hid (And.intro hp (And.intro ho hs)); clear hp ho hs
  go_wp2_with fail
  refine (newInt 1 (by omega) (by omega) w1).mono ?_
  rintro e w2 ⟨rfl, hp, ho, hs⟩
  have ht : Two w w2 (w.heap.size + 1) w.heap.size 2 [] false (w1.heap.size + 1) w1.heap.size 1 [] false := by
    obtain ⟨h1, h2, h3⟩ := H1.out
    refine ⟨h1.kept (Kept.of_below ho (fun _ => False)) (fun h => h) (fun h => h), hp, by omega, h2.trans (ho.mono (by omega)), by omega⟩
  have H2 := Lib.hid ht; clear hp ho hs ht
  go_wp2_with fail
  refine (newStr_no 0 (by omega) w2).mono ?_
  rintro e w3 ⟨rfl, rfl⟩
  go_wp2_with fail
  refine (H2.out.send1 5 true rfl).mono ?_
  rintro e w4 ⟨rfl, ht⟩
  have H4 : Hid (Two w w4 (w.heap.size + 1) w.heap.size 2 [5] false (w1.heap.size + 1) w1.heap.size 1 [] false) := Lib.hid ht; clear ht
  go_wp2_with fail
  refine (H4.out.send1 6 true rfl).mono ?_
  rintro e w5 ⟨rfl, ht⟩
  have H5 : Hid (Two w w5 (w.heap.size + 1) w.heap.size 2 [5, 6] false (w1.heap.size + 1) w1.heap.size 1 [] false) := Lib.hid ht; clear ht
  go_wp2_with fail
  refine (H5.out.send1 7 false rfl).mono ?_
  rintro e w6 ⟨rfl, ht⟩
  have H6 : Hid (Two w w6 (w.heap.size + 1) w.heap.size 2 [5, 6] false (w1.heap.size + 1) w1.heap.size 1 [] false) := Lib.hid ht; clear ht
  go_wp2_with fail
  refine (H6.out.take1).mono ?_
  rintro e w7 ⟨rfl, ht⟩
  have H7 : Hid (Two w w7 (w.heap.size + 1) w.heap.size 2 [6] false (w1.heap.size + 1) w1.heap.size 1 [] false) := Lib.hid ht; clear ht
  go_wp2_with fail
  refine (H7.out.send2 8 true rfl).mono ?_
  rintro e w8 ⟨rfl, ht⟩
  have H8 : Hid (Two w w8 (w.heap.size + 1) w.heap.size 2 [6] false (w1.heap.size + 1) w1.heap.size 1 [8] false) := Lib.hid ht; clear ht
  go_wp2_with fail
  refine (H8.out.either1).mono ?_
  rintro e w9 ⟨rfl, ht⟩
  have H9 : Hid (Two w w9 (w.heap.size + 1) w.heap.size 2 [] false (w1.heap.size + 1) w1.heap.size 1 [8] false) := Lib.hid ht; clear ht
  go_wp2_with fail
  refine (H9.out.either2).mono ?_
  rintro e w10 ⟨rfl, ht⟩
  have H10 : Hid (Two w w10 (w.heap.size + 1) w.heap.size 2 [] false (w1.heap.size + 1) w1.heap.size 1 [] false) := Lib.hid ht; clear ht
  go_wp2_with fail
  refine (H10.out.either2).mono ?_
  rintro e w11 ⟨rfl, ht⟩
  have H11 : Hid (Two w w11 (w.heap.size + 1) w.heap.size 2 [] false (w1.heap.size + 1) w1.heap.size 1 [] false) := Lib.hid ht; clear ht
  simp only [headOr, List.isEmpty_nil, if_true]
  go_wp2_with fail
  refine (H11.out.close1).mono ?_
  rintro e w12 ⟨rfl, ht⟩
  have H12 : Hid (Two w w12 (w.heap.size + 1) w.heap.size 2 [] true (w1.heap.size + 1) w1.heap.size 1 [] false) := Lib.hid ht; clear ht
  go_wp2_with fail
  refine (H12.out.close1).mono ?_
  rintro e w13 ⟨rfl, ht⟩
  have H13 : Hid (Two w w13 (w.heap.size + 1) w.heap.size 2 [] true (w1.heap.size + 1) w1.heap.size 1 [] false) := Lib.hid ht; clear ht
  go_wp2_with fail
  refine (H13.out.send1 1 false rfl).mono ?_
  rintro e w14 ⟨rfl, ht⟩
  have H14 : Hid (Two w w14 (w.heap.size + 1) w.heap.size 2 [] true (w1.heap.size + 1) w1.heap.size 1 [] false) := Lib.hid ht; clear ht
  go_wp2_with fail
  refine (H14.out.len1 0 rfl).mono ?_
  rintro e w15 ⟨rfl, ht⟩
  have H15 : Hid (Two w w15 (w.heap.size + 1) w.heap.size 2 [] true (w1.heap.size + 1) w1.heap.size 1 [] false) := Lib.hid ht; clear ht
  go_wp2_with fail
  go_ret
  exact ⟨rfl, H15.out.old⟩

end Go.Proofs.Ytknjniadphoflaa
