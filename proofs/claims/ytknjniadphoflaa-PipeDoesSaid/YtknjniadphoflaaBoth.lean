/-
  What came in, told as plain lists; two pipes side by side, what each call on one of them does.
-/
import Derived.Test.YtknjniadphoflaaFixed
import Derived.Test.YtknjniadphoflaaLift
import Derived.Deep.Strs
namespace Go.Proofs.Ytknjniadphoflaa
open Go.ChangeShapes Go.WideShapes Go.Deep Go.RowKit Go.Conc

theorem below_drewN {B : Nat} {a w : World} (h : Below B a w) (n : Nat) : Below B a (w.drewN n) := ⟨h.os, h.tape, h.output, h.size, h.block⟩

/-- v is a slice that reads as xs. -/
def IntsIn (w : World) (v : Value) (xs : List Int) : Prop :=
  ∃ ao cap, v = .slice ao xs.length cap ∧ xs.length ≤ 9223372036854775807 ∧ (0 < xs.length → ∃ b off, ao = some ⟨b, off, none⟩ ∧ ∀ i, i < xs.length → w.cell? ⟨b, off + i, none⟩ = some (.int .i64 (xs.getD i 0)))
def StrsIn (w : World) (v : Value) (xs : List ByteArray) : Prop :=
  ∃ ao cap, v = .slice ao xs.length cap ∧ xs.length ≤ 9223372036854775807 ∧ (0 < xs.length → ∃ b off, ao = some ⟨b, off, none⟩ ∧ ∀ i, i < xs.length → w.cell? ⟨b, off + i, none⟩ = some (.string (xs.getD i ⟨#[]⟩)))

section
variable {H : Type} {enc : TypeId × Value → H} {w : World} {base : Nat} {spare : Nat → Bool} {held : Bool}

theorem open_keys {r : Reach} {b0 : Nat} {v : Value} {d : DataW H} {p : List MemPlace} (hv : Value.okWide Try.prog w r b0 29 v) (h : DataW.Trod enc Try.prog w base spare held 29 v d p) : ∃ xs, IntsIn w v xs := by
  obtain ⟨a, len, cap, rfl⟩ := okWide_slice Try.underlying29 hv
  obtain ⟨fuel, hf⟩ := h
  rcases open_ints Try.underlying29 Try.underlying3 (by kernel_rfl) hf with ⟨hcs, _⟩ | ⟨a', len', cap', zs, hcs, _, hl, hm, hz, _, hc, _⟩
  · simp only [Value.cells, List.cons.injEq, Value.slice.injEq, and_true] at hcs
    obtain ⟨rfl, rfl, rfl⟩ := hcs
    exact ⟨[], none, 0, rfl, by simp, fun h => by simp at h⟩
  · simp only [Value.cells, List.cons.injEq, Value.slice.injEq, and_true] at hcs
    obtain ⟨rfl, rfl, rfl⟩ := hcs
    have hlz : len ≤ zs.length := by rw [hz]; split <;> omega
    have hlen : (zs.take len).length = len := by rw [List.length_take]; omega
    unfold maxLen at hm
    refine ⟨zs.take len, _, cap, by rw [hlen], by omega, fun h0 => ?_⟩
    rw [hlen] at h0
    obtain ⟨b, off, spot⟩ := a'
    have hspot : spot = none := by
      have := hc 0 (by omega)
      simpa [Addr.add] using World.cell?_spot this
    subst hspot
    refine ⟨b, off, rfl, fun i hi => ?_⟩
    rw [hlen] at hi
    have := hc i (by omega)
    rw [Addr.add_lit] at this
    rw [show (zs.take len).getD i 0 = zs.getD i 0 by simp [List.getD_eq_getElem?_getD, hi]]
    exact this

theorem open_texts {r : Reach} {b0 : Nat} {v : Value} {d : DataW H} {p : List MemPlace} (hv : Value.okWide Try.prog w r b0 49 v) (h : DataW.Trod enc Try.prog w base spare held 49 v d p) : ∃ xs, StrsIn w v xs := by
  obtain ⟨a, len, cap, rfl⟩ := okWide_slice Try.underlying49 hv
  obtain ⟨fuel, hf⟩ := h
  rcases open_strs Try.underlying49 Try.underlying9 (by kernel_rfl) hf with ⟨hcs, _⟩ | ⟨a', len', cap', m, Sx, hcs, _, hl, hm, hmm, _, hc⟩
  · simp only [Value.cells, List.cons.injEq, Value.slice.injEq, and_true] at hcs
    obtain ⟨rfl, rfl, rfl⟩ := hcs
    exact ⟨[], none, 0, rfl, by simp, fun h => by simp at h⟩
  · simp only [Value.cells, List.cons.injEq, Value.slice.injEq, and_true] at hcs
    obtain ⟨rfl, rfl, rfl⟩ := hcs
    have hlm : len ≤ m := by split at hmm <;> omega
    unfold maxLen at hm
    refine ⟨(List.range len).map Sx, some a', cap, by simp, by simp; omega, fun h0 => ?_⟩
    rw [List.length_map, List.length_range] at h0
    obtain ⟨b, off, spot⟩ := a'
    have hspot : spot = none := by
      have := (hc 0 (by omega)).1
      simpa [Addr.add] using World.cell?_spot this
    subst hspot
    refine ⟨b, off, rfl, fun i hi => ?_⟩
    rw [List.length_map, List.length_range] at hi
    have := (hc i (by omega)).1
    rw [Addr.add_lit] at this
    rw [this]
    simp [List.getD_eq_getElem?_getD, hi]
end

section
variable {w0 w w' : World} {p c ra : Nat} {la : List Int} {cla : Bool} {q d rb : Nat} {lb : List Int} {clb : Bool}

theorem Two.swap (h : Two w0 w p c ra la cla q d rb lb clb) : Two w0 w q d rb lb clb p c ra la cla :=
  ⟨h.two, h.one, ⟨Ne.symm h.apart.1, Ne.symm h.apart.2⟩, h.old, h.above.2.2.1, h.above.2.2.2, h.above.1, h.above.2.1⟩
theorem Two.kept (h : Two w0 w p c ra la cla q d rb lb clb) (hb : Below w.heap.size w w') : Two w0 w' p c ra la cla q d rb lb clb :=
  ⟨h.one.kept (Kept.of_below hb (fun _ => False)) id id, h.two.kept (Kept.of_below hb (fun _ => False)) id id, h.apart, h.old.trans (hb.mono h.old.size), h.above⟩
theorem Two.take (h : Two w0 w p c ra la cla q d rb lb clb) : Calls Try.prog 14 #[.pointer (some ⟨p, 0, none⟩)] w fun e w' => e = .returned (.tuple #[headOr (Value.int .i64) (.int .i64 0) la, .bool (!la.isEmpty)]) ∧ Two w0 w' p c ra la.tail cla q d rb lb clb :=
  (takeInt w p c ra _ cla h.one).mono fun _ _ ⟨he, hp, hk, _⟩ => ⟨he, h.first hp (hk.mono fun _ _ e => .inl e)⟩
theorem Two.move (h : Two w0 w p c ra la cla q d rb lb clb) : Calls Try.prog 21 #[.pointer (some ⟨p, 0, none⟩), .pointer (some ⟨q, 0, none⟩)] w fun e w' => e = .returned (.int .i64 (moved la rb lb clb)) ∧
    Two w0 w' p c ra (la.drop (moved la rb lb clb)) cla q d rb (lb ++ la.take (moved la rb lb clb)) clb :=
  (moveInt w p c ra q d rb la lb cla clb h.one h.two h.apart.1 h.apart.2).mono fun _ _ ⟨he, hp, hq, hk, _⟩ => ⟨he, hp, hq, h.apart,
    hk.below h.old (by have := h.old.size; omega) (fun i hi => by rcases hi with rfl | rfl; exact h.above.2.1; exact h.above.2.2.2), h.above⟩
/-- Behind both News. -/
theorem Two.start {w1 w2 : World} (h1 : IntPipe w1 (w0.heap.size + 1) w0.heap.size ra la cla) (b1 : Below w0.heap.size w0 w1) (s1 : w1.heap.size = w0.heap.size + 2)
    (h2 : IntPipe w2 (w1.heap.size + 1) w1.heap.size rb lb clb) (b2 : Below w1.heap.size w1 w2) : Two w0 w2 (w0.heap.size + 1) w0.heap.size ra la cla (w1.heap.size + 1) w1.heap.size rb lb clb :=
  ⟨h1.kept (Kept.of_below b2 (fun _ => False)) id id, h2, by omega, b1.trans (b2.mono b1.size), by omega⟩
end

/-- Two pipes of texts, side by side. -/
structure Twain (w0 w : World) (p c ra : Nat) (la : List ByteArray) (cla : Bool) (q d rb : Nat) (lb : List ByteArray) (clb : Bool) : Prop where
  one : StrPipe w p c ra la cla
  two : StrPipe w q d rb lb clb
  apart : p ≠ q ∧ c ≠ d
  old : Below w0.heap.size w0 w
  above : w0.heap.size ≤ p ∧ w0.heap.size ≤ c ∧ w0.heap.size ≤ q ∧ w0.heap.size ≤ d

section
variable {w0 w w' : World} {p c ra : Nat} {la : List ByteArray} {cla : Bool} {q d rb : Nat} {lb : List ByteArray} {clb : Bool}

theorem Twain.first (h : Twain w0 w p c ra la cla q d rb lb clb) {la' : List ByteArray} {cla' : Bool} (h1 : StrPipe w' p c ra la' cla') (k : Kept (fun k => k = c ∨ k = p) w w') : Twain w0 w' p c ra la' cla' q d rb lb clb :=
  ⟨h1, h.two.kept k (fun e => by rcases e with e | e; exact PipeAt.ne2 h.one h.two e.symm; exact h.apart.1 e.symm) (fun e => by rcases e with e | e; exact h.apart.2 e.symm; exact PipeAt.ne2 h.two h.one e), h.apart,
    k.below h.old (by have := h.old.size; omega) (fun i hi => by rcases hi with rfl | rfl; exact h.above.2.1; exact h.above.1), h.above⟩
theorem Twain.swap (h : Twain w0 w p c ra la cla q d rb lb clb) : Twain w0 w q d rb lb clb p c ra la cla :=
  ⟨h.two, h.one, ⟨Ne.symm h.apart.1, Ne.symm h.apart.2⟩, h.old, h.above.2.2.1, h.above.2.2.2, h.above.1, h.above.2.1⟩
theorem Twain.kept (h : Twain w0 w p c ra la cla q d rb lb clb) (hb : Below w.heap.size w w') : Twain w0 w' p c ra la cla q d rb lb clb :=
  ⟨h.one.kept (Kept.of_below hb (fun _ => False)) id id, h.two.kept (Kept.of_below hb (fun _ => False)) id id, h.apart, h.old.trans (hb.mono h.old.size), h.above⟩
theorem Twain.send (h : Twain w0 w p c ra la cla q d rb lb clb) (x : ByteArray) : Calls Try.prog 23 #[.pointer (some ⟨p, 0, none⟩), .string x] w fun e w' => e = .returned (.bool (sends ra la cla)) ∧ Twain w0 w' p c ra (sent ra la cla x) cla q d rb lb clb :=
  (sendStr w p c ra la cla x h.one).mono fun _ _ ⟨he, hp, hk, _⟩ => ⟨he, h.first hp (hk.mono fun _ _ e => .inl e)⟩
theorem Twain.take (h : Twain w0 w p c ra la cla q d rb lb clb) : Calls Try.prog 25 #[.pointer (some ⟨p, 0, none⟩)] w fun e w' => e = .returned (.tuple #[headOr Value.string (.string ⟨#[]⟩) la, .bool (!la.isEmpty)]) ∧ Twain w0 w' p c ra la.tail cla q d rb lb clb :=
  (takeStr w p c ra _ cla h.one).mono fun _ _ ⟨he, hp, hk, _⟩ => ⟨he, h.first hp (hk.mono fun _ _ e => .inl e)⟩
theorem Twain.len (h : Twain w0 w p c ra la cla q d rb lb clb) : Calls Try.prog 10 #[.pointer (some ⟨p, 0, none⟩)] w fun e w' => e = .returned (.int .i64 la.length) ∧ w' = w :=
  lenStr w p c ra la cla h.one
theorem Twain.move (h : Twain w0 w p c ra la cla q d rb lb clb) : Calls Try.prog 24 #[.pointer (some ⟨p, 0, none⟩), .pointer (some ⟨q, 0, none⟩)] w fun e w' => e = .returned (.int .i64 (moved la rb lb clb)) ∧
    Twain w0 w' p c ra (la.drop (moved la rb lb clb)) cla q d rb (lb ++ la.take (moved la rb lb clb)) clb :=
  (moveStr w p c ra q d rb la lb cla clb h.one h.two h.apart.1 h.apart.2).mono fun _ _ ⟨he, hp, hq, hk, _⟩ => ⟨he, hp, hq, h.apart,
    hk.below h.old (by have := h.old.size; omega) (fun i hi => by rcases hi with rfl | rfl; exact h.above.2.1; exact h.above.2.2.2), h.above⟩
theorem Twain.start {w1 w2 : World} (h1 : StrPipe w1 (w0.heap.size + 1) w0.heap.size ra la cla) (b1 : Below w0.heap.size w0 w1) (s1 : w1.heap.size = w0.heap.size + 2)
    (h2 : StrPipe w2 (w1.heap.size + 1) w1.heap.size rb lb clb) (b2 : Below w1.heap.size w1 w2) : Twain w0 w2 (w0.heap.size + 1) w0.heap.size ra la cla (w1.heap.size + 1) w1.heap.size rb lb clb :=
  ⟨h1.kept (Kept.of_below b2 (fun _ => False)) id id, h2, by omega, b1.trans (b2.mono b1.size), by omega⟩
end

end Go.Proofs.Ytknjniadphoflaa
