/-
  The calls whose answers the document fixes (stillagelaw04.fixed): they answer true, and nothing that was there has turned.
-/
import Derived.Test.YtggpmnhbplmagaaLaw
namespace Go.Proofs.Ytggpmnhbplmagaa
open Go.RowKit Go.Conc

theorem shape_of {w : World} {base e size n : Nat} {v : Value} {xs : List Value} (h : w.ownsRow base e size v n xs) : ∃ ao cap, v = .slice ao n cap := by
  rcases h.2 with ⟨rfl, rfl⟩ | ⟨g, cap, cur, rfl, _⟩
  · exact ⟨_, _, rfl⟩
  · exact ⟨_, _, rfl⟩

/-- One cache of texts by numbers that the call made, and nothing else has turned since w0. -/
def One (w0 w : World) (c room : Nat) (L : List (Int × ByteArray)) : Prop :=
  ∃ own, ISIs w c room own L ∧ (∀ b ∈ own, w0.heap.size ≤ b) ∧ Below w0.heap.size w0 w

theorem One.turn {w0 w w' : World} {c room : Nat} {own : List Nat} {L : List (Int × ByteArray)} (h : Below w0.heap.size w0 w) (ho : ∀ b ∈ own, w0.heap.size ≤ b) (ht : ISTurn w w' c room own L) : One w0 w' c room L := by
  obtain ⟨own', hc, hsub, hk⟩ := ht
  refine ⟨own', hc, fun b hb => ?_, hk.below h h.size (fun i hi => ho i hi)⟩
  rcases hsub b hb with hb | hb
  · exact ho b hb
  · have := h.size; omega

theorem One.new (n : Int) (h1 : 1 ≤ n) (h2 : n ≤ 65536) (w : World) :
    Calls Try.prog 9 #[.int .i64 n] w fun e w' => e = .returned (.tuple #[.pointer (some ⟨w.heap.size + 2, 0, none⟩), .int .i64 0]) ∧ One w w' (w.heap.size + 2) n.toNat [] :=
  (lawNewIS n h1 h2 w).mono fun _ _ ⟨he, ⟨own, hc, ho⟩, hb, _⟩ => ⟨he, own, hc, ho, hb⟩

section
variable {w0 w : World} {c room : Nat} {L : List (Int × ByteArray)}
theorem One.put (h : One w0 w c room L) (k : Int) (v : ByteArray) (g : Option Int) (L' : List (Int × ByteArray)) (hg : goes room k L = g) (hL : putIn room k v L = L') :
    Calls Try.prog 14 #[.pointer (some ⟨c, 0, none⟩), .int .i64 k, .string v] w fun e w' => e = .returned (.tuple #[orZero (Value.int .i64) (.int .i64 0) g, .bool g.isSome]) ∧ One w0 w' c room L' := by
  obtain ⟨own, hc, ho, hb⟩ := h
  subst hg hL
  exact (lawPutIS w c room own L k v hc).mono fun _ _ ⟨he, ht⟩ => ⟨he, .turn hb ho ht⟩
theorem One.get (h : One w0 w c room L) (k : Int) (g : Option ByteArray) (L' : List (Int × ByteArray)) (hg : look k L = g) (hL : used k L = L') :
    Calls Try.prog 12 #[.pointer (some ⟨c, 0, none⟩), .int .i64 k] w fun e w' => e = .returned (.tuple #[orZero Value.string (.string ⟨#[]⟩) g, .bool g.isSome]) ∧ One w0 w' c room L' := by
  obtain ⟨own, hc, ho, hb⟩ := h
  subst hg hL
  exact (lawGetIS w c room own L k hc).mono fun _ _ ⟨he, ht⟩ => ⟨he, .turn hb ho ht⟩
theorem One.drop (h : One w0 w c room L) (k : Int) (g : Bool) (L' : List (Int × ByteArray)) (hg : (look k L).isSome = g) (hL : without k L = L') :
    Calls Try.prog 16 #[.pointer (some ⟨c, 0, none⟩), .int .i64 k] w fun e w' => e = .returned (.bool g) ∧ One w0 w' c room L' := by
  obtain ⟨own, hc, ho, hb⟩ := h
  subst hg hL
  exact (lawDropIS w c room own L k hc).mono fun _ _ ⟨he, ht⟩ => ⟨he, .turn hb ho ht⟩
theorem One.kept {w' : World} (h : One w0 w c room L) (hb : Below w.heap.size w w') : One w0 w' c room L := by
  obtain ⟨own, hc, ho, h0⟩ := h
  exact ⟨own, hc.kept (Kept.of_below hb (fun _ => False)) (fun _ _ h => h), ho, h0.trans (hb.mono h0.size)⟩
theorem One.keys (h : One w0 w c room L) : Calls Try.prog 11 #[.pointer (some ⟨c, 0, none⟩)] w fun e w' => ∃ v, e = .returned v ∧ w'.ownsRow w.heap.size 3 1 v L.length ((L.map (·.1)).map (Value.int .i64)) ∧ One w0 w' c room L := by
  have h' := h
  obtain ⟨own, hc, ho, hb⟩ := h
  refine (lawKeysIS w c room own L hc).mono fun _ _ ⟨v, he, hown, hbb⟩ => ⟨v, he, ?_, h'.kept hbb⟩
  rw [List.map_map]; exact hown
end

theorem below_drewN {B : Nat} {a w : World} (h : Below B a w) (n : Nat) : Below B a (w.drewN n) := ⟨h.os, h.tape, h.output, h.size, h.block⟩

theorem ints_two (w : World) : IntsIn (w.alloc (.cells #[.int .i64 3, .int .i64 1] 3)) (.slice (some ⟨w.heap.size, 0, none⟩) 2 2) [3, 1] := by
  refine ⟨_, 2, rfl, by simp, fun _ => ⟨_, 0, rfl, fun i hi => ?_⟩⟩
  match i, hi with
  | 0, _ => simp
  | 1, _ => simp

set_option maxHeartbeats 2000000 in
set_option maxRecDepth 100000 in
theorem fixed_true (w : World) : Calls Try.prog 10 #[] w fun e w' => e = .returned (.bool true) ∧ Below w.heap.size w w' := by
  go_enter Try.func10, Try.ntmps10
  go_wp2_with fail
  refine (One.new 2 (by omega) (by omega) w).mono ?_
  rintro e w1 ⟨rfl, h⟩
  have H1 := Lib.hid h; clear h
  go_wp2_with fail
  refine (newSI_no 0 (by omega) w1).mono ?_
  rintro e w2 ⟨rfl, rfl⟩
  go_wp2_with fail
  refine (H1.out.put 1 ⟨#[97]⟩ none [(1, ⟨#[97]⟩)] rfl rfl).mono ?_
  rintro e w3 ⟨rfl, h⟩
  have H3 := Lib.hid h; clear h
  go_wp2_with fail
  refine (H3.out.put 2 ⟨#[98]⟩ none [(2, ⟨#[98]⟩), (1, ⟨#[97]⟩)] rfl rfl).mono ?_
  rintro e w4 ⟨rfl, h⟩
  have H4 := Lib.hid h; clear h
  go_wp2_with fail
  refine (H4.out.get 1 (some ⟨#[97]⟩) [(1, ⟨#[97]⟩), (2, ⟨#[98]⟩)] rfl rfl).mono ?_
  rintro e w5 ⟨rfl, h⟩
  have H5 := Lib.hid h; clear h
  go_wp2_with fail
  refine (H5.out.put 3 ⟨#[99]⟩ (some 2) [(3, ⟨#[99]⟩), (1, ⟨#[97]⟩)] rfl rfl).mono ?_
  rintro e w6 ⟨rfl, h⟩
  have H6 := Lib.hid h; clear h
  go_wp2_with fail
  refine (H6.out.get 2 none [(3, ⟨#[99]⟩), (1, ⟨#[97]⟩)] rfl rfl).mono ?_
  rintro e w7 ⟨rfl, h⟩
  have H7 := Lib.hid h; clear h
  simp only [orZero, Option.isSome]
  go_wp2_with fail
  refine (H7.out.keys).mono ?_
  rintro e w8 ⟨v, rfl, hown, h⟩
  have hi : IntsIn w8 v [3, 1] := IntsIn.of_owns rfl hown
  have hi' : IntsIn (w8.alloc (.cells #[.int .i64 3, .int .i64 1] 3)) v [3, 1] := hi.kept (fun b off hv h0 i => by
    obtain ⟨ao, cap, hv', _, hx⟩ := hi
    rw [hv] at hv'
    simp only [Value.slice.injEq] at hv'
    obtain ⟨b', off', e, hc⟩ := hx (by simp)
    rw [← hv'.1] at e
    simp only [Option.some.injEq, Addr.mk.injEq, and_true] at e
    have := World.block_lt_of_cell? _ _ (hc 0 (by simp))
    exact World.cell?_alloc_lt _ _ _ (by rw [e.1]; exact this))
  have hs := same _ _ _ _ _ hi' (ints_two w8)
  rw [decide_eq_true rfl] at hs
  have HS := Lib.hid hs
  have H8 := Lib.hid h; clear h hown hi hi' hs
  go_wp2_with fail
  refine HS.out.mono ?_
  rintro e w9 ⟨rfl, n, rfl⟩
  have h9 : One w ((w8.alloc (.cells #[.int .i64 3, .int .i64 1] 3)).drewN n) (w.heap.size + 2) (Int.toNat 2) [(3, ⟨#[99]⟩), (1, ⟨#[97]⟩)] := H8.out.kept (below_drewN ((Below.refl _ _).alloc (Nat.le_refl _) _) n)
  have H9 := Lib.hid h9; clear h9
  go_wp2_with fail
  refine (H9.out.drop 3 true [(1, ⟨#[97]⟩)] rfl rfl).mono ?_
  rintro e w10 ⟨rfl, h⟩
  have H10 := Lib.hid h; clear h
  go_wp2_with fail
  refine (H10.out.drop 3 false [(1, ⟨#[97]⟩)] rfl rfl).mono ?_
  rintro e w11 ⟨rfl, h⟩
  have H11 := Lib.hid h; clear h
  go_wp2_with fail
  go_ret
  obtain ⟨_, _, _, hb⟩ := H11.out
  exact ⟨rfl, hb⟩

end Go.Proofs.Ytggpmnhbplmagaa
