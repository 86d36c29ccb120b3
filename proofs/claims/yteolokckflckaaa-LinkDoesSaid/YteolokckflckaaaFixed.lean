/-
  The calls whose answers the document fixes (stillagelaw18.fixed): they answer true, and nothing that was there has turned. One link that the law made.
-/
import Derived.Test.YteolokckflckaaaStep
namespace Go.Proofs.Yteolokckflckaaa
open Go.RowKit Go.Conc

/-- All that is late is late by one to eight steps. -/
def Good (T : List (ByteArray × Nat)) : Prop := ∀ q ∈ T, 1 ≤ q.2 ∧ q.2 ≤ 8
theorem Good.send {T : List (ByteArray × Nat)} (h : Good T) (s : ByteArray) (k n : Int) (hm : mayB k n = true) : Good (sendT T s k n) := by
  unfold sendT
  split
  · rename_i h3
    subst h3
    have hb : 1 ≤ n ∧ n ≤ 8 := by simpa [mayB] using hm
    intro q hq
    rcases List.mem_append.1 hq with hq | hq
    · exact h q hq
    · rw [List.mem_singleton.1 hq]
      simp only
      omega
  · exact h
theorem Good.step {T : List (ByteArray × Nat)} (h : Good T) : Good (stepT T) := by
  intro q hq
  unfold stepT at hq
  obtain ⟨r, hr, rfl⟩ := List.mem_map.1 hq
  obtain ⟨hr1, hr2⟩ := List.mem_filter.1 hr
  have := h r hr1
  have : 1 < r.2 := by simpa using hr2
  simp only
  omega
theorem Good.nil : Good [] := fun _ h => by cases h

/-- One link that the call made, and nothing else has turned since w0. -/
def One (w0 w : World) (p room : Nat) (C : List ByteArray) (T : List (ByteArray × Nat)) : Prop :=
  ∃ own, LinkIs w p room own C T ∧ (∀ b ∈ own, w0.heap.size ≤ b) ∧ Below w0.heap.size w0 w ∧ Good T

theorem One.turn {w0 w w' : World} {p room : Nat} {own : List Nat} {C : List ByteArray} {T : List (ByteArray × Nat)} (h : Below w0.heap.size w0 w) (ho : ∀ b ∈ own, w0.heap.size ≤ b) (ht : LinkTurn w w' p room own C T) (hg : Good T) : One w0 w' p room C T := by
  obtain ⟨own', hc, hsub, hk⟩ := ht
  refine ⟨own', hc, fun b hb => ?_, hk.below h h.size (fun i hi => ho i hi), hg⟩
  rcases hsub b hb with hb | hb
  · exact ho b hb
  · have := h.size; omega

theorem One.new (n : Int) (h1 : 1 ≤ n) (h2 : n ≤ 4096) (w : World) :
    Calls Try.prog 7 #[.int .i64 n] w fun e w' => e = .returned (.tuple #[.pointer (some ⟨w.heap.size, 0, none⟩), .int .i64 0]) ∧ One w w' w.heap.size n.toNat [] [] :=
  (new_yes n h1 h2 w).mono fun _ _ ⟨he, hl, hb, _⟩ => ⟨he, _, hl, fun b hb => by rw [List.mem_singleton.1 hb]; exact Nat.le_refl _, hb, Good.nil⟩

section
variable {w0 w : World} {p room : Nat} {C : List ByteArray} {T : List (ByteArray × Nat)}
theorem One.send (h : One w0 w p room C T) (hT : T.length < 100000) (s : ByteArray) (k n m : Int) (hm : mayB k n = true) :
    Calls Try.prog 8 #[.pointer (some ⟨p, 0, none⟩), .string s, fate k n m] w fun e w' => e = .returned (.int .i64 0) ∧ One w0 w' p room (sendC room C s k n m) (sendT T s k n) := by
  obtain ⟨own, hc, ho, hb, hg⟩ := h
  refine (Yteolokckflckaaa.send w p room own C T s k n m hc hT).mono fun _ _ ⟨he, ht⟩ => ?_
  rw [hm] at he ht
  exact ⟨he, .turn hb ho ht (hg.send s k n hm)⟩
theorem One.sendNo (h : One w0 w p room C T) (s : ByteArray) (k n m : Int) (hm : mayB k n = false) :
    Calls Try.prog 8 #[.pointer (some ⟨p, 0, none⟩), .string s, fate k n m] w fun e w' => e = .returned (.int .i64 180) ∧ One w0 w' p room C T := by
  obtain ⟨own, hc, ho, hb, hg⟩ := h
  exact (send_no w p room own C T s k n m hc hm).mono fun _ _ ⟨he, ht⟩ => ⟨he, .turn hb ho ht hg⟩
theorem One.take (h : One w0 w p room C T) :
    Calls Try.prog 10 #[.pointer (some ⟨p, 0, none⟩)] w fun e w' => e = .returned (.tuple #[.string (headS C), .bool (!C.isEmpty)]) ∧ One w0 w' p room C.tail T := by
  obtain ⟨own, hc, ho, hb, hg⟩ := h
  exact (Yteolokckflckaaa.take w p room own C T hc).mono fun _ _ ⟨he, ht⟩ => ⟨he, .turn hb ho ht hg⟩
theorem One.step (h : One w0 w p room C T) :
    Calls Try.prog 9 #[.pointer (some ⟨p, 0, none⟩)] w fun e w' => e = .returned (.tuple #[]) ∧ One w0 w' p room (stepC room C T) (stepT T) := by
  obtain ⟨own, hc, ho, hb, hg⟩ := h
  exact (step_walk w p room own C T hc hg).mono fun _ _ ⟨he, ht⟩ => ⟨he, .turn hb ho ht hg.step⟩
theorem One.waits (h : One w0 w p room C T) :
    Calls Try.prog 11 #[.pointer (some ⟨p, 0, none⟩)] w fun e w' => e = .returned (.tuple #[.int .i64 C.length, .int .i64 T.length]) ∧ One w0 w' p room C T := by
  obtain ⟨own, hc, ho, hb, hg⟩ := h
  refine (Yteolokckflckaaa.waits w p room own C T hc).mono fun _ _ ⟨he, n, hw⟩ => ⟨he, ?_⟩
  subst hw
  exact .turn hb ho (.same hc n) hg
theorem One.cut (h : One w0 w p room C T) :
    Calls Try.prog 16 #[.pointer (some ⟨p, 0, none⟩)] w fun e w' => e = .returned (.tuple #[]) ∧ One w0 w' p room [] [] := by
  obtain ⟨own, hc, ho, hb, hg⟩ := h
  exact (Yteolokckflckaaa.cut w p room own C T hc).mono fun _ _ ⟨he, ht⟩ => ⟨he, .turn hb ho ht Good.nil⟩
theorem One.kept {w' : World} (h : One w0 w p room C T) (hb : Below w.heap.size w w') : One w0 w' p room C T := by
  obtain ⟨own, hc, ho, h0, hg⟩ := h
  exact ⟨own, hc.below hb, ho, h0.trans (hb.mono h0.size), hg⟩
theorem One.below (h : One w0 w p room C T) : Below w0.heap.size w0 w := by
  obtain ⟨_, _, _, h, _⟩ := h
  exact h
theorem One.good (h : One w0 w p room C T) : Good T := by
  obtain ⟨_, _, _, _, h⟩ := h
  exact h
theorem One.as {C' : List ByteArray} {T' : List (ByteArray × Nat)} (h : One w0 w p room C T) (hC : C = C') (hT : T = T') : One w0 w p room C' T' := by
  subst hC hT; exact h
end

set_option maxHeartbeats 2000000 in
set_option maxRecDepth 100000 in
theorem fixed_true (w : World) : Calls Try.prog 12 #[] w fun e w' => e = .returned (.bool true) ∧ Below w.heap.size w w' := by
  go_enter Try.func12, Try.ntmps12
  go_wp2_with fail
  refine (One.new 5 (by omega) (by omega) w).mono ?_
  rintro e w1 ⟨rfl, h⟩
  have H1 := Lib.hid h; clear h
  go_wp2_with fail
  refine (new_no 0 (by omega) w1).mono ?_
  rintro e w2 ⟨rfl, rfl⟩
  go_wp2_with fail
  refine (H1.out.send (by simp) ⟨#[97]⟩ 3 1 0 rfl).mono ?_
  rintro e w3 ⟨rfl, h⟩
  have H3 := Lib.hid (h.as (C' := []) (T' := [(⟨#[97]⟩, 1)]) rfl rfl); clear h
  go_wp2_with fail
  refine (H3.out.send (by simp) ⟨#[98]⟩ 0 0 0 rfl).mono ?_
  rintro e w4 ⟨rfl, h⟩
  have H4 := Lib.hid (h.as (C' := [⟨#[98]⟩]) (T' := [(⟨#[97]⟩, 1)]) rfl rfl); clear h
  go_wp2_with fail
  refine (H4.out.take).mono ?_
  rintro e w5 ⟨rfl, h⟩
  have H5 := Lib.hid (h.as (C' := []) (T' := [(⟨#[97]⟩, 1)]) rfl rfl); clear h
  simp only [headS, List.isEmpty_cons, Bool.not_false]
  go_wp2_with fail
  refine (H5.out.take).mono ?_
  rintro e w6 ⟨rfl, h⟩
  have H6 := Lib.hid (h.as (C' := []) (T' := [(⟨#[97]⟩, 1)]) rfl rfl); clear h
  simp only [headS, List.isEmpty_nil, Bool.not_true]
  go_wp2_with fail
  refine (H6.out.step).mono ?_
  rintro e w7 ⟨rfl, h⟩
  have H7 := Lib.hid (h.as (C' := [⟨#[97]⟩]) (T' := []) rfl rfl); clear h
  go_wp2_with fail
  refine (H7.out.take).mono ?_
  rintro e w8 ⟨rfl, h⟩
  have H8 := Lib.hid (h.as (C' := []) (T' := []) rfl rfl); clear h
  simp only [headS, List.isEmpty_cons, Bool.not_false]
  go_wp2_with fail
  refine (H8.out.send (by simp) ⟨#[97, 98]⟩ 4 3 1 rfl).mono ?_
  rintro e w9 ⟨rfl, h⟩
  have H9 := Lib.hid (h.as (C' := [⟨#[97, 99]⟩]) (T' := []) (by kernel_rfl) rfl); clear h
  go_wp2_with fail
  refine (H9.out.take).mono ?_
  rintro e w10 ⟨rfl, h⟩
  have H10 := Lib.hid (h.as (C' := []) (T' := []) rfl rfl); clear h
  simp only [headS, List.isEmpty_cons, Bool.not_false]
  go_wp2_with fail
  refine (H10.out.sendNo ⟨#[120]⟩ 5 0 0 rfl).mono ?_
  rintro e w11 ⟨rfl, h⟩
  have H11 := Lib.hid h; clear h
  go_wp2_with fail
  go_ret
  exact ⟨rfl, H11.out.below⟩

end Go.Proofs.Yteolokckflckaaa
