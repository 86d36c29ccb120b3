/-
  The document's link: Send, but of a message that is late.
-/
import Derived.Test.YteolokckflckaaaRef
namespace Go.Proofs.Yteolokckflckaaa
open Go.RowKit Go.Conc

theorem box_cells (w : World) (k n m : Int) : (w.alloc (.cells #[.int .i64 k, .int .i64 n, .int .u8 m] 30)).cell? ⟨w.heap.size, 0, none⟩ = some (.int .i64 k) ∧ (w.alloc (.cells #[.int .i64 k, .int .i64 n, .int .u8 m] 30)).cell? ⟨w.heap.size, 1, none⟩ = some (.int .i64 n) ∧ (w.alloc (.cells #[.int .i64 k, .int .i64 n, .int .u8 m] 30)).cell? ⟨w.heap.size, 2, none⟩ = some (.int .u8 m) := by
  have h := alloc_at w (.cells #[.int .i64 k, .int .i64 n, .int .u8 m] 30)
  exact ⟨by rw [cell_of h]; rfl, by rw [cell_of h]; rfl, by rw [cell_of h]; rfl⟩

section
variable (w : World) (b room : Nat) (own : List Nat) (C : List ByteArray) (T : List (ByteArray × Nat)) (s : ByteArray)

set_option maxHeartbeats 1000000 in
theorem refSend_none (k n m : Int) (h : RefIs w b room own C T) (h0 : (k == 0) = false) (h1 : (k == 1) = false) (h2 : (k == 2) = false) (h3 : (k == 3) = false) (h4 : (k == 4) = false) :
    Calls Try.prog 13 #[.pointer (some ⟨b, 0, none⟩), .string s, fate k n m] w fun e w' => e = .returned (.int .i64 180) ∧ RefTurn w w' b room own C T := by
  have H := Lib.hid (RefTurn.below h ((Below.refl _ w).alloc (Nat.le_refl _) (.cells #[.int .i64 k, .int .i64 n, .int .u8 m] 30)))
  clear h
  go_enter Try.func13, Try.ntmps13
  go_wp2
  go_ret
  exact ⟨rfl, H.out⟩

set_option maxHeartbeats 1000000 in
theorem refSend_drop (n m : Int) (h : RefIs w b room own C T) :
    Calls Try.prog 13 #[.pointer (some ⟨b, 0, none⟩), .string s, fate 1 n m] w fun e w' => e = .returned (.int .i64 0) ∧ RefTurn w w' b room own C T := by
  have H := Lib.hid (RefTurn.below h ((Below.refl _ w).alloc (Nat.le_refl _) (.cells #[.int .i64 1, .int .i64 n, .int .u8 m] 30)))
  clear h
  go_enter Try.func13, Try.ntmps13
  go_wp2
  go_ret
  exact ⟨rfl, H.out⟩

set_option maxHeartbeats 1000000 in
theorem refSend_go (n m : Int) (h : RefIs w b room own C T) :
    Calls Try.prog 13 #[.pointer (some ⟨b, 0, none⟩), .string s, fate 0 n m] w fun e w' => e = .returned (.int .i64 0) ∧ RefTurn w w' b room own (comesL room C s) T := by
  have hb := (Below.refl _ w).alloc (Nat.le_refl _) (.cells #[.int .i64 0, .int .i64 n, .int .u8 m] 30)
  have H := Lib.hid (And.intro (h.below hb) hb)
  clear h hb
  go_enter Try.func13, Try.ntmps13
  go_wp2_with fail
  refine (refComes _ b room own C T s H.out.1).mono ?_
  rintro e w2 ⟨rfl, ht⟩
  have HT := Lib.hid (RefTurn.after H.out.2 ht)
  clear ht
  go_wp2
  go_ret
  exact ⟨rfl, HT.out⟩

set_option maxHeartbeats 1000000 in
theorem refSend_twice (n m : Int) (h : RefIs w b room own C T) :
    Calls Try.prog 13 #[.pointer (some ⟨b, 0, none⟩), .string s, fate 2 n m] w fun e w' => e = .returned (.int .i64 0) ∧ RefTurn w w' b room own (comesL room (comesL room C s) s) T := by
  have hb := (Below.refl _ w).alloc (Nat.le_refl _) (.cells #[.int .i64 2, .int .i64 n, .int .u8 m] 30)
  have H := Lib.hid (And.intro (h.below hb) hb)
  clear h hb
  go_enter Try.func13, Try.ntmps13
  go_wp2_with fail
  refine (refComes _ b room own C T s H.out.1).mono ?_
  rintro e w2 ⟨rfl, ht⟩
  obtain ⟨own2, k1, k2, k3⟩ := ht
  have HT := Lib.hid (And.intro k1 (And.intro k2 k3))
  clear k1 k2 k3
  go_wp2_with fail
  refine (refComes w2 b room own2 (comesL room C s) T s HT.out.1).mono ?_
  rintro e w3 ⟨rfl, ht⟩
  have HT2 := Lib.hid (RefTurn.after H.out.2 (RefTurn.step HT.out.2.1 HT.out.2.2 ht))
  clear ht
  go_wp2
  go_ret
  exact ⟨rfl, HT2.out⟩

set_option maxHeartbeats 1000000 in
theorem refSend_turnNo (n m : Int) (h : RefIs w b room own C T) (hn : n < 0) :
    Calls Try.prog 13 #[.pointer (some ⟨b, 0, none⟩), .string s, fate 4 n m] w fun e w' => e = .returned (.int .i64 180) ∧ RefTurn w w' b room own C T := by
  have H := Lib.hid (RefTurn.below h ((Below.refl _ w).alloc (Nat.le_refl _) (.cells #[.int .i64 4, .int .i64 n, .int .u8 m] 30)))
  clear h
  go_enter Try.func13, Try.ntmps13
  go_wp2
  go_ret
  exact ⟨rfl, H.out⟩

set_option maxHeartbeats 1000000 in
theorem refSend_lateNo (n m : Int) (h : RefIs w b room own C T) (hn : ¬ (1 ≤ n ∧ n ≤ 8)) :
    Calls Try.prog 13 #[.pointer (some ⟨b, 0, none⟩), .string s, fate 3 n m] w fun e w' => e = .returned (.int .i64 180) ∧ RefTurn w w' b room own C T := by
  have H := Lib.hid (RefTurn.below h ((Below.refl _ w).alloc (Nat.le_refl _) (.cells #[.int .i64 3, .int .i64 n, .int .u8 m] 30)))
  clear h
  by_cases h1 : n < 1
  · have d1 : decide (n < 1) = true := by simpa using h1
    clear hn
    go_enter Try.func13, Try.ntmps13
    go_wp2
    go_ret
    exact ⟨rfl, H.out⟩
  · have h8 : 8 < n := by omega
    have d1 : decide (n < 1) = false := by simpa using h1
    have d8 : decide (8 < n) = true := by simpa using h8
    clear hn
    go_enter Try.func13, Try.ntmps13
    go_wp2
    go_ret
    exact ⟨rfl, H.out⟩

set_option maxHeartbeats 2000000 in
theorem refSend_turnEmpty (N : Nat) (m : Int) (h : RefIs w b room own C T) (hs : s.size = 0) :
    Calls Try.prog 13 #[.pointer (some ⟨b, 0, none⟩), .string s, fate 4 N m] w fun e w' => e = .returned (.int .i64 0) ∧ RefTurn w w' b room own (comesL room C (turnS s N m)) T := by
  rw [turnS_empty s N m hs]
  obtain rfl := toList_empty s hs
  obtain ⟨K, cp, fa, fz, hrun, _, _, _⟩ := bytes_run (w.alloc (.cells #[.int .i64 4, .int .i64 N, .int .u8 m] 30)) ⟨#[]⟩
  have hus : (w.alloc (.cells #[.int .i64 4, .int .i64 N, .int .u8 m] 30)).heap.size = w.heap.size + 1 := by simp
  rw [hus, show ByteArray.size ⟨#[]⟩ = 0 from rfl] at hrun
  have hb : Below w.heap.size w (((w.alloc (.cells #[.int .i64 4, .int .i64 N, .int .u8 m] 30)).alloc (.cells K 5 (fa, fz))).drew) := (((Below.refl _ _).alloc (Nat.le_refl _) _).alloc (by simp) _).drew
  have hst := run_str (((w.alloc (.cells #[.int .i64 4, .int .i64 N, .int .u8 m] 30)).alloc (.cells K 5 (fa, fz))).drew) (w.heap.size + 1) 0 cp [] rfl (fun j x hj => by cases hj)
  rw [show byteStr [] = ⟨#[]⟩ from rfl] at hst
  have hN : decide ((N : Int) < 0) = false := by simp
  have H := Lib.hid (And.intro (h.below hb) hb)
  clear h hb hus
  go_enter Try.func13, Try.ntmps13
  go_wp2_with fail
  refine (refComes _ b room own C T ⟨#[]⟩ H.out.1).mono ?_
  rintro e w2 ⟨rfl, ht⟩
  have HT := Lib.hid (RefTurn.after H.out.2 ht)
  clear ht
  go_wp2
  go_ret
  exact ⟨rfl, HT.out⟩

set_option maxHeartbeats 2000000 in
theorem refSend_turnSome (N : Nat) (m : Int) (h : RefIs w b room own C T) (hs : 0 < s.size) :
    Calls Try.prog 13 #[.pointer (some ⟨b, 0, none⟩), .string s, fate 4 N m] w fun e w' => e = .returned (.int .i64 0) ∧ RefTurn w w' b room own (comesL room C (turnS s N m)) T := by
  obtain ⟨K, cp, fa, fz, hrun, hC, hCs, hfa⟩ := bytes_run (w.alloc (.cells #[.int .i64 4, .int .i64 N, .int .u8 m] 30)) s
  have hus : (w.alloc (.cells #[.int .i64 4, .int .i64 N, .int .u8 m] 30)).heap.size = w.heap.size + 1 := by simp
  rw [hus] at hrun
  obtain ⟨z, hz⟩ : ∃ z, s.size = z := ⟨_, rfl⟩
  rw [hz] at hs hrun hC hCs
  have HW : Hid (∀ W, W = ((w.alloc (.cells #[.int .i64 4, .int .i64 N, .int .u8 m] 30)).alloc (.cells K 5 (fa, fz))).drew → Below w.heap.size w W ∧ W.heap[w.heap.size]? = some (.cells #[.int .i64 4, .int .i64 N, .int .u8 m] 30 (0, 0)) ∧ W.heap[w.heap.size + 1]? = some (.cells K 5 (fa, fz))) := by
    refine Lib.hid (fun W hW => ?_)
    subst hW
    refine ⟨(((Below.refl _ _).alloc (Nat.le_refl _) _).alloc (by simp) _).drew, ?_, ?_⟩
    · show ((w.alloc _).alloc _).heap[w.heap.size]? = _
      rw [alloc_old _ _ (by rw [hus]; omega)]
      exact alloc_at _ _
    · have := alloc_at (w.alloc (.cells #[.int .i64 4, .int .i64 N, .int .u8 m] 30)) (.cells K 5 (fa, fz))
      rw [hus] at this
      exact this
  have HC := Lib.hid (And.intro hC (And.intro hCs (And.intro hfa hz)))
  have hN : decide ((N : Int) < 0) = false := by simp
  have hz1 : (0 : Int) < (z : Int) := by omega
  have H := Lib.hid h
  clear hC hCs hfa hz hus h
  go_enter Try.func13, Try.ntmps13
  go_wp2
  obtain ⟨W, hW⟩ : ∃ W, W = ((w.alloc (.cells #[.int .i64 4, .int .i64 N, .int .u8 m] 30)).alloc (.cells K 5 (fa, fz))).drew := ⟨_, rfl⟩
  rw [← hW]
  have HB := Lib.hid (HW.out W hW)
  clear hW HW hrun
  obtain ⟨fb, hfb⟩ : ∃ fb, fb = w.heap.size := ⟨_, rfl⟩
  rw [← hfb] at HB ⊢
  have HF := Lib.hid hfb
  clear hfb
  obtain ⟨i, hi⟩ : ∃ i, N % z = i := ⟨_, rfl⟩
  have hiz : i < z := hi ▸ Nat.mod_lt _ hs
  have h1 : (N : Int).tmod (z : Int) = (i : Int) := by rw [Int.tmod_eq_emod_of_nonneg (by omega), ← hi]; rfl
  have h2 : (N : Int) % (z : Int) = (i : Int) := by rw [← hi]; rfl
  have hz0 : ¬ z = 0 := by omega
  have hi0 : (0 : Int) ≤ (i : Int) := by omega
  have hi1 : (i : Int) < (z : Int) := by omega
  obtain ⟨c, hc⟩ : ∃ c, (bytesOf s).getD i 0 = c := ⟨_, rfl⟩
  have y1 : W.cell? ⟨fb, 1, none⟩ = some (.int .i64 N) := by rw [cell_of HB.out.2.1]; rfl
  have y2 : W.cell? ⟨fb, 2, none⟩ = some (.int .u8 m) := by rw [cell_of HB.out.2.1]; rfl
  have x0 : W.cell? ⟨fb + 1, i, none⟩ = some (.int .u8 c) := by rw [cell_of HB.out.2.2, HC.out.1 i hiz, hc]
  have f0 : W.frozen? ⟨fb + 1, i, none⟩ = false := frozen_of HB.out.2.2 i (by have := HC.out.2; omega)
  have HI := Lib.hid (And.intro hi hc)
  clear hi hc
  go_still_tail 12, (by kernel_rfl)
  change wpList _ _ _ _ _ W.drew
  obtain ⟨x, hx⟩ : ∃ x, bits .xor .u8 c m = x := ⟨_, rfl⟩
  have hB2 : Below w.heap.size w (W.drew.setCell ⟨fb + 1, i, none⟩ (.int .u8 x)) := by
    have := HB.out.1.drew.setCell (p := ⟨fb + 1, i, none⟩) (Nat.le_succ _) (.int .u8 x)
    rw [← HF.out]; exact this
  have hr : (convert 28 9 (.slice (some ⟨fb + 1, 0, none⟩) z cp)).run Try.prog (W.drew.setCell ⟨fb + 1, i, none⟩ (.int .u8 x)) = .ok (.string (turnS s N m)) (W.drew.setCell ⟨fb + 1, i, none⟩ (.int .u8 x)) := by
    have hset := setCell_at (w := W.drew) (show W.drew.heap[fb + 1]? = _ from HB.out.2.2) i (.int .u8 x)
    have hzz : s.size = z := HC.out.2.2.2
    have hl : ((bytesOf s).set i x).length = z := by rw [List.length_set, bytesOf_length, hzz]
    have e : turnS s N m = byteStr ((bytesOf s).set i x) := by
      unfold turnS
      rw [Int.toNat_natCast, hzz, HI.out.1, HI.out.2, hx]
    rw [e]
    refine run_str _ _ _ _ _ hl.symm (fun j mm hj => ?_)
    rw [cell_of hset]
    have hjz : j < z := by rw [← hl]; exact (List.getElem?_eq_some_iff.1 hj).1
    by_cases hij : i = j
    · subst hij
      rw [List.getElem?_set_self (by rw [bytesOf_length]; omega)] at hj
      simp only [Option.some.injEq] at hj
      subst hj
      simp [Array.getElem?_setIfInBounds]
      have := HC.out.2.1
      omega
    · rw [List.getElem?_set_ne hij] at hj
      rw [Array.getElem?_setIfInBounds_ne hij, HC.out.1 j hjz, List.getD_eq_getElem?_getD, hj]
      rfl
  have HB2 := Lib.hid (And.intro (H.out.below hB2) hB2)
  have f2 : W.drew.frozen? ⟨fb + 1, i, none⟩ = false := f0
  have x2 : W.drew.cell? ⟨fb + 1, i, none⟩ = some (.int .u8 c) := x0
  rw [hx]
  clear hB2 hx y1 y2 x0 f0
  generalize W.drew = W2 at hr HB2 f2 x2 ⊢
  go_wp2_with fail
  refine (refComes _ b room own C T (turnS s N m) HB2.out.1).mono ?_
  rintro e w2 ⟨rfl, ht⟩
  have HT := Lib.hid (RefTurn.after HB2.out.2 ht)
  clear ht
  go_wp2
  go_ret
  exact ⟨rfl, HT.out⟩
end

end Go.Proofs.Yteolokckflckaaa
