/-
  Texts that are one another but for one byte at most.
-/
import Derived.Test.YteolokckflckaaaOps
import Derived.Deep.QuietTactic
import Derived.BigQuiet
namespace Go.Proofs.Yteolokckflckaaa
open Go.RowKit Go.Conc

/-- How many of the first k bytes differ. -/
def diffs (a b : ByteArray) : Nat → Nat
  | 0 => 0
  | k + 1 => diffs a b k + if (bytesOf a).getD k 0 = (bytesOf b).getD k 0 then 0 else 1
theorem diffs_succ (a b : ByteArray) (k : Nat) : diffs a b (k + 1) = diffs a b k + if (bytesOf a).getD k 0 = (bytesOf b).getD k 0 then 0 else 1 := rfl
theorem diffs_le (a b : ByteArray) : ∀ k, diffs a b k ≤ k
  | 0 => Nat.le_refl _
  | k + 1 => by have := diffs_le a b k; rw [diffs_succ]; split <;> omega
def nearB (a b : ByteArray) : Bool := decide (a.size = b.size) && decide (diffs a b a.size ≤ 1)

theorem bytes_at (s : ByteArray) (k : Nat) (h : k < s.size) : (bytesOf s).getD k 0 = ((s[k]'h).toNat : Int) := by
  have h' : k < s.data.size := h
  simp [bytesOf, List.getD_eq_getElem?_getD, Array.getElem?_eq_getElem h']
  rfl

set_option maxHeartbeats 1000000 in
theorem near (a b : ByteArray) (w : World) (ha : a.size ≤ 9223372036854775807) :
    Calls Try.prog 17 #[.string a, .string b] w fun e w' => e = .returned (.bool (nearB a b)) ∧ Below w.heap.size w w' := by
  obtain ⟨na, hna⟩ : ∃ na, a.size = na := ⟨_, rfl⟩
  obtain ⟨nb, hnb⟩ : ∃ nb, b.size = nb := ⟨_, rfl⟩
  by_cases hab : na = nb
  · subst hab
    go_enter Try.func17, Try.ntmps17
    go_wp2
    go_loopw [5, 6] (fun sn si wr => ∃ k : Nat, k ≤ na ∧ si = .int .i64 k ∧ sn = .int .i64 (diffs a b k) ∧ Hid (Below w.heap.size w wr)) (fun _ si _ => na - (intOf si).toNat)
    case atStart => exact ⟨0, Nat.zero_le _, rfl, rfl, Lib.hid (Below.refl _ _)⟩
    case round =>
      obtain ⟨k, hk, rfl, rfl, HB⟩ := hrel
      obtain ⟨wk, rfl⟩ : ∃ wk, wk = wr := ⟨_, rfl⟩
      have hdl := diffs_le a b k
      by_cases hlt : k < na
      · have hk1 : (k : Int) < (na : Int) := by omega
        have hk0 : (0 : Int) ≤ (k : Int) := by omega
        have hka : k < a.size := by omega
        have hkb : k < b.size := by omega
        have HD : Hid (diffs a b (k + 1) = diffs a b k + if (a[k]'hka).toNat = (b[k]'hkb).toNat then 0 else 1) := Lib.hid (by
          rw [diffs_succ, bytes_at a k hka, bytes_at b k hkb]
          simp only [Int.natCast_inj])
        by_cases hd : (a[k]'hka).toNat = (b[k]'hkb).toNat
        · go_wp2_with fail
          go_quiet (fail)
          go_wp2
          go_roundw
          case rel => exact ⟨k + 1, by omega, by go_num, by rw [HD.out, if_pos hd, Nat.add_zero], Lib.hid (below_drewN HB.out _)⟩
          case measure => simp [intOf]; omega
        · have hne : (((a[k]'hka).toNat : Int) != ((b[k]'hkb).toNat : Int)) = true := by simp; omega
          go_wp2_with fail
          go_quiet (fail)
          go_wp2
          go_roundw
          case rel => exact ⟨k + 1, by omega, by go_num, by rw [HD.out, if_neg hd]; go_num, Lib.hid (below_drewN HB.out _)⟩
          case measure => simp [intOf]; omega
      · obtain rfl : k = na := by omega
        have HN : Hid (nearB a b = decide (diffs a b k ≤ 1)) := Lib.hid (by unfold nearB; rw [hna, hnb]; simp)
        go_wp2
        go_ret
        refine ⟨ret_bool ?_, HB.out⟩
        rw [HN.out]
        simp only [decide_eq_decide]
        omega
  · have HN : Hid (nearB a b = false) := Lib.hid (by unfold nearB; rw [hna, hnb, decide_eq_false hab]; rfl)
    have hd : ((na : Int) != (nb : Int)) = true := by simp; omega
    go_enter Try.func17, Try.ntmps17
    go_wp2
    go_ret
    exact ⟨ret_bool HN.out.symm, Below.refl _ _⟩

theorem diffs_self (a : ByteArray) : ∀ k, diffs a a k = 0
  | 0 => rfl
  | k + 1 => by rw [diffs_succ, diffs_self a k]; simp
theorem nearB_self (a : ByteArray) : nearB a a = true := by
  unfold nearB
  rw [diffs_self]
  simp

theorem foldl_push_size : ∀ (ms : List Int) (r : ByteArray), (ms.foldl (fun r n => r.push (UInt8.ofNat n.toNat)) r).size = r.size + ms.length
  | [], r => by simp
  | m :: ms, r => by
    simp only [List.foldl_cons]
    rw [foldl_push_size ms]
    simp only [ByteArray.size_push, List.length_cons]
    omega
theorem byteStr_size (ms : List Int) : (byteStr ms).size = ms.length := by
  unfold byteStr
  rw [foldl_push_size]
  simp
theorem foldl_push_data : ∀ (ms : List Int) (r : ByteArray), (ms.foldl (fun r n => r.push (UInt8.ofNat n.toNat)) r).data.toList = r.data.toList ++ ms.map (fun n => UInt8.ofNat n.toNat)
  | [], r => by simp
  | m :: ms, r => by
    simp only [List.foldl_cons]
    rw [foldl_push_data ms]
    simp [ByteArray.push]
theorem bytesOf_byteStr (ms : List Int) : bytesOf (byteStr ms) = ms.map (fun n => ((UInt8.ofNat n.toNat).toNat : Int)) := by
  unfold bytesOf byteStr
  rw [foldl_push_data]
  have he0 : ByteArray.empty.data = #[] := rfl
  rw [he0]
  simp

theorem turnS_size (s : ByteArray) (n m : Int) : (turnS s n m).size = s.size := by
  unfold turnS
  rw [byteStr_size, List.length_set, bytesOf_length]

/-- Where two texts agree but at one place, they are near. -/
theorem diffs_one (a b : ByteArray) (i : Nat) (h : ∀ j, j ≠ i → (bytesOf a).getD j 0 = (bytesOf b).getD j 0) : ∀ k, diffs a b k ≤ if i < k then 1 else 0
  | 0 => by simp [diffs]
  | k + 1 => by
    have ih := diffs_one a b i h k
    rw [diffs_succ]
    by_cases hk : k = i
    · subst hk
      rw [if_neg (by omega)] at ih
      rw [if_pos (show k < k + 1 by omega)]
      split <;> omega
    · rw [if_pos (h k hk)]
      by_cases hik : i < k
      · rw [if_pos hik] at ih
        rw [if_pos (by omega)]
        omega
      · rw [if_neg hik] at ih
        rw [if_neg (by omega)]
        omega
theorem nearB_turn (s : ByteArray) (n m : Int) : nearB (turnS s n m) s = true := by
  unfold nearB
  rw [turnS_size]
  have h := diffs_one (turnS s n m) s (n.toNat % s.size) (fun j hj => by
    unfold turnS
    rw [bytesOf_byteStr, List.getD_eq_getElem?_getD, List.getElem?_map, List.getElem?_set_ne (Ne.symm hj), List.getD_eq_getElem?_getD]
    unfold bytesOf
    rw [List.getElem?_map]
    cases s.data.toList[j]? with
    | none => rfl
    | some x =>
      have := x.toNat_lt
      simp
      omega) s.size
  have h1 : diffs (turnS s n m) s s.size ≤ 1 := by
    refine Nat.le_trans h ?_
    split <;> omega
  simp [h1]

end Go.Proofs.Yteolokckflckaaa
