/-
  Which fates may be; a message with a byte turned.
-/
import Derived.Test.YteolokckflckaaaLink2
import Derived.Laws.IdiomStrings
import Derived.Laws.BytesString
import Derived.StillTailTactics
import Derived.Deep.Cut
import Derived.Deep.RegionHeld3
namespace Go.Proofs.Yteolokckflckaaa
open Go.RowKit Go.Conc

/-- A fate. -/
abbrev fate (k n m : Int) : Value := .agg #[.int .i64 k, .int .i64 n, .int .u8 m]
/-- Which fates may be. -/
def mayB (k n : Int) : Bool := if k = 3 then decide (1 ≤ n) && decide (n ≤ 8) else if k = 4 then decide (0 ≤ n) else decide (0 ≤ k) && decide (k < 5)
theorem ret_bool {a b : Bool} (h : a = b) : Ending.returned (.bool a) = Ending.returned (.bool b) := by rw [h]

set_option maxHeartbeats 1000000 in
theorem may (k n m : Int) (w : World) : Calls Try.prog 18 #[fate k n m] w fun e w' => e = .returned (.bool (mayB k n)) ∧ Below w.heap.size w w' := by
  rcases (show k = 3 ∨ k = 4 ∨ ((k == 3) = false ∧ (k == 4) = false) by simp; omega) with rfl | rfl | ⟨h3, h4⟩
  · by_cases h1 : 1 ≤ n
    · by_cases h8 : n ≤ 8
      · have d1 : decide (1 ≤ n) = true := by simpa using h1
        have d8 : decide (n ≤ 8) = true := by simpa using h8
        go_enter Try.func18, Try.ntmps18
        go_wp2
        go_ret
        exact ⟨ret_bool (by unfold mayB; rw [if_pos rfl, d1, d8]; rfl), (Below.refl _ _).alloc (Nat.le_refl _) _⟩
      · have d1 : decide (1 ≤ n) = true := by simpa using h1
        have d8 : decide (n ≤ 8) = false := by simpa using h8
        go_enter Try.func18, Try.ntmps18
        go_wp2
        go_ret
        exact ⟨ret_bool (by unfold mayB; rw [if_pos rfl, d1, d8]; rfl), (Below.refl _ _).alloc (Nat.le_refl _) _⟩
    · have d1 : decide (1 ≤ n) = false := by simpa using h1
      go_enter Try.func18, Try.ntmps18
      go_wp2
      go_ret
      exact ⟨ret_bool (by unfold mayB; rw [if_pos rfl, d1]; rfl), (Below.refl _ _).alloc (Nat.le_refl _) _⟩
  · go_enter Try.func18, Try.ntmps18
    go_wp2
    go_ret
    exact ⟨ret_bool (by simp [mayB]), (Below.refl _ _).alloc (Nat.le_refl _) _⟩
  · have k3 : ¬ k = 3 := by simpa using h3
    have k4 : ¬ k = 4 := by simpa using h4
    by_cases h1 : 0 ≤ k
    · have d1 : decide (0 ≤ k) = true := by simpa using h1
      have HK := Lib.hid (And.intro k3 k4)
      clear k3 k4
      go_enter Try.func18, Try.ntmps18
      go_wp2
      go_ret
      exact ⟨ret_bool (by unfold mayB; rw [if_neg HK.out.1, if_neg HK.out.2, d1]; rfl), (Below.refl _ _).alloc (Nat.le_refl _) _⟩
    · have d1 : decide (0 ≤ k) = false := by simpa using h1
      have HK := Lib.hid (And.intro k3 k4)
      clear k3 k4
      go_enter Try.func18, Try.ntmps18
      go_wp2
      go_ret
      exact ⟨ret_bool (by unfold mayB; rw [if_neg HK.out.1, if_neg HK.out.2, d1]; rfl), (Below.refl _ _).alloc (Nat.le_refl _) _⟩

/-- The text of these bytes. -/
def byteStr (ms : List Int) : ByteArray := ms.foldl (fun r n => r.push (UInt8.ofNat n.toNat)) ByteArray.empty
/-- The bytes of a text. -/
def bytesOf (s : ByteArray) : List Int := s.data.toList.map fun b => (b.toNat : Int)
theorem byteStr_bytesOf (s : ByteArray) : byteStr (bytesOf s) = s := by
  unfold byteStr bytesOf
  rw [foldl_push_byteCells]
  have he0 : ByteArray.empty.data = #[] := rfl
  rw [he0]
  simp
theorem bytesOf_length (s : ByteArray) : (bytesOf s).length = s.size := by simp [bytesOf]
/-- A text with a byte turned. -/
def turnS (s : ByteArray) (n m : Int) : ByteArray :=
  byteStr ((bytesOf s).set (n.toNat % s.size) (bits .xor .u8 ((bytesOf s).getD (n.toNat % s.size) 0) m))
theorem turnS_empty (s : ByteArray) (n m : Int) (h : s.size = 0) : turnS s n m = s := by
  unfold turnS
  rw [List.set_eq_of_length_le (by rw [bytesOf_length, h]; omega), byteStr_bytesOf]

theorem run_str (u : World) (b n cap : Nat) (ms : List Int) (hn : n = ms.length) (h : ∀ j m, ms[j]? = some m → u.cell? ⟨b, j, none⟩ = some (.int .u8 m)) :
    (convert 28 9 (.slice (some ⟨b, 0, none⟩) n cap)).run Try.prog u = .ok (.string (byteStr ms)) u := by
  subst hn
  rw [run_convert_bytes_string u 28 9 5 _ _ _ Try.underlying28 Try.underlying5 Try.underlying9]
  refine run_bytesToString u _ _ _ ms ?_
  have := run_loadCells_list (P := Try.prog) (w := u) ⟨b, 0, none⟩ (ms.map (Value.int .u8)) (fun j v hj => by
    rw [List.getElem?_map] at hj
    cases hm : ms[j]? with
    | none => rw [hm] at hj; cases hj
    | some m =>
      rw [hm] at hj
      simp only [Option.map_some, Option.some.injEq] at hj
      subst hj
      have := h j m hm
      rw [Addr.add_lit]
      simpa using this)
  rw [List.length_map] at this
  exact this

theorem toList_empty (s : ByteArray) (h : s.size = 0) : s = ⟨#[]⟩ := by
  have h1 : (bytesOf s) = [] := List.eq_nil_of_length_eq_zero (by rw [bytesOf_length, h])
  rw [← byteStr_bytesOf s, h1]
  rfl

set_option maxHeartbeats 1000000 in
theorem turned_empty (s : ByteArray) (k n m : Int) (w : World) (h : s.size = 0) :
    Calls Try.prog 20 #[.string s, fate k n m] w fun e w' => e = .returned (.string (turnS s n m)) ∧ Below w.heap.size w w' := by
  rw [turnS_empty s n m h]
  obtain rfl := toList_empty s h
  go_enter Try.func20, Try.ntmps20
  go_wp2
  go_ret
  exact ⟨rfl, (Below.refl _ _).alloc (Nat.le_refl _) _⟩

theorem bytes_run (u : World) (s : ByteArray) : ∃ (C : Array Value) (cp a b : Nat), (convert 9 28 (.string s)).run Try.prog u = .ok (.slice (some ⟨u.heap.size, 0, none⟩) s.size cp) (u.drew.alloc (.cells C 5 (a, b))) ∧
    (∀ j, j < s.size → C[j]? = some (.int .u8 ((bytesOf s).getD j 0))) ∧ s.size ≤ C.size ∧ C.size ≤ a := by
  refine ⟨_, _, _, _, run_bytes_of_string (P := Try.prog) u 9 28 5 s Try.underlying9 Try.underlying28 Try.underlying5, fun j hj => ?_, ?_, Nat.le_refl _⟩
  · have hl : j < (s.data.map (fun b => Value.int .u8 b.toNat)).size := by simpa using hj
    unfold bytesRow
    rw [Array.getElem?_append_left hl]
    have hj' : j < s.data.size := hj
    rw [Array.getElem?_map, Array.getElem?_eq_getElem hj', Option.map_some]
    simp [bytesOf, List.getD_eq_getElem?_getD, Array.getElem?_eq_getElem hj']
  · unfold bytesRow
    rw [Array.size_append, Array.size_map]
    exact Nat.le_add_right _ _

theorem frozen_of {w : World} {b : Nat} {c : Array Value} {t : TypeId} {x y : Nat} (h : w.heap[b]? = some (.cells c t (x, y))) (i : Nat) (hi : i < x) : w.frozen? ⟨b, i, none⟩ = false := by
  simp only [World.frozen?, h]
  simp only [Bool.and_eq_false_iff, decide_eq_false_iff_not]
  omega

theorem nonempty_text (s : ByteArray) (h : 0 < s.size) : s.toList.isEmpty = false := by
  rw [← decide_eq_emptyBytes, decide_eq_false_iff_not]
  rintro rfl
  exact absurd h (by decide)

set_option maxHeartbeats 1000000 in
theorem turned_some (s : ByteArray) (k : Int) (N : Nat) (m : Int) (w : World) (h : 0 < s.size) :
    Calls Try.prog 20 #[.string s, fate k N m] w fun e w' => e = .returned (.string (turnS s N m)) ∧ Below w.heap.size w w' := by
  obtain ⟨C, cp, fa, fz, hrun, hC, hCs, hfa⟩ := bytes_run (w.alloc (.cells #[.int .i64 k, .int .i64 N, .int .u8 m] 30)) s
  have hus : (w.alloc (.cells #[.int .i64 k, .int .i64 N, .int .u8 m] 30)).heap.size = w.heap.size + 1 := by simp
  rw [hus] at hrun
  have he := nonempty_text s h
  obtain ⟨z, hz⟩ : ∃ z, s.size = z := ⟨_, rfl⟩
  rw [hz] at h hrun hC hCs
  have HW : Hid (∀ W, W = ((w.alloc (.cells #[.int .i64 k, .int .i64 N, .int .u8 m] 30)).alloc (.cells C 5 (fa, fz))).drew → Below w.heap.size w W ∧ W.heap[w.heap.size]? = some (.cells #[.int .i64 k, .int .i64 N, .int .u8 m] 30 (0, 0)) ∧ W.heap[w.heap.size + 1]? = some (.cells C 5 (fa, fz))) := by
    refine Lib.hid (fun W hW => ?_)
    subst hW
    refine ⟨(((Below.refl _ _).alloc (Nat.le_refl _) _).alloc (by simp) _).drew, ?_, ?_⟩
    · show ((w.alloc _).alloc _).heap[w.heap.size]? = _
      rw [alloc_old _ _ (by rw [hus]; omega)]
      exact alloc_at _ _
    · have := alloc_at (w.alloc (.cells #[.int .i64 k, .int .i64 N, .int .u8 m] 30)) (.cells C 5 (fa, fz))
      rw [hus] at this
      exact this
  have HC := Lib.hid (And.intro hC (And.intro hCs (And.intro hfa hz)))
  clear hC hCs hfa hz hus
  go_enter Try.func20, Try.ntmps20
  go_wp2
  obtain ⟨W, hW⟩ : ∃ W, W = ((w.alloc (.cells #[.int .i64 k, .int .i64 N, .int .u8 m] 30)).alloc (.cells C 5 (fa, fz))).drew := ⟨_, rfl⟩
  rw [← hW]
  have HB := Lib.hid (HW.out W hW)
  clear hW HW hrun
  obtain ⟨fb, hfb⟩ : ∃ fb, fb = w.heap.size := ⟨_, rfl⟩
  rw [← hfb] at HB ⊢
  have HF := Lib.hid hfb
  clear hfb
  obtain ⟨i, hi⟩ : ∃ i, N % z = i := ⟨_, rfl⟩
  have hiz : i < z := hi ▸ Nat.mod_lt _ h
  have h1 : (N : Int).tmod (z : Int) = (i : Int) := by rw [Int.tmod_eq_emod_of_nonneg (by omega), ← hi]; rfl
  have h2 : (N : Int) % (z : Int) = (i : Int) := by rw [← hi]; rfl
  have hz0 : ¬ z = 0 := by omega
  have hi0 : (0 : Int) ≤ (i : Int) := by omega
  have hi1 : (i : Int) < (z : Int) := by omega
  obtain ⟨c, hc⟩ : ∃ c, (bytesOf s).getD i 0 = c := ⟨_, rfl⟩
  have y1 : W.cell? ⟨fb, 1, none⟩ = some (.int .i64 N) := by rw [cell_of HB.out.2.1]; rfl
  have y2 : W.cell? ⟨fb, 2, none⟩ = some (.int .u8 m) := by rw [cell_of HB.out.2.1]; rfl
  have x0 : W.cell? ⟨fb + 1, i, none⟩ = some (.int .u8 c) := by rw [cell_of HB.out.2.2, HC.out.1 i hiz, hc]
  have f0 : W.frozen? ⟨fb + 1, i, none⟩ = false := frozen_of HB.out.2.2 i (by have := HC.out.2; omega)
  have HI := Lib.hid (And.intro hi hc)
  clear hi hc
  go_still_tail 12, (by kernel_rfl)
  change wpList _ _ _ _ _ W.drew
  obtain ⟨x, hx⟩ : ∃ x, bits .xor .u8 c m = x := ⟨_, rfl⟩
  have hB2 : Below fb w (W.drew.setCell ⟨fb + 1, i, none⟩ (.int .u8 x)) := HB.out.1.drew.setCell (p := ⟨fb + 1, i, none⟩) (Nat.le_succ _) _
  have hr : (convert 28 9 (.slice (some ⟨fb + 1, 0, none⟩) z cp)).run Try.prog (W.drew.setCell ⟨fb + 1, i, none⟩ (.int .u8 x)) = .ok (.string (turnS s N m)) (W.drew.setCell ⟨fb + 1, i, none⟩ (.int .u8 x)) := by
    have hset := setCell_at (w := W.drew) (show W.drew.heap[fb + 1]? = _ from HB.out.2.2) i (.int .u8 x)
    have hzz : s.size = z := HC.out.2.2.2
    have hl : ((bytesOf s).set i x).length = z := by rw [List.length_set, bytesOf_length, hzz]
    have e : turnS s N m = byteStr ((bytesOf s).set i x) := by
      unfold turnS
      rw [Int.toNat_natCast, hzz, HI.out.1, HI.out.2, hx]
    rw [e]
    refine run_str _ _ _ _ _ hl.symm (fun j mm hj => ?_)
    rw [cell_of hset]
    have hjz : j < z := by rw [← hl]; exact (List.getElem?_eq_some_iff.1 hj).1
    by_cases hij : i = j
    · subst hij
      rw [List.getElem?_set_self (by rw [bytesOf_length]; omega)] at hj
      simp only [Option.some.injEq] at hj
      subst hj
      simp [Array.getElem?_setIfInBounds]
      have := HC.out.2.1
      omega
    · rw [List.getElem?_set_ne hij] at hj
      rw [Array.getElem?_setIfInBounds_ne hij, HC.out.1 j hjz, List.getD_eq_getElem?_getD, hj]
      rfl
  have HB2 := Lib.hid hB2
  have f2 : W.drew.frozen? ⟨fb + 1, i, none⟩ = false := f0
  have x2 : W.drew.cell? ⟨fb + 1, i, none⟩ = some (.int .u8 c) := x0
  rw [hx]
  clear hB2 hx y1 y2 x0 f0
  generalize W.drew = W2 at hr HB2 f2 x2 ⊢
  go_wp2
  go_ret
  exact ⟨rfl, by rw [← HF.out]; exact HB2.out⟩

/-- A message with a byte turned. -/
theorem turned (s : ByteArray) (k n m : Int) (w : World) (hn : 0 ≤ n) :
    Calls Try.prog 20 #[.string s, fate k n m] w fun e w' => e = .returned (.string (turnS s n m)) ∧ Below w.heap.size w w' := by
  by_cases h : 0 < s.size
  · obtain ⟨N, rfl⟩ : ∃ N : Nat, n = N := ⟨n.toNat, by omega⟩
    exact turned_some s k N m w h
  · exact turned_empty s k n m w (by omega)

end Go.Proofs.Yteolokckflckaaa
