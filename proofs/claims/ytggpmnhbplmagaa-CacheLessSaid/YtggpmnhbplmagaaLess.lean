/-
  CacheLess (stillagelaw04): the walk.
-/
import Derived.Test.YtggpmnhbplmagaaTwi
import Derived.Test.YtggpmnhbplmagaaSole
namespace Go.Proofs.Ytggpmnhbplmagaa
open Go.RowKit Go.Conc

section
variable {K V : Type} [DecidableEq K]
theorem less_put {room : Nat} (h1 : 1 ≤ room) (k : K) (v : V) {M : List (K × V)} (hn : (M.map (·.1)).Nodup) (hl : M.length ≤ room + 1) : putIn room k v (M.take room) = (putIn (room + 1) k v M).take room := by
  have e := putIn_take (room := room + 1) (by omega) k v M hn
  rw [List.take_of_length_le hl] at e
  rw [putIn_take h1 k v M hn, e, List.take_take, Nat.min_eq_left (by omega)]
theorem less_look {room : Nat} {k : K} {v : V} {M : List (K × V)} (h : look k (M.take room) = some v) : look k M = some v := by
  obtain ⟨L1, L2, hL, hno⟩ := look_some h
  rw [← List.take_append_drop room M, hL, List.append_assoc, List.cons_append]
  exact look_append hno
theorem less_get {room : Nat} (h1 : 1 ≤ room) {k : K} {v : V} {M : List (K × V)} (hn : (M.map (·.1)).Nodup) (hl : M.length ≤ room + 1) (h : look k (M.take room) = some v) : used k (M.take room) = (used k M).take room := by
  have e := less_put h1 k v hn hl
  have e1 : used k (M.take room) = putIn room k v (M.take room) := by simp only [used, putIn, h]
  have e2 : used k M = putIn (room + 1) k v M := by simp only [used, putIn, less_look h]
  rw [e1, e2, e]
end

set_option maxRecDepth 4000 in
set_option maxHeartbeats 400000 in
theorem less_no (n : Int) (v : Value) (w : World) (h' : n < 1 ∨ 65536 < n) : Calls Try.prog 7 #[.int .i64 n, v] w fun e w' => e = .returned (.bool true) ∧ Below w.heap.size w w' := by
  have HN := Lib.hid (newIS_no n h' w)
  clear h'
  go_enter Try.func7, Try.ntmps7
  go_wp2_with fail
  refine HN.out.mono ?_
  rintro e w1 ⟨rfl, rfl⟩
  go_wp2_with fail
  refine (fixed_true w1).mono ?_
  rintro e w2 ⟨rfl, ho⟩
  have H2 := Lib.hid ho
  clear ho
  go_wp2_with fail
  go_ret
  exact ⟨rfl, H2.out⟩

set_option maxRecDepth 4000 in
set_option maxHeartbeats 400000 in
theorem less_top (v : Value) (w : World) : Calls Try.prog 7 #[.int .i64 65536, v] w fun e w' => e = .returned (.bool true) ∧ Below w.heap.size w w' := by
  have HN := Lib.hid (One.new 65536 (by omega) (by omega) w)
  go_enter Try.func7, Try.ntmps7
  go_wp2_with fail
  refine HN.out.mono ?_
  rintro e w1 ⟨rfl, h⟩
  have H0 := Lib.hid h.sole.below
  clear h HN
  go_wp2_with fail
  refine (fixed_true w1).mono ?_
  rintro e w2 ⟨rfl, ho⟩
  have H2 := Lib.hid (H0.out.trans (ho.mono H0.out.size))
  clear ho
  go_wp2_with fail
  go_ret
  exact ⟨rfl, H2.out⟩

set_option maxRecDepth 20000 in
set_option maxHeartbeats 4000000 in
theorem less_yes (room : Nat) (v : Value) (ops : List (Int × Int × ByteArray)) (w : World) (h1 : 1 ≤ room) (h2 : room < 65536) (hops : OpsIn w v ops) :
    Calls Try.prog 7 #[.int .i64 room, v] w fun e w' => e = .returned (.bool true) ∧ Below w.heap.size w w' := by
  obtain ⟨ao, cap, rfl, hm, hx⟩ := hops
  obtain ⟨len, hlen⟩ : ∃ len, ops.length = len := ⟨_, rfl⟩
  rw [hlen] at hm hx ⊢
  have HX := Lib.hid hx
  have HL := Lib.hid hlen
  clear hx hlen
  have HN := Lib.hid (lawNewIS room (by omega) (by omega) w)
  have HM0 := Lib.hid (lawNewIS ((room : Int) + 1) (by omega) (by omega))
  have hroom : decide ((65536 : Int) ≤ (room : Int)) = false := by rw [decide_eq_false_iff_not]; omega
  have hrb : (room : Int) + 1 ≤ 9223372036854775807 := by omega
  have H2 := Lib.hid h2
  clear h2
  go_enter Try.func7, Try.ntmps7
  go_wp2_with fail
  refine HN.out.mono ?_
  rintro e w1 ⟨rfl, ⟨ow, ha, hoa⟩, hb1, _⟩
  obtain ⟨a, hca⟩ : ∃ a, a = w.heap.size + 2 := ⟨_, rfl⟩
  rw [← hca] at ha ⊢
  rw [Int.toNat_natCast] at ha
  have H1 := Lib.hid (And.intro ha (And.intro hoa hb1))
  have HM := Lib.hid (HM0.out w1)
  clear ha hoa hb1 hca HN
  go_wp2_with fail
  refine HM.out.mono ?_
  rintro e w2 ⟨rfl, ⟨ox, hb, hob⟩, hb2, _⟩
  obtain ⟨cb, hcb⟩ : ∃ cb, cb = w1.heap.size + 2 := ⟨_, rfl⟩
  rw [← hcb] at hb ⊢
  rw [show ((room : Int) + 1).toNat = room + 1 by omega] at hb
  have H0 : Hid (Twi w w2 [] a room cb (room + 1) (([] : List (Int × ByteArray)).take room) []) := Lib.hid (by rw [List.take_nil]; exact Twi.start H1.out.1 H1.out.2.1 H1.out.2.2 hb hob hb2)
  clear hb hob hb2 hcb HM H1
  go_wp2_with fail
  go_loopw [9] (fun i wr => ∃ (k : Nat) (M : List (Int × ByteArray)), k ≤ len ∧ k ≤ 300 ∧ i = .int .i64 k ∧ Hid (Twi w wr [] a room cb (room + 1) (M.take room) M)) (fun i _ => 300 - (intOf i).toNat)
  case atStart => exact ⟨0, [], Nat.zero_le _, by omega, rfl, H0⟩
  case round =>
    obtain ⟨k, M, hk, hk3, rfl, HD⟩ := hrel
    obtain ⟨wk, rfl⟩ : ∃ wk, wk = wr := ⟨_, rfl⟩
    by_cases hlt : k < len ∧ k < 300
    · obtain ⟨ht, hf⟩ := hlt
      obtain ⟨b, off, hao, hcell⟩ := HX.out (by omega)
      obtain ⟨kd, n, s, hop, x0, x1, x2⟩ := hcell k ht
      clear hcell hop
      subst hao
      have hbl := World.block_lt_of_cell? _ _ x0
      have hdb := HD.out.below
      have x0 : wk.cell? ⟨b, off + k * 3, none⟩ = some (.int .i64 kd) := (hdb.cell (p := ⟨b, off + k * 3, none⟩) hbl).trans x0
      have x1 : wk.cell? ⟨b, off + k * 3 + 1, none⟩ = some (.int .i64 n) := (hdb.cell (p := ⟨b, off + k * 3 + 1, none⟩) hbl).trans x1
      have x2 : wk.cell? ⟨b, off + k * 3 + 2, none⟩ = some (.string s) := (hdb.cell (p := ⟨b, off + k * 3 + 2, none⟩) hbl).trans x2
      clear hdb
      have hkl : (k : Int) < (len : Int) := by omega
      have hk300 : (k : Int) < 300 := by omega
      have HG0 := Lib.hid (And.intro HD.out.goodB.1 HD.out.goodB.2.1)
      have HDa := Lib.hid (HD.out.alloc (.cells #[.int .i64 kd, .int .i64 n, .string s] 36))
      by_cases hkd : kd = 1
      focus
        subst hkd
        go_wp2_with fail
        refine (HDa.out.putA n s).mono ?_
        rintro e w3 ⟨rfl, h⟩
        have hb := h.held (List.mem_singleton_self _)
        have y1 : w3.cell? ⟨wk.heap.size, 1, none⟩ = some (.int .i64 n) := by rw [cell_of hb]; rfl
        have y2 : w3.cell? ⟨wk.heap.size, 2, none⟩ = some (.string s) := by rw [cell_of hb]; rfl
        have HG := Lib.hid h
        clear h hb
        go_wp2_with fail
        refine (HG.out.putB n s).mono ?_
        rintro e w4 ⟨rfl, h⟩
        rw [less_put h1 n s HG0.out.1 HG0.out.2] at h
        have HE := Lib.hid h.forget
        clear h HG y1 y2
        generalize putIn (room + 1) n s M = N at HE
        go_wp2_with fail
      rotate_left
      focus
        have hkd' : (kd == 1) = false := by simp [hkd]
        go_wp2_with fail
        refine (HDa.out.getA n).mono ?_
        rintro e w3 ⟨rfl, h⟩
        have hb := h.held (List.mem_singleton_self _)
        have y1 : w3.cell? ⟨wk.heap.size, 1, none⟩ = some (.int .i64 n) := by rw [cell_of hb]; rfl
        have HG := Lib.hid h
        clear h hb
        obtain hlk | ⟨t, hlk⟩ : look n (M.take room) = none ∨ ∃ t, look n (M.take room) = some t := by cases look n (M.take room) <;> simp
        · have HU : Hid (Twi w w3 [] a room cb (room + 1) (M.take room) M) := Lib.hid (by have := HG.out.forget; rw [show used n (M.take room) = M.take room by simp [used, hlk]] at this; exact this)
          rw [hlk]
          simp only [orZero, Option.isSome_none]
          clear hlk HG
          go_wp2_with fail
          go_roundw
          case rel => exact ⟨k + 1, M, by omega, by omega, by go_num, HU⟩
          case measure => simp [intOf]; omega
        have HU := Lib.hid (less_look hlk)
        have HV := Lib.hid (less_get h1 HG0.out.1 HG0.out.2 hlk)
        rw [hlk]
        simp only [orZero, Option.isSome_some]
        clear hlk
        go_wp2_with fail
        refine (HG.out.getB n).mono ?_
        rintro e w4 ⟨rfl, h⟩
        rw [HV.out] at h
        rw [HU.out]
        simp only [orZero, Option.isSome_some]
        have HE := Lib.hid h.forget
        clear h HG y1 HU HV
        generalize used n M = N at HE
        go_wp2_with fail
      all_goals
        obtain ⟨m, hml⟩ : ∃ m, (N.take room).length = m := ⟨_, rfl⟩
        obtain ⟨m', hml'⟩ : ∃ m', N.length = m' := ⟨_, rfl⟩
        have hmm : m ≤ m' ∧ m ≤ room ∧ m' ≤ room + 1 := by
          have := HE.out.goodB.2.1
          rw [List.length_take] at hml
          omega
        obtain ⟨hm1, hm2, hm3⟩ := hmm
        have HM := Lib.hid (And.intro hml hml')
        clear hml hml'
        refine HE.out.keysA.mono ?_
        rintro e w5 ⟨v1, rfl, hown1, hb1⟩
        rw [HM.out.1] at hown1
        obtain ⟨ao1, cap1, rfl⟩ := shape_of hown1
        have HF := Lib.hid (HE.out.kept hb1)
        have HO1 := Lib.hid hown1
        clear hown1 hb1
        go_wp2_with fail
        refine HF.out.keysB.mono ?_
        rintro e w6 ⟨v2, rfl, hown2, hb2⟩
        rw [HM.out.2] at hown2
        obtain ⟨ao2, cap2, rfl⟩ := shape_of hown2
        have HJ := Lib.hid (HF.out.kept hb2)
        have HO := Lib.hid (And.intro (owns_kept HO1.out (Kept.of_below hb2 (fun _ => False)) (fun _ _ h => h)) hown2)
        clear hown2 hb2 HO1
        obtain ⟨R, hR⟩ : ∃ R, (room : Int) + 1 = R := ⟨_, rfl⟩
        have g3 : decide (R < (m' : Int)) = false := by rw [decide_eq_false_iff_not]; omega
        have hw1 : wrap64 ((room : Int) + 1) = R := by rw [← hR]; unfold wrap64; omega
        clear hR hrb hroom
        have HMM := Lib.hid hm3
        have hmb : m ≤ 70000 := by have := H2.out; omega
        clear hm3
        go_wp2_with fail
        go_loopw [17] (fun i wi => ∃ j : Nat, j ≤ m ∧ i = .int .i64 j ∧ Hid (Below w6.heap.size w6 wi)) (fun i _ => m - (intOf i).toNat)
        case atStart => exact ⟨0, Nat.zero_le _, rfl, Lib.hid (Below.refl _ _)⟩
        case round =>
          obtain ⟨j, hj, rfl, HB⟩ := hrel
          obtain ⟨wi, rfl⟩ : ∃ wi, wi = wr := ⟨_, rfl⟩
          by_cases hjm : j < m
          · obtain ⟨e1, c1, hv1, _, hl1⟩ := owns_form HO.out.1 (by omega)
            simp only [Value.slice.injEq, true_and] at hv1
            obtain ⟨rfl, rfl⟩ := hv1
            obtain ⟨e2, c2, hv2, _, hl2⟩ := owns_form HO.out.2 (by omega)
            simp only [Value.slice.injEq, true_and] at hv2
            obtain ⟨rfl, rfl⟩ := hv2
            obtain ⟨y, hy⟩ : ∃ y, N[j]? = some y := ⟨N[j]'(by have := HM.out.2; omega), List.getElem?_eq_getElem _⟩
            obtain ⟨y1, hy1⟩ : ∃ y1, y.1 = y1 := ⟨_, rfl⟩
            have u1 : wi.cell? ⟨e1, j, none⟩ = some (.int .i64 y1) := by
              rw [HB.out.cell (p := ⟨e1, j, none⟩) hl1, HO.out.1.cellAt j (by omega), List.getElem?_map, List.getElem?_map, List.getElem?_take, if_pos (by omega), hy, ← hy1]; rfl
            have u2 : wi.cell? ⟨e2, j, none⟩ = some (.int .i64 y1) := by
              rw [HB.out.cell (p := ⟨e2, j, none⟩) hl2, HO.out.2.cellAt j (by omega), List.getElem?_map, List.getElem?_map, hy, ← hy1]; rfl
            clear hy hy1 hl1 hl2
            have j0 : (0 : Int) ≤ (j : Int) := by omega
            have j1 : (j : Int) < (m : Int) := by omega
            have j2 : (j : Int) < (m' : Int) := by omega
            go_wp2_with fail
            go_quiet (fail)
            go_wp2
            go_roundw
            case rel => exact ⟨j + 1, by omega, by go_num, Lib.hid (below_drewN HB.out _)⟩
            case measure => simp [intOf]; omega
          · obtain rfl : m = j := by omega
            go_wp2
            go_roundw
            case rel => exact ⟨k + 1, N, by omega, by omega, by go_num, Lib.hid (HJ.out.kept HB.out)⟩
            case measure => simp [intOf]; omega
    · by_cases hkl : k < len
      · have hd : decide ((k : Int) < 300) = false := by rw [decide_eq_false_iff_not]; omega
        go_wp2_with fail
        refine (fixed_true wk).mono ?_
        rintro e w9 ⟨rfl, ho⟩
        have H9 := Lib.hid (HD.out.below.trans (ho.mono HD.out.below.size))
        clear ho
        go_wp2_with fail
        go_ret
        exact ⟨rfl, H9.out⟩
      · have hd : decide ((k : Int) < (len : Int)) = false := by rw [decide_eq_false_iff_not]; omega
        go_wp2_with fail
        refine (fixed_true wk).mono ?_
        rintro e w9 ⟨rfl, ho⟩
        have H9 := Lib.hid (HD.out.below.trans (ho.mono HD.out.below.size))
        clear ho
        go_wp2_with fail
        go_ret
        exact ⟨rfl, H9.out⟩

theorem less_walk (n : Int) (v : Value) (ops : List (Int × Int × ByteArray)) (w : World) (hops : OpsIn w v ops) :
    Calls Try.prog 7 #[.int .i64 n, v] w fun e w' => e = .returned (.bool true) ∧ Below w.heap.size w w' := by
  by_cases h : 1 ≤ n ∧ n ≤ 65536
  · by_cases ht : n = 65536
    · subst ht
      exact less_top v w
    · obtain ⟨room, rfl⟩ : ∃ room : Nat, n = room := ⟨n.toNat, by omega⟩
      exact less_yes room v ops w (by omega) (by omega) hops
  · exact less_no n v w (by omega)

end Go.Proofs.Ytggpmnhbplmagaa
