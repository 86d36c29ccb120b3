/-
  LinkLate (stillagelaw18): the walk.
-/
import Derived.Test.YteolokckflckaaaDue
import Derived.Deep.RegionWith
import Derived.Deep.CutRange
namespace Go.Proofs.Yteolokckflckaaa
open Go.RowKit Go.Conc

set_option maxRecDepth 4000 in
set_option maxHeartbeats 4000000 in
theorem late_walk (v : Value) (xs : List Int) (w : World) (hxs : IntsIn w v xs) :
    Calls Try.prog 3 #[v] w fun e w' => e = .returned (.bool true) ∧ Below w.heap.size w w' := by
  obtain ⟨ao, cap, rfl, hm, hx⟩ := hxs
  obtain ⟨len, hlen⟩ : ∃ len, xs.length = len := ⟨_, rfl⟩
  rw [hlen] at hm hx ⊢
  have HX := Lib.hid hx
  clear hx hlen
  go_enter Try.func3, Try.ntmps3
  go_wp2_with fail
  refine (One.new 100 (by omega) (by omega) w).mono ?_
  rintro e w1 ⟨rfl, h⟩
  obtain ⟨p, hp⟩ : ∃ p, p = w.heap.size := ⟨_, rfl⟩
  rw [← hp] at h ⊢
  have H1 : Hid (One w w1 p 100 [] []) := Lib.hid h
  clear h hp
  go_upto_region 4 with fail
  go_cut [5] from 25 to 27 (fun s wx => (∃ n : Nat, n ≤ len ∧ n ≤ 50 ∧ s = .int .i64 n) ∧ wx = w1)
  case first =>
    go_wp2
    all_goals
      go_meet
      first
        | exact ⟨⟨50, by omega, Nat.le_refl _, rfl⟩, rfl⟩
        | exact ⟨⟨len, Nat.le_refl _, by omega, rfl⟩, rfl⟩
  case rest =>
    obtain ⟨⟨n, hn1, hn2, rfl⟩, rfl⟩ := hcut
    go_wp2_with fail
    go_loopw [6] (fun si wr => ∃ i : Nat, i ≤ n ∧ si = .int .i64 i ∧ Hid (One w wr p 100 [] (msgs xs i))) (fun si _ => n - (intOf si).toNat)
    case atStart => exact ⟨0, Nat.zero_le _, rfl, H1⟩
    case round =>
      obtain ⟨i, hi, rfl, HD⟩ := hrel
      obtain ⟨wk, rfl⟩ : ∃ wk, wk = wr := ⟨_, rfl⟩
      by_cases hlt : i < n
      · obtain ⟨b, off, hao, hcell⟩ := HX.out (by omega)
        subst hao
        obtain ⟨z, hz⟩ : ∃ z, xs.getD i 0 = z := ⟨_, rfl⟩
        have x0 := hcell i (by omega)
        rw [hz] at x0
        clear hcell
        have hbl := World.block_lt_of_cell? _ _ x0
        have x0 : wk.cell? ⟨b, off + i, none⟩ = some (.int .i64 z) := (HD.out.below.cell (p := ⟨b, off + i, none⟩) hbl).trans x0
        obtain ⟨hK0, hK1⟩ : 0 ≤ bits .and .i64 z 7 ∧ bits .and .i64 z 7 ≤ 7 := and_le z 7 (by decide) (by omega)
        obtain ⟨K, hK⟩ : ∃ K : Nat, bits .and .i64 z 7 = (K : Int) := ⟨(bits .and .i64 z 7).toNat, by omega⟩
        have hK8 : K ≤ 7 := by omega
        have HZ := Lib.hid (And.intro hz hK)
        clear hz hK0 hK1
        have i0 : (0 : Int) ≤ (i : Int) := by omega
        have i1 : (i : Int) < (len : Int) := by omega
        have iN : (i : Int) < (n : Int) := by omega
        go_wp2_with fail
        have hsA : ∀ m, (convert 28 9 (.slice (some ⟨wk.heap.size, 0, none⟩) 1 1)).run Try.prog (wk.alloc (.cells #[.int .u8 m] 5)).drew = .ok (.string (byteStr [m])) (wk.alloc (.cells #[.int .u8 m] 5)).drew := fun m => run_str1 wk.drew _ rfl m
        have hsB : ∀ m, (convert 28 9 (.slice (some ⟨wk.heap.size, 0, none⟩) 1 1)).run Try.prog (wk.drew.alloc (.cells #[.int .u8 m] 5)) = .ok (.string (byteStr [m])) (wk.drew.alloc (.cells #[.int .u8 m] 5)) := fun m => run_str1 wk.drew _ rfl m
        have e1 : IntKind.u8.wrap (i : Int) = (i : Int) := by rw [IntKind.wrap_u8]; omega
        have e2 : IntKind.i64.wrap (1 + (K : Int)) = 1 + (K : Int) := by rw [IntKind.wrap_i64]; omega
        have xd : wk.drew.cell? ⟨b, off + i, none⟩ = some (.int .i64 z) := x0
        have xa : ∀ o, (wk.alloc o).drew.cell? ⟨b, off + i, none⟩ = some (.int .i64 z) := fun o => (World.cell?_alloc_lt _ _ _ (World.block_lt_of_cell? _ _ x0)).trans x0
        have xb : ∀ o, (wk.drew.alloc o).cell? ⟨b, off + i, none⟩ = some (.int .i64 z) := fun o => (World.cell?_alloc_lt wk.drew _ _ (World.block_lt_of_cell? _ _ x0)).trans x0
        go_region_with (first
            | (go_at_call 8
               refine (One.send (w0 := w) (p := p) (room := 100) (C := []) (T := msgs xs i) ?_ ?_ (byteStr [(i : Int)]) 3 (1 + (K : Int)) 0 ?_).mono ?_
               exact HD.out.kept (by first | exact (Below.refl _ _).drew.alloc (Nat.le_refl _) _ | exact ((Below.refl _ _).alloc (Nat.le_refl _) _).drew)
               · rw [msgs_length]; omega
               · simp [mayB]; omega
               rintro e w2 ⟨rfl, h⟩
               have HE := Lib.hid h
               clear h)
            | fail)
        all_goals
          clear hsA hsB xd xa xb e1 e2
          go_wp2
          go_roundw
          case rel =>
            refine ⟨i + 1, by omega, by go_num, Lib.hid (HE.out.as rfl ?_)⟩
            rw [msgs_succ, HZ.out.1]
            unfold sendT
            rw [if_pos rfl]
            rw [show bits .and .i64 z 7 = (K : Int) from HZ.out.2]
          case measure => simp [intOf]; omega
      · obtain rfl : i = n := by omega
        have H0 : Hid (One w wk p 100 [] (lateAt (msgs xs i) 0)) := Lib.hid (HD.out.as rfl (lateAt_zero HD.out.good).symm)
        clear HD
        generalize hD : msgs xs i = D at H0
        have HDl : Hid (D.length = i ∧ Good D ∧ D = msgs xs i) := Lib.hid ⟨by rw [← hD, msgs_length], by rw [← hD]; exact msgs_good xs i, hD.symm⟩
        clear hD
        go_wp2_with fail
        go_loopw [7] (fun st wr => ∃ t : Nat, 1 ≤ t ∧ t ≤ 9 ∧ st = .int .i64 t ∧ Hid (One w wr p 100 [] (lateAt D (t - 1)))) (fun st _ => 9 - (intOf st).toNat)
        case atStart => exact ⟨1, by omega, by omega, rfl, H0⟩
        case round =>
          obtain ⟨t, ht1, ht9, rfl, HE⟩ := hrel
          obtain ⟨wo, rfl⟩ : ∃ wo, wo = wr := ⟨_, rfl⟩
          by_cases ht8 : t ≤ 8
          · have ht8' : (t : Int) ≤ 8 := by omega
            go_wp2_with fail
            refine (HE.out.step).mono ?_
            rintro e w2 ⟨rfl, h⟩
            rw [stepT_lateAt _ _ ht1, stepC_lateAt 100 D t ht1 (by have := HDl.out.1; omega)] at h
            have HF := Lib.hid h
            clear h
            go_wp2_with fail
            go_loopw [8] (fun sj wt => ∃ j : Nat, j ≤ i ∧ sj = .int .i64 j ∧ Hid (One w wt p 100 (due D t j) (lateAt D t))) (fun sj _ => i - (intOf sj).toNat)
            case atStart => exact ⟨0, Nat.zero_le _, rfl, HF⟩
            case round =>
              obtain ⟨j, hj, rfl, HG⟩ := hrel
              obtain ⟨wt, rfl⟩ : ∃ wt, wt = wr := ⟨_, rfl⟩
              by_cases hji : j < i
              · obtain ⟨b, off, hao, hcell⟩ := HX.out (by omega)
                subst hao
                obtain ⟨z, hz⟩ : ∃ z, xs.getD j 0 = z := ⟨_, rfl⟩
                have x0 := hcell j (by omega)
                rw [hz] at x0
                clear hcell
                have hbl := World.block_lt_of_cell? _ _ x0
                have x0 : wt.cell? ⟨b, off + j, none⟩ = some (.int .i64 z) := (HG.out.below.cell (p := ⟨b, off + j, none⟩) hbl).trans x0
                obtain ⟨hK0, hK1⟩ : 0 ≤ bits .and .i64 z 7 ∧ bits .and .i64 z 7 ≤ 7 := and_le z 7 (by decide) (by omega)
                obtain ⟨K, hK⟩ : ∃ K : Nat, bits .and .i64 z 7 = (K : Int) := ⟨(bits .and .i64 z 7).toNat, by omega⟩
                have hK8 : K ≤ 7 := by omega
                have hDj : Hid (∃ hj : j < D.length, D[j] = (byteStr [(j : Int)], K + 1)) := Lib.hid (by
                  have hjl : j < D.length := by have := HDl.out.1; omega
                  refine ⟨hjl, ?_⟩
                  have := msgs_at xs i j (by rw [msgs_length]; omega)
                  rw [hz, show bits .and .i64 z 7 = (K : Int) from hK] at this
                  have hDm := HDl.out.2.2
                  subst hDm
                  rw [this]
                  congr 1
                  omega)
                clear hz hK0 hK1
                have i0 : (0 : Int) ≤ (j : Int) := by omega
                have i1 : (j : Int) < (len : Int) := by omega
                have iN : (j : Int) < (i : Int) := by omega
                by_cases hKt : K + 1 = t
                · have hb1 : (1 + (K : Int) == (t : Int)) = true := by simp; omega
                  have hb2 : (1 + (K : Int) != (t : Int)) = false := by simp; omega
                  have hHt := Lib.hid hKt
                  clear hKt
                  go_wp2_with fail
                  refine (HG.out.take).mono ?_
                  rintro e w4 ⟨rfl, h⟩
                  obtain ⟨hjl, hDj'⟩ := hDj.out
                  rw [due_yes D t j hjl (by rw [hDj']; exact hHt.out), hDj'] at h ⊢
                  simp only [headS, List.isEmpty_cons, Bool.not_false, List.tail_cons] at h ⊢
                  have HT := Lib.hid h
                  clear h hjl hDj'
                  have e1 : IntKind.u8.wrap (j : Int) = (j : Int) := by rw [IntKind.wrap_u8]; omega
                  have hs := run_str1 w4 w4.heap.size rfl (j : Int)
                  go_wp2_with fail
                  go_roundw
                  case rel => exact ⟨j + 1, by omega, by go_num, Lib.hid (HT.out.kept ((Below.refl _ _).alloc (Nat.le_refl _) _))⟩
                  case measure => simp [intOf]; omega
                · have hb1 : (1 + (K : Int) == (t : Int)) = false := by simp; omega
                  have hb2 : (1 + (K : Int) != (t : Int)) = true := by simp; omega
                  have hHt := Lib.hid hKt
                  clear hKt
                  go_wp2_with fail
                  go_roundw
                  case rel =>
                    obtain ⟨hjl, hDj'⟩ := hDj.out
                    exact ⟨j + 1, by omega, by go_num, Lib.hid (HG.out.as (due_no D t j hjl (by rw [hDj']; exact hHt.out)) rfl)⟩
                  case measure => simp [intOf]; omega
              · obtain rfl : j = i := by omega
                have hde : due D t j = [] := by rw [← HDl.out.1]; exact due_end D t
                have HG2 := Lib.hid (HG.out.as hde rfl)
                clear hde HG
                go_wp2_with fail
                refine (HG2.out.take).mono ?_
                rintro e w4 ⟨rfl, h⟩
                simp only [headS, List.isEmpty_nil, Bool.not_true, List.tail_nil] at h ⊢
                have HT := Lib.hid h
                clear h
                go_wp2_with fail
                go_roundw
                case rel => exact ⟨t + 1, by omega, by omega, by go_num, Lib.hid (HT.out.as rfl (by rw [Nat.add_sub_cancel]))⟩
                case measure => simp [intOf]; omega
          · obtain rfl : t = 9 := by omega
            have HE2 := Lib.hid (HE.out.as rfl (lateAt_done HDl.out.2.1 8 (by omega)))
            clear HE
            go_wp2_with fail
            refine (HE2.out.waits).mono ?_
            rintro e w4 ⟨rfl, h⟩
            simp only [List.length_nil] at h ⊢
            have HT := Lib.hid h.below
            clear h
            go_wp2_with fail
            refine (fixed_true w4).mono ?_
            rintro e w9 ⟨rfl, ho⟩
            have H9 := Lib.hid (HT.out.trans (ho.mono HT.out.size))
            clear ho
            go_wp2_with fail
            go_ret
            exact ⟨rfl, H9.out⟩

end Go.Proofs.Yteolokckflckaaa
