/-
  LinkOrder (stillagelaw18): the walk.
-/
import Derived.Test.YteolokckflckaaaWith
import Derived.Deep.RegionWith
import Derived.Deep.CutRange
namespace Go.Proofs.Yteolokckflckaaa
open Go.RowKit Go.Conc

set_option maxRecDepth 4000 in
set_option maxHeartbeats 4000000 in
theorem order_walk (va : Value) (xs : List ByteArray) (vb : Value) (bs : List Bool) (w : World) (hxs : StrsIn w va xs) (hbs : FlagsIn w vb bs) :
    Calls Try.prog 5 #[va, vb] w fun e w' => e = .returned (.bool true) ∧ Below w.heap.size w w' := by
  obtain ⟨i0, hi0, hz0, hz1, hz2⟩ := info_parts infoStr
  obtain ⟨aoA, capA, rfl, hmA, hxA⟩ := hxs
  obtain ⟨lenA, hlA⟩ : ∃ lenA, xs.length = lenA := ⟨_, rfl⟩
  rw [hlA] at hmA hxA ⊢
  obtain ⟨bA, offA, hA⟩ := StrsIn.cells hlA hxA
  obtain ⟨aoB, capB, rfl, hmB, bB, offB, hB⟩ := hbs
  obtain ⟨lenB, hlB⟩ : ∃ lenB, bs.length = lenB := ⟨_, rfl⟩
  rw [hlB] at hmB hB ⊢
  have HA := Lib.hid hA
  have HB := Lib.hid hB
  clear hxA hlA hlB hA hB
  go_enter Try.func5, Try.ntmps5
  go_wp2_with fail
  refine (One.new 4096 (by omega) (by omega) w).mono ?_
  rintro e w1 ⟨rfl, h⟩
  obtain ⟨p, hp⟩ : ∃ p, p = w.heap.size := ⟨_, rfl⟩
  rw [← hp] at h ⊢
  have H1 : Hid (With w (w1.alloc (.cells #[] 9)) p 4096 [] [] (.slice (some ⟨w1.heap.size, 0, none⟩) 0 0) []) := Lib.hid (With.start h)
  clear h hp
  go_wp2_with fail
  go_loopw [7, 8] (fun sv si wr => ∃ (i : Nat) (W : List ByteArray), i ≤ lenA ∧ i ≤ 200 ∧ si = .int .i64 i ∧ Hid (With w wr p 4096 W [] sv W ∧ W.length ≤ i)) (fun _ si _ => 200 - (intOf si).toNat)
  case atStart => exact ⟨0, [], Nat.zero_le _, by omega, rfl, Lib.hid ⟨H1.out, by simp⟩⟩
  case round =>
    obtain ⟨i, W, hi, hi2, rfl, HD⟩ := hrel
    obtain ⟨wk, rfl⟩ : ∃ wk, wk = wr := ⟨_, rfl⟩
    obtain ⟨vo, vcap, hv7⟩ := shape_of HD.out.1.row
    obtain ⟨nW, hnW⟩ : ∃ nW, W.length = nW := ⟨_, rfl⟩
    rw [hnW] at hv7
    subst hv7
    by_cases hlt : i < lenA ∧ i < 200
    · obtain ⟨ht, hf⟩ := hlt
      obtain ⟨s, hao, x0, hbl⟩ := HA.out i ht
      subst hao
      have X0 : Hid (∀ u, Below w.heap.size w u → u.cell? ⟨bA, offA + i, none⟩ = some (.string s)) := Lib.hid (fun u hu => (hu.cell (p := ⟨bA, offA + i, none⟩) hbl).trans x0)
      clear x0 hbl
      have x0 := X0.out wk HD.out.1.below
      have hW : Hid (W.length = nW ∧ nW ≤ i) := Lib.hid ⟨hnW, by have := HD.out.2; omega⟩
      clear hnW
      have i1 : (i : Int) < (lenA : Int) := by omega
      have i2 : (i : Int) < 200 := by omega
      go_upto_region 9 with fail
      go_cut [46] from 37 to 46 (fun s wx => (∃ t : Bool, s = .bool t) ∧ wk.alloc (.cells #[.int .i64 0, .int .i64 0, .int .u8 0] 30) = wx)
      case first =>
        by_cases hb : i < lenB
        · obtain ⟨z, hao, y0, hbl⟩ := HB.out i hb
          subst hao
          have y0 : wk.cell? ⟨bB, offB + i, none⟩ = some (.bool z) := (HD.out.1.below.cell (p := ⟨bB, offB + i, none⟩) hbl).trans y0
          have y1 : (wk.alloc (.cells #[.int .i64 0, .int .i64 0, .int .u8 0] 30)).cell? ⟨bB, offB + i, none⟩ = some (.bool z) := (World.cell?_alloc_lt _ _ _ (World.block_lt_of_cell? _ _ y0)).trans y0
          have ib : (i : Int) < (lenB : Int) := by omega
          go_wp2
          go_meet
          exact ⟨⟨z, rfl⟩, rfl⟩
        · have hd : decide ((i : Int) < (lenB : Int)) = false := by rw [decide_eq_false_iff_not]; omega
          go_wp2
          go_meet
          exact ⟨⟨false, rfl⟩, rfl⟩
      case rest =>
        obtain ⟨⟨t, rfl⟩, rfl⟩ := hcut
        have x1 : (wk.alloc (.cells #[.int .i64 0, .int .i64 0, .int .u8 0] 30)).cell? ⟨bA, offA + i, none⟩ = some (.string s) := X0.out _ (HD.out.1.alloc _).below
        cases t with
        | true =>
          have HT0 : Hid (∀ u, u = wk.alloc (.cells #[.int .i64 1, .int .i64 0, .int .u8 0] 30) → With w u p 4096 W [] (.slice vo nW vcap) W ∧ u.cell? ⟨bA, offA + i, none⟩ = some (.string s) ∧ u.cell? ⟨wk.heap.size, 0, none⟩ = some (.int .i64 1) ∧ u.cell? ⟨wk.heap.size, 1, none⟩ = some (.int .i64 0) ∧ u.cell? ⟨wk.heap.size, 2, none⟩ = some (.int .u8 0)) :=
            Lib.hid (fun u hu => by
              subst hu
              have hn := alloc_at wk (.cells #[.int .i64 1, .int .i64 0, .int .u8 0] 30)
              exact ⟨HD.out.1.alloc _, X0.out _ (HD.out.1.alloc _).below, by rw [cell_of hn]; rfl, by rw [cell_of hn]; rfl, by rw [cell_of hn]; rfl⟩)
          go_wp2_with fail
          obtain ⟨wa, hwa⟩ : ∃ wa, wa = wk.alloc (.cells #[.int .i64 1, .int .i64 0, .int .u8 0] 30) := ⟨_, rfl⟩
          rw [← hwa]
          have hTa := HT0.out wa hwa
          clear hwa HT0 x1
          obtain ⟨fb, hfb⟩ : ∃ fb, fb = wk.heap.size := ⟨_, rfl⟩
          rw [← hfb] at hTa ⊢
          have HT := Lib.hid hTa.1
          have ys0 := hTa.2
          clear hTa hfb
          obtain ⟨ys1, ys2, ys3, ys4⟩ := ys0
          go_region_with (first
              | (go_at_call 8
                 refine (HT.out.drew.send (by simp) s 1 0 0 rfl).mono ?_
                 rintro e w4 ⟨rfl, h⟩
                 have HE := Lib.hid (h.as (C' := W) (T' := []) rfl rfl)
                 clear h)
              | fail)
          all_goals
            go_wp2_with fail
            refine (HE.out.step).mono ?_
            rintro e w5 ⟨rfl, h⟩
            have HF := Lib.hid (h.as (C' := W) (T' := []) rfl rfl)
            clear h
            go_wp2
            go_roundw
            case rel => exact ⟨i + 1, W, by omega, by omega, by go_num, Lib.hid ⟨HF.out, by have := hW.out; omega⟩⟩
            case measure => simp [intOf]; omega
        | false =>
          have HO : Hid (((wk.alloc (.cells #[.int .i64 0, .int .i64 0, .int .u8 0] 30)).alloc (.cells #[.string s] 9)).ownsRow w.heap.size 9 1 (.slice vo nW vcap) nW (W.map Value.string)) := Lib.hid (by
            have := HD.out.1.row
            rw [hW.out.1] at this
            exact (this.alloc _).alloc _)
          have HSZ : Hid (w.heap.size ≤ wk.heap.size) := Lib.hid HD.out.1.below.size
          go_wp2_with (at_builtin; refine wpList_append_own_at _ rfl (.tmp 48) (.tmp 53) 39 rfl w.heap.size 9 i0 (.string ⟨#[]⟩) 1 16 Try.underlying39 hi0 hz0 hz1 hz2 rfl (by decide) (.slice vo nW vcap) nW (W.map Value.string) rfl HO.out ⟨wk.heap.size + 1, 0, none⟩ 1 1 [.string s] rfl rfl (by have := cell_one_new (wk.alloc (.cells #[.int .i64 0, .int .i64 0, .int .u8 0] 30)) (.string s) 9; simpa using this) (by intro u hu; simp at hu; subst hu; rfl) (by have := hW.out.2; unfold maxLen; omega) (by have := hW.out.2; omega) (by have := HSZ.out; simp; omega) ?_)
          intro v2 w2 hown2 hg2 _ hat2
          have hWi : With w ((wk.alloc (.cells #[.int .i64 0, .int .i64 0, .int .u8 0] 30)).alloc (.cells #[.string s] 9)) p 4096 W [] (.slice vo nW vcap) W := (HD.out.1.alloc _).alloc _
          have hT2 : With w w2 p 4096 W [] v2 (W ++ [s]) := hWi.grown hg2 (by rw [List.length_append, List.length_singleton, hW.out.1, List.map_append]; exact hown2) (by simpa using hat2)
          have hfb2 : w2.heap[wk.heap.size]? = some (.cells #[.int .i64 0, .int .i64 0, .int .u8 0] 30 (0, 0)) := by
            have a1 : ((wk.alloc (.cells #[.int .i64 0, .int .i64 0, .int .u8 0] 30)).alloc (.cells #[.string s] 9)).heap[wk.heap.size]? = some (.cells #[.int .i64 0, .int .i64 0, .int .u8 0] 30 (0, 0)) := by
              rw [alloc_old _ _ (by simp)]; exact alloc_at _ _
            rw [hg2.block _ (lt_of_block a1) (fun e => ?_)]
            · exact a1
            · obtain ⟨_, cur, hc⟩ := owns_block HO.out _ e.symm
              rw [a1] at hc
              simp at hc
          obtain ⟨fb, hfb⟩ : ∃ fb, fb = wk.heap.size := ⟨_, rfl⟩
          rw [← hfb] at hfb2 ⊢
          have HT := Lib.hid hT2
          have ys0 : w2.cell? ⟨bA, offA + i, none⟩ = some (.string s) ∧ w2.cell? ⟨fb, 0, none⟩ = some (.int .i64 0) ∧ w2.cell? ⟨fb, 1, none⟩ = some (.int .i64 0) ∧ w2.cell? ⟨fb, 2, none⟩ = some (.int .u8 0) :=
            ⟨X0.out _ hT2.below, by rw [cell_of hfb2]; rfl, by rw [cell_of hfb2]; rfl, by rw [cell_of hfb2]; rfl⟩
          have HCm : Hid (comesL 4096 W s = W ++ [s]) := Lib.hid (by unfold comesL; rw [if_pos (by have := hW.out; omega)])
          clear hT2 hWi hown2 hg2 hat2 hfb2 hfb x1 x0
          go_wp2_with fail
          obtain ⟨ys1, ys2, ys3, ys4⟩ := ys0
          go_region_with (first
              | (go_at_call 8
                 refine (HT.out.drew.send (by simp) s 0 0 0 rfl).mono ?_
                 rintro e w4 ⟨rfl, h⟩
                 have HE := Lib.hid (h.as (C' := W ++ [s]) (T' := []) (by unfold sendC; rw [if_pos rfl]; exact HCm.out) rfl)
                 clear h)
              | fail)
          all_goals
            go_wp2_with fail
            refine (HE.out.step).mono ?_
            rintro e w5 ⟨rfl, h⟩
            have HF := Lib.hid (h.as (C' := W ++ [s]) (T' := []) rfl rfl)
            clear h
            go_wp2
            go_roundw
            case rel => exact ⟨i + 1, W ++ [s], by omega, by omega, by go_num, Lib.hid ⟨HF.out, by have := hW.out; rw [List.length_append, List.length_singleton]; omega⟩⟩
            case measure => simp [intOf]; omega
    · have HW := Lib.hid hnW
      clear hnW
      have HL0 : Hid (With w wk p 4096 (W.drop 0) [] (.slice vo nW vcap) W) := Lib.hid HD.out.1
      have hnW2 : nW ≤ 200 := by have := HD.out.2; have := HW.out; omega
      by_cases hkl : i < lenA
      focus
        have hd : decide ((i : Int) < 200) = false := by rw [decide_eq_false_iff_not]; omega
        go_wp2_with fail
      rotate_left
      focus
        have hd : decide ((i : Int) < (lenA : Int)) = false := by rw [decide_eq_false_iff_not]; omega
        go_wp2_with fail
      all_goals
        go_loopw [10] (fun sj wt => ∃ j : Nat, j ≤ nW ∧ sj = .int .i64 j ∧ Hid (With w wt p 4096 (W.drop j) [] (.slice vo nW vcap) W)) (fun sj _ => nW - (intOf sj).toNat)
        case atStart => exact ⟨0, Nat.zero_le _, rfl, HL0⟩
        case round =>
          obtain ⟨j, hj, rfl, HT⟩ := hrel
          obtain ⟨wt, rfl⟩ : ∃ wt, wt = wr := ⟨_, rfl⟩
          by_cases hjn : j < nW
          · have hjl : j < W.length := by have := HW.out; omega
            have HX : Hid (W.drop j = W[j] :: W.drop (j + 1)) := Lib.hid (List.drop_eq_getElem_cons hjl)
            obtain ⟨z, hz⟩ : ∃ z, W[j] = z := ⟨_, rfl⟩
            have HX2 : Hid (W.drop j = z :: W.drop (j + 1)) := Lib.hid (by rw [HX.out, hz])
            have HZ := Lib.hid hz
            clear hz HX
            have j1 : (j : Int) < (nW : Int) := by omega
            go_wp2_with fail
            refine (HT.out.take).mono ?_
            rintro e w4 ⟨rfl, h⟩
            rw [HX2.out] at h ⊢
            simp only [headS, List.isEmpty_cons, Bool.not_false, List.tail_cons] at h ⊢
            obtain ⟨g, gc, hv, hcell⟩ := h.cell hjl
            rw [HZ.out] at hcell
            simp only [Value.slice.injEq] at hv
            obtain ⟨hvo, _, _⟩ := hv
            subst hvo
            have HT4 := Lib.hid h
            clear h
            go_wp2
            go_roundw
            case rel => exact ⟨j + 1, by omega, by go_num, HT4⟩
            case measure => simp [intOf]; omega
          · obtain rfl : j = nW := by omega
            have hde : W.drop j = [] := by rw [← HW.out, List.drop_length]
            have HT2 := Lib.hid (HT.out.as hde rfl)
            clear hde HT
            go_wp2_with fail
            refine (HT2.out.take).mono ?_
            rintro e w4 ⟨rfl, h⟩
            simp only [headS, List.isEmpty_nil, Bool.not_true, List.tail_nil] at h ⊢
            have HT4 := Lib.hid h.below
            clear h
            go_wp2_with fail
            refine (fixed_true w4).mono ?_
            rintro e w9 ⟨rfl, ho⟩
            have H9 := Lib.hid (HT4.out.trans (ho.mono HT4.out.size))
            clear ho
            go_wp2_with fail
            go_ret
            exact ⟨rfl, H9.out⟩

end Go.Proofs.Yteolokckflckaaa
