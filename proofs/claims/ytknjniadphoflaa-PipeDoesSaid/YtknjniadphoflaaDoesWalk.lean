/-
  PipeDoes (stillagelaw05): the walk.
-/
import Derived.Test.YtknjniadphoflaaDoes
import Derived.Deep.RegionHeld3
import Derived.Deep.CutBlock
import Derived.Deep.DeepCutAuto
namespace Go.Proofs.Ytknjniadphoflaa
open Go.RowKit Go.Conc

theorem info33 : (Try.prog.info? 33).map (fun i => (i.zero, i.size, i.bytes)) = some (some (.pointer none), 1, 8) := by kernel_rfl
theorem info36 : (Try.prog.info? 36).map (fun i => (i.zero, i.size, i.bytes)) = some (some (.pointer none), 1, 8) := by kernel_rfl

theorem headOr_int (l : List Int) : headOr (Value.int .i64) (.int .i64 0) l = .int .i64 (l.headD 0) := by cases l <;> rfl

set_option maxRecDepth 4000 in
set_option maxHeartbeats 4000000 in
theorem does_walk (vr : Value) (rs : List Int) (v : Value) (ops : List (Int × Int × Int × Int)) (w : World) (hrs : IntsIn w vr rs) (hops : OpsIn w v ops) :
    Calls Try.prog 4 #[vr, v] w fun e w' => e = .returned (.bool true) ∧ Below w.heap.size w w' := by
  obtain ⟨aoR, capR, rfl, hmR, hxR⟩ := hrs
  obtain ⟨lenR, hlenR⟩ : ∃ lenR, rs.length = lenR := ⟨_, rfl⟩
  rw [hlenR] at hmR hxR ⊢
  have HXR := Lib.hid hxR
  clear hxR hlenR
  obtain ⟨ao, cap, rfl, hm, hx⟩ := hops
  obtain ⟨len, hlen⟩ : ∃ len, ops.length = len := ⟨_, rfl⟩
  rw [hlen] at hm hx ⊢
  have HX := Lib.hid hx
  clear hx hlen
  obtain ⟨i0, hi0, hz0, hz1, hz2⟩ := info_parts info33
  obtain ⟨j0, hj0, ey0, ey1, ey2⟩ := info_parts info36
  go_enter Try.func4, Try.ntmps4
  go_wp2_with fail
  have HB0 : Hid (∃ p c b R : Nat → Nat, Built w ((w.alloc (.cells #[] 33)).alloc (.cells #[] 36)) (.slice (some ⟨w.heap.size, 0, none⟩) 0 0) (.slice (some ⟨w.heap.size + 1, 0, none⟩) 0 0) p c b R 0) := by
    refine Lib.hid ⟨id, id, id, id, Built.nil _ _ _ _ _ ?_ ?_ ?_⟩
    · exact ((Below.refl _ _).alloc (Nat.le_refl _) _).alloc (by simp) _
    · refine ⟨rfl, .inr ⟨w.heap.size, 0, #[], rfl, Nat.le_refl _, ?_, Nat.le_refl _, Nat.zero_le _, rfl, rfl⟩⟩
      rw [alloc_old _ _ (by simp)]
      exact alloc_at _ _
    · refine ⟨rfl, .inr ⟨w.heap.size + 1, 0, #[], rfl, Nat.le_succ _, ?_, Nat.le_refl _, Nat.zero_le _, rfl, rfl⟩⟩
      have := alloc_at (w.alloc (.cells #[] 33)) (.cells #[] 36)
      simpa using this
  go_loopw [5, 6, 7] (fun sp sm si wr => ∃ k : Nat, k ≤ 3 ∧ si = .int .i64 k ∧ Hid (∃ p c b R : Nat → Nat, Built w wr sp sm p c b R k)) (fun _ _ si _ => 3 - (intOf si).toNat)
  case atStart => exact ⟨0, by omega, rfl, HB0⟩
  case round =>
    obtain ⟨k, hk, rfl, HB⟩ := hrel
    obtain ⟨wk, rfl⟩ : ∃ wk, wk = wr := ⟨_, rfl⟩
    by_cases hlt : k < 3
    · have hlt' : (k : Int) < 3 := by omega
      go_upto_if 34 with fail
      go_cut [8] from 34 to 40 (fun s wx => (∃ r : Nat, 1 ≤ r ∧ r ≤ 4096 ∧ s = .int .i64 r) ∧ wk = wx)
      case first =>
        by_cases hkr : k < lenR
        · obtain ⟨b, off, rfl, hc⟩ := HXR.out (by omega)
          have hkr' : (k : Int) < (lenR : Int) := by omega
          have x0 := hc k hkr
          clear hc
          generalize rs.getD k 0 = z at x0
          have hbl := World.block_lt_of_cell? _ _ x0
          obtain ⟨_, _, _, _, hBB⟩ := HB.out
          have x0 : wk.cell? ⟨b, off + k, none⟩ = some (.int .i64 z) := (hBB.2.2.2.2.cell (p := ⟨b, off + k, none⟩) hbl).trans x0
          clear hBB hbl
          go_wp2
          all_goals
            go_meet
            first
              | exact ⟨⟨4096, by omega, by omega, rfl⟩, rfl⟩
              | exact ⟨⟨1, by omega, by omega, rfl⟩, rfl⟩
              | exact ⟨⟨z.toNat, by omega, by omega, by congr 1; omega⟩, rfl⟩
        · have hkr' : decide ((k : Int) < (lenR : Int)) = false := by rw [decide_eq_false_iff_not]; omega
          go_wp2
          go_meet
          exact ⟨⟨2, by omega, by omega, rfl⟩, rfl⟩
      case rest =>
        obtain ⟨⟨r, hr1, hr2, rfl⟩, rfl⟩ := hcut
        go_wp2_with fail
        refine (newInt r (by omega) (by omega) wk).mono ?_
        rintro e w1 ⟨rfl, hp, hb1, hs1⟩
        rw [Int.toNat_natCast] at hp
        have H1 := Lib.hid (And.intro hp (And.intro hb1 hs1))
        clear hp hb1 hs1
        obtain ⟨p, c, b, R, hB⟩ := HB.out
        have HB1 := Lib.hid hB
        clear hB HB
        have HO1 : Hid ((w1.alloc (.cells #[ptr (wk.heap.size + 1)] 33)).ownsRow w.heap.size 33 1 u5 k ((List.range k).map fun i => ptr (p i))) :=
          Lib.hid ((owns_kept HB1.out.2.2.1 (Kept.of_below H1.out.2.1 (fun _ => False)) (fun _ _ h => h)).alloc _)
        have HSZ : Hid (w.heap.size ≤ w1.heap.size) := Lib.hid (Nat.le_trans HB1.out.2.2.2.2.size H1.out.2.1.size)
        go_wp2_with (at_builtin; refine wpList_append_own_at _ rfl (.tmp 52) (.tmp 54) 31 rfl w.heap.size 33 i0 (.pointer none) 1 8 Try.underlying31 hi0 hz0 hz1 hz2 rfl (by decide) u5 k ((List.range k).map fun i => ptr (p i)) rfl HO1.out ⟨w1.heap.size, 0, none⟩ 1 1 [ptr (wk.heap.size + 1)] rfl rfl (cell_one_new _ _ _) (by intro u hu; simp at hu; subst hu; rfl) (by unfold maxLen; omega) (by omega) (by have := HSZ.out; simp; omega) ?_)
        intro v2 w2 hown2 hg2 _ _
        have HO2 := Lib.hid (And.intro hown2 hg2)
        clear hown2 hg2
        have HO3 : Hid (((w2.alloc (.cells #[.int .i64 r, .slice none 0 0, .bool false] 38)).alloc (.cells #[ptr w2.heap.size] 36)).ownsRow w.heap.size 36 1 u6 k ((List.range k).map fun i => ptr (b i))) :=
          Lib.hid (((HB1.out.rowM H1.out.2.1 HO2.out.2).alloc _).alloc _)
        have HSZ2 : Hid (w.heap.size ≤ w2.heap.size) := Lib.hid (Nat.le_trans HSZ.out (Nat.le_trans (by simp) HO2.out.2.size))
        go_wp2_with (at_builtin; refine wpList_append_own_at _ rfl (.tmp 56) (.tmp 60) 32 rfl w.heap.size 36 j0 (.pointer none) 1 8 Try.underlying32 hj0 ey0 ey1 ey2 rfl (by decide) u6 k ((List.range k).map fun i => ptr (b i)) rfl HO3.out ⟨w2.heap.size + 1, 0, none⟩ 1 1 [ptr w2.heap.size] rfl rfl (by have := cell_one_new (w2.alloc (.cells #[.int .i64 r, .slice none 0 0, .bool false] 38)) (ptr w2.heap.size) 36; simpa using this) (by intro u hu; simp at hu; subst hu; rfl) (by unfold maxLen; omega) (by omega) (by have := HSZ2.out; simp; omega) ?_)
        intro v3 w3 hown3 hg3 _ _
        have HO4 := Lib.hid (And.intro hown3 hg3)
        clear hown3 hg3
        go_wp2
        go_roundw
        case rel => exact ⟨k + 1, by omega, by go_num, Lib.hid ⟨_, _, _, _, HB1.out.step H1.out.1 hr2 H1.out.2.1 HO2.out.1 HO2.out.2 HO4.out.1 HO4.out.2 H1.out.2.2⟩⟩
        case measure => simp [intOf]; omega
    · obtain rfl : k = 3 := by omega
      obtain ⟨p, c, b, R, hB⟩ := HB.out
      obtain ⟨gp, gm, capp, capm, op, om, rfl, rfl, h6, hcp, hcm⟩ := hB.six
      have H6 := Lib.hid h6
      have HCP := Lib.hid hcp
      have HCM := Lib.hid hcm
      clear hB HB h6 hcp hcm HXR HB0
      go_wp2_with fail
      go_loopw [11] (fun si wr => ∃ (k : Nat) (L : Nat → List Int) (C : Nat → Bool), k ≤ len ∧ k ≤ 300 ∧ si = .int .i64 k ∧ Hid (Six w wr [(gp, op), (gm, om)] p c b R L C L C)) (fun si _ => 300 - (intOf si).toNat)
      case atStart => exact ⟨0, fun _ => [], fun _ => false, Nat.zero_le _, by omega, rfl, H6⟩
      case round =>
        obtain ⟨k, L, C, hk, hk3, rfl, HD⟩ := hrel
        obtain ⟨wo, rfl⟩ : ∃ wo, wo = wr := ⟨_, rfl⟩
        by_cases hlt : k < len ∧ k < 300
        · obtain ⟨ht, hf⟩ := hlt
          obtain ⟨b', off, hX⟩ := HX.out
          obtain ⟨kd, pi, ot, th, hao, hop, hbl, x0, x1, x2, x3⟩ := hX k ht
          clear hX hop
          subst hao
          have x0 : wo.cell? ⟨b', off + k * 4, none⟩ = some (.int .i64 kd) := (HD.out.old.cell (p := ⟨b', off + k * 4, none⟩) hbl).trans x0
          have x1 : wo.cell? ⟨b', off + k * 4 + 1, none⟩ = some (.int .i64 pi) := (HD.out.old.cell (p := ⟨b', off + k * 4 + 1, none⟩) hbl).trans x1
          have x2 : wo.cell? ⟨b', off + k * 4 + 2, none⟩ = some (.int .i64 ot) := (HD.out.old.cell (p := ⟨b', off + k * 4 + 2, none⟩) hbl).trans x2
          have x3 : wo.cell? ⟨b', off + k * 4 + 3, none⟩ = some (.int .i64 th) := (HD.out.old.cell (p := ⟨b', off + k * 4 + 3, none⟩) hbl).trans x3
          have hkl : (k : Int) < (len : Int) := by omega
          have hk300 : (k : Int) < 300 := by omega
          obtain ⟨hA0, hA1⟩ : 0 ≤ bits .and .i64 pi 65535 ∧ bits .and .i64 pi 65535 ≤ 65535 := and_le pi 65535 (by decide) (by omega)
          obtain ⟨A, hA⟩ : ∃ A : Nat, bits .and .i64 pi 65535 = (A : Int) := ⟨(bits .and .i64 pi 65535).toNat, by omega⟩
          obtain ⟨hB0, hB1⟩ : 0 ≤ bits .and .i64 ot 65535 ∧ bits .and .i64 ot 65535 ≤ 65535 := and_le ot 65535 (by decide) (by omega)
          obtain ⟨B, hB⟩ : ∃ B : Nat, bits .and .i64 ot 65535 = (B : Int) := ⟨(bits .and .i64 ot 65535).toNat, by omega⟩
          have HDa := Lib.hid (HD.out.alloc (.cells #[.int .i64 kd, .int .i64 pi, .int .i64 ot, .int .i64 th] 40))
          obtain ⟨m, hm3⟩ : ∃ m : Nat, A % 3 = m := ⟨_, rfl⟩
          obtain ⟨n, hn3⟩ : ∃ n : Nat, B % 3 = n := ⟨_, rfl⟩
          have hmt : (A : Int).tmod 3 = (m : Int) := by rw [Int.tmod_eq_emod_of_nonneg (by omega)]; omega
          have hme : (A : Int) % 3 = (m : Int) := by omega
          have hnt : (B : Int).tmod 3 = (n : Int) := by rw [Int.tmod_eq_emod_of_nonneg (by omega)]; omega
          have hne : (B : Int) % 3 = (n : Int) := by omega
          have hm2 : m < 3 := by omega
          have hn2 : n < 3 := by omega
          clear hA0 hA1 hB0 hB1 hm3 hn3
          go_upto_block 4 with fail
          go_quiet (fail)
          go_upto_block 4 with fail
          have HDb : Hid (Six w ((wo.alloc (.cells #[.int .i64 kd, .int .i64 pi, .int .i64 ot, .int .i64 th] 40)).drewN nq) ((wo.heap.size, .cells #[.int .i64 kd, .int .i64 pi, .int .i64 ot, .int .i64 th] 40 (0, 0)) :: [(gp, op), (gm, om)]) p c b R L C L C) := Lib.hid (HDa.out.drewN nq)
          clear HDa
          generalize (wo.alloc (.cells #[.int .i64 kd, .int .i64 pi, .int .i64 ot, .int .i64 th] 40)).drewN nq = wd at HDb ⊢
          generalize wo.heap.size = ob at HDb ⊢
          have y0 : wd.cell? ⟨ob, 0, none⟩ = some (.int .i64 kd) := by rw [cell_of (HDb.out.held (List.mem_cons_self ..))]; rfl
          have HS : Hid (∀ (u : World) (L C L' C'), Six w u ((ob, .cells #[.int .i64 kd, .int .i64 pi, .int .i64 ot, .int .i64 th] 40 (0, 0)) :: [(gp, op), (gm, om)]) p c b R L C L' C' →
              u.cell? ⟨gp, m, none⟩ = some (ptr (p m)) ∧ u.cell? ⟨gp, n, none⟩ = some (ptr (p n)) ∧ u.cell? ⟨gm, m, none⟩ = some (ptr (b m)) ∧ u.cell? ⟨gm, n, none⟩ = some (ptr (b n)) ∧ u.cell? ⟨ob, 3, none⟩ = some (.int .i64 th)) := by
            refine Lib.hid (fun u L C L' C' h => ⟨HCP.out u (h.held (e := (gp, op)) (by simp)) m hm2, HCP.out u (h.held (e := (gp, op)) (by simp)) n hn2, HCM.out u (h.held (e := (gm, om)) (by simp)) m hm2, HCM.out u (h.held (e := (gm, om)) (by simp)) n hn2, ?_⟩)
            rw [cell_of (h.held (List.mem_cons_self ..))]; rfl
          have ys0 := HS.out _ _ _ _ _ HDb.out
          have hm2' : (m : Int) < 3 := by omega
          have hn2' : (n : Int) < 3 := by omega
          go_cut [15, 16, 17, 18, 19, 20, 21, 22, 23] (fun _ _ _ _ _ _ _ _ _ wx => Hid (∃ (L2 : Nat → List Int) (C2 : Nat → Bool), Six w wx [(gp, op), (gm, om)] p c b R L2 C2 L2 C2))
          case first =>
            rcases (show kd = 0 ∨ kd = 1 ∨ kd = 2 ∨ kd = 3 ∨ kd = 4 ∨ ((kd == 0) = false ∧ (kd == 1) = false ∧ (kd == 2) = false ∧ (kd == 3) = false ∧ (kd == 4) = false) by simp; omega) with rfl | rfl | rfl | rfl | rfl | ⟨n0, n1, n2, n3, n4⟩
            · as_aux_lemma =>
                go_wp2_with fail
                go_region_held3 (fun u => u.cell? ⟨gp, m, none⟩ = some (ptr (p m)) ∧ u.cell? ⟨gp, n, none⟩ = some (ptr (p n)) ∧ u.cell? ⟨gm, m, none⟩ = some (ptr (b m)) ∧ u.cell? ⟨gm, n, none⟩ = some (ptr (b n)) ∧ u.cell? ⟨ob, 3, none⟩ = some (.int .i64 th)) (first | exact ys0 | assumption)
                  (first
                    | (go_at_call 12
                       refine (HDb.out.drew.send hm2 th).mono ?_
                       rintro e w2 ⟨rfl, h⟩
                       have ys2 := HS.out _ _ _ _ _ h
                       have HG := Lib.hid h
                       clear h)
                    | (go_at_call 13
                       refine (HG.out.docSend hm2 th).mono ?_
                       rintro e w3 ⟨rfl, h⟩
                       have ys3 := HS.out _ _ _ _ _ h
                       have HE0 := Lib.hid h
                       clear h)
                    | (go_at_call 13
                       refine (HDb.out.drew.docSend hm2 th).mono ?_
                       rintro e w2 ⟨rfl, h⟩
                       have ys2 := HS.out _ _ _ _ _ h
                       have HF := Lib.hid h
                       clear h)
                    | (go_at_call 12
                       refine (HF.out.send hm2 th).mono ?_
                       rintro e w3 ⟨rfl, h⟩
                       have ys3 := HS.out _ _ _ _ _ h
                       have HE0 := Lib.hid h
                       clear h)
                    | fail)
                all_goals
                  have HE : Hid (∃ (L2 : Nat → List Int) (C2 : Nat → Bool), Six w w3 [(gp, op), (gm, om)] p c b R L2 C2 L2 C2) := Lib.hid ⟨_, _, HE0.out.forget⟩
                  clear HE0
                  go_wp2_with fail
                  go_meet
                  exact HE
            · as_aux_lemma =>
                go_wp2_with fail
                refine (HDb.out.take hm2).mono ?_
                rintro e w2 ⟨rfl, h⟩
                rw [headOr_int]
                have ys2 := HS.out _ _ _ _ _ h
                have HG := Lib.hid h
                clear h
                go_wp2_with fail
                refine (HG.out.docTake hm2).mono ?_
                rintro e w3 ⟨rfl, h⟩
                rw [headOr_int]
                have HE0 := Lib.hid h
                clear h HG
                have HE : Hid (∃ (L2 : Nat → List Int) (C2 : Nat → Bool), Six w w3 [(gp, op), (gm, om)] p c b R L2 C2 L2 C2) := Lib.hid ⟨_, _, HE0.out.forget⟩
                clear HE0
                go_wp2_with fail
                go_meet
                exact HE
            · as_aux_lemma =>
                go_wp2_with fail
                go_region_held3 (fun u => u.cell? ⟨gp, m, none⟩ = some (ptr (p m)) ∧ u.cell? ⟨gp, n, none⟩ = some (ptr (p n)) ∧ u.cell? ⟨gm, m, none⟩ = some (ptr (b m)) ∧ u.cell? ⟨gm, n, none⟩ = some (ptr (b n)) ∧ u.cell? ⟨ob, 3, none⟩ = some (.int .i64 th)) (first | exact ys0 | assumption)
                  (first
                    | (go_at_call 16
                       refine (HDb.out.drew.close hm2).mono ?_
                       rintro e w2 ⟨rfl, h⟩
                       have ys2 := HS.out _ _ _ _ _ h
                       have HG := Lib.hid h
                       clear h)
                    | (go_at_call 17
                       refine (HG.out.docClose hm2).mono ?_
                       rintro e w3 ⟨rfl, h⟩
                       have ys3 := HS.out _ _ _ _ _ h
                       have HE0 := Lib.hid h
                       clear h)
                    | (go_at_call 17
                       refine (HDb.out.drew.docClose hm2).mono ?_
                       rintro e w2 ⟨rfl, h⟩
                       have ys2 := HS.out _ _ _ _ _ h
                       have HF := Lib.hid h
                       clear h)
                    | (go_at_call 16
                       refine (HF.out.close hm2).mono ?_
                       rintro e w3 ⟨rfl, h⟩
                       have ys3 := HS.out _ _ _ _ _ h
                       have HE0 := Lib.hid h
                       clear h)
                    | fail)
                all_goals
                  have HE : Hid (∃ (L2 : Nat → List Int) (C2 : Nat → Bool), Six w w3 [(gp, op), (gm, om)] p c b R L2 C2 L2 C2) := Lib.hid ⟨_, _, HE0.out.forget⟩
                  clear HE0
                  go_wp2_with fail
                  go_meet
                  exact HE
            · as_aux_lemma =>
                go_wp2_with fail
                go_region_held3 (fun u => u.cell? ⟨gp, m, none⟩ = some (ptr (p m)) ∧ u.cell? ⟨gp, n, none⟩ = some (ptr (p n)) ∧ u.cell? ⟨gm, m, none⟩ = some (ptr (b m)) ∧ u.cell? ⟨gm, n, none⟩ = some (ptr (b n)) ∧ u.cell? ⟨ob, 3, none⟩ = some (.int .i64 th)) (first | exact ys0 | assumption)
                  (first
                    | (go_at_call 18
                       refine (HDb.out.drew.either hm2 hn2).mono ?_
                       rintro e w2 ⟨rfl, h⟩
                       have ys2 := HS.out _ _ _ _ _ h
                       have HG := Lib.hid h
                       clear h)
                    | fail)
                go_wp2_with fail
                go_region_held3 (fun u => u.cell? ⟨gp, m, none⟩ = some (ptr (p m)) ∧ u.cell? ⟨gp, n, none⟩ = some (ptr (p n)) ∧ u.cell? ⟨gm, m, none⟩ = some (ptr (b m)) ∧ u.cell? ⟨gm, n, none⟩ = some (ptr (b n)) ∧ u.cell? ⟨ob, 3, none⟩ = some (.int .i64 th)) (first | exact ys2 | assumption)
                  (first
                    | (go_at_call 19
                       refine (HG.out.drew.docEither hm2 hn2).mono ?_
                       rintro e w3 ⟨rfl, h⟩
                       have ys3 := HS.out _ _ _ _ _ h
                       have HE0 := Lib.hid h
                       clear h)
                    | fail)
                have HE : Hid (∃ (L2 : Nat → List Int) (C2 : Nat → Bool), Six w w3 [(gp, op), (gm, om)] p c b R L2 C2 L2 C2) := Lib.hid ⟨_, _, HE0.out.forget⟩
                clear HE0 HG
                go_wp2_with fail
                go_meet
                exact HE
            · as_aux_lemma =>
                by_cases hmn : m = n
                rotate_left
                · go_wp2_with fail
                  go_region_held3 (fun u => u.cell? ⟨gp, m, none⟩ = some (ptr (p m)) ∧ u.cell? ⟨gp, n, none⟩ = some (ptr (p n)) ∧ u.cell? ⟨gm, m, none⟩ = some (ptr (b m)) ∧ u.cell? ⟨gm, n, none⟩ = some (ptr (b n)) ∧ u.cell? ⟨ob, 3, none⟩ = some (.int .i64 th)) (first | exact ys0 | assumption)
                  (first
                    | (go_at_call 20
                       refine (HDb.out.drew.docMove hm2 hn2 hmn).mono ?_
                       rintro e w2 ⟨rfl, h⟩
                       have ys2 := HS.out _ _ _ _ _ h
                       have HG := Lib.hid h
                       clear h)
                    | fail)
                  go_wp2_with fail
                  go_region_held3 (fun u => u.cell? ⟨gp, m, none⟩ = some (ptr (p m)) ∧ u.cell? ⟨gp, n, none⟩ = some (ptr (p n)) ∧ u.cell? ⟨gm, m, none⟩ = some (ptr (b m)) ∧ u.cell? ⟨gm, n, none⟩ = some (ptr (b n)) ∧ u.cell? ⟨ob, 3, none⟩ = some (.int .i64 th)) (first | exact ys2 | assumption)
                  (first
                    | (go_at_call 21
                       refine (HG.out.drew.move hm2 hn2 hmn).mono ?_
                       rintro e w3 ⟨rfl, h⟩
                       have ys3 := HS.out _ _ _ _ _ h
                       have HE0 := Lib.hid h
                       clear h)
                    | fail)
                  have HE : Hid (∃ (L2 : Nat → List Int) (C2 : Nat → Bool), Six w w3 [(gp, op), (gm, om)] p c b R L2 C2 L2 C2) := Lib.hid ⟨_, _, HE0.out.forget⟩
                  clear HE0 HG
                  go_wp2_with fail
                  go_meet
                  exact HE
                · subst hmn
                  go_wp2_with fail
                  go_region_held3 (fun u => u.cell? ⟨gp, m, none⟩ = some (ptr (p m)) ∧ u.cell? ⟨gp, m, none⟩ = some (ptr (p m)) ∧ u.cell? ⟨gm, m, none⟩ = some (ptr (b m)) ∧ u.cell? ⟨gm, m, none⟩ = some (ptr (b m)) ∧ u.cell? ⟨ob, 3, none⟩ = some (.int .i64 th)) (first | exact ys0 | assumption)
                    (first
                      | (go_at_call 21
                         refine (moveInt_same _ _).mono ?_
                         rintro e w3 ⟨rfl, rfl⟩
                         have ys3 := HS.out _ _ _ _ _ HDb.out.drew)
                      | fail)
                  have HE : Hid (∃ (L2 : Nat → List Int) (C2 : Nat → Bool), Six w wd.drew [(gp, op), (gm, om)] p c b R L2 C2 L2 C2) := Lib.hid ⟨_, _, HDb.out.drew.forget⟩
                  generalize wd.drew = w3 at HE ⊢
                  go_wp2_with fail
                  go_meet
                  exact HE
            · as_aux_lemma =>
                have HE : Hid (∃ (L2 : Nat → List Int) (C2 : Nat → Bool), Six w wd [(gp, op), (gm, om)] p c b R L2 C2 L2 C2) := Lib.hid ⟨_, _, HDb.out.forget⟩
                go_wp2_with fail
                go_meet
                exact HE
          case rest =>
            as_aux_lemma =>
              obtain ⟨L2, C2, hE⟩ := hcut.out
              have HE1 := Lib.hid hE
              clear hE hcut HDb HS y0 ys0 HD
              go_wp2_with fail
              go_loopw [24] (fun sq wt => ∃ q : Nat, q ≤ 3 ∧ sq = .int .i64 q ∧ Hid (Six w wt [(gp, op), (gm, om)] p c b R L2 C2 L2 C2)) (fun sq _ => 3 - (intOf sq).toNat)
              case atStart => exact ⟨0, by omega, rfl, HE1⟩
              case round =>
                obtain ⟨q, hq, rfl, HT⟩ := hrel
                obtain ⟨wt, rfl⟩ : ∃ wt, wt = wr := ⟨_, rfl⟩
                by_cases hlq : q < 3
                · have hlq' : (q : Int) < 3 := by omega
                  have z1 : wt.cell? ⟨gp, q, none⟩ = some (ptr (p q)) := HCP.out wt (HT.out.held (e := (gp, op)) (by simp)) q hlq
                  have z2 : wt.cell? ⟨gm, q, none⟩ = some (ptr (b q)) := HCM.out wt (HT.out.held (e := (gm, om)) (by simp)) q hlq
                  obtain ⟨ad, cd, z3⟩ := HT.out.docLen hlq
                  obtain ⟨nl, hnl⟩ : ∃ nl, (L2 q).length = nl := ⟨_, rfl⟩
                  rw [hnl] at z3
                  have HLen : Hid (∀ n, Calls Try.prog 22 #[ptr (p q)] (wt.drewN n) fun e w' => e = .returned (.int .i64 nl) ∧ w' = wt.drewN n) := Lib.hid (fun n => by
                    have := (HT.out.drewN n).len hlq
                    rwa [hnl] at this)
                  clear hnl
                  go_wp2_with fail
                  go_quiet ((go_at_call 22; exact Calls.quiet_of_same (HLen.out _)))
                  go_wp2
                  go_roundw
                  case rel => exact ⟨q + 1, by omega, by go_num, Lib.hid (HT.out.drewN _)⟩
                  case measure => simp [intOf]; omega
                · obtain rfl : q = 3 := by omega
                  go_wp2
                  go_roundw
                  case rel => exact ⟨k + 1, L2, C2, by omega, by omega, by go_num, HT⟩
                  case measure => simp [intOf]; omega
        · obtain ⟨we, rfl⟩ : ∃ we, we = wo := ⟨_, rfl⟩
          by_cases hkl : k < len
          · have hd : decide ((k : Int) < 300) = false := by rw [decide_eq_false_iff_not]; omega
            go_wp2_with fail
            refine (fixed_true we).mono ?_
            rintro e w9 ⟨rfl, ho⟩
            have H9 := Lib.hid (HD.out.old.trans (ho.mono HD.out.old.size))
            clear ho
            go_wp2_with fail
            go_ret
            exact ⟨rfl, H9.out⟩
          · have hd : decide ((k : Int) < (len : Int)) = false := by rw [decide_eq_false_iff_not]; omega
            go_wp2_with fail
            refine (fixed_true we).mono ?_
            rintro e w9 ⟨rfl, ho⟩
            have H9 := Lib.hid (HD.out.old.trans (ho.mono HD.out.old.size))
            clear ho
            go_wp2_with fail
            go_ret
            exact ⟨rfl, H9.out⟩

end Go.Proofs.Ytknjniadphoflaa
