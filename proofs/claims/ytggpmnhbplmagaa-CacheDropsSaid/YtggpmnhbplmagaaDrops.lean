/-
  CacheDrops (stillagelaw04): the walk.
-/
import Derived.Test.YtggpmnhbplmagaaSole
import Derived.Test.YtggpmnhbplmagaaFound
namespace Go.Proofs.Ytggpmnhbplmagaa
open Go.RowKit Go.Conc

section
variable {K V : Type} [DecidableEq K]
theorem look_without (k : K) (L : List (K × V)) : look k (without k L) = none := look_none_of fun _ hp => without_keys _ hp
theorem used_without (k : K) (L : List (K × V)) : used k (without k L) = without k L := by simp [used, look_without]
theorem without_take_in {k : K} {L : List (K × V)} {j : Nat} {p : K × V} (h : L[j]? = some p) (hp : p.1 = k) : without k (L.take (j + 1)) = without k (L.take j) := by
  rw [List.take_add_one, h, without_append]; simp [without, hp]
theorem without_take_out {k : K} {L : List (K × V)} {j : Nat} {p : K × V} (h : L[j]? = some p) (hp : p.1 ≠ k) : without k (L.take (j + 1)) = without k (L.take j) ++ [p] := by
  rw [List.take_add_one, h, without_append]; simp [without, hp]
end

set_option maxRecDepth 4000 in
set_option maxHeartbeats 400000 in
theorem drops_no (n : Int) (v : Value) (d : Int) (w : World) (h' : n < 1 ∨ 65536 < n) : Calls Try.prog 8 #[.int .i64 n, v, .int .i64 d] w fun e w' => e = .returned (.bool true) ∧ Below w.heap.size w w' := by
  have HN := Lib.hid (newIS_no n h' w)
  clear h'
  go_enter Try.func8, Try.ntmps8
  go_wp2_with fail
  refine HN.out.mono ?_
  rintro e w1 ⟨rfl, rfl⟩
  go_wp2_with fail
  refine (fixed_true w1).mono ?_
  rintro e w2 ⟨rfl, ho⟩
  have H2 := Lib.hid ho
  clear ho
  go_wp2_with fail
  go_ret
  exact ⟨rfl, H2.out⟩

set_option maxRecDepth 4000 in
set_option maxHeartbeats 4000000 in
theorem drops_yes (room : Nat) (v : Value) (xs : List Int) (d : Int) (w : World) (h1 : 1 ≤ room) (h2 : room ≤ 65536) (hxs : IntsIn w v xs) :
    Calls Try.prog 8 #[.int .i64 room, v, .int .i64 d] w fun e w' => e = .returned (.bool true) ∧ Below w.heap.size w w' := by
  obtain ⟨i0, hi0, hz0, hz1, hz2⟩ := info_parts infoKIS
  obtain ⟨ao, cap, rfl, hm, hx⟩ := hxs
  obtain ⟨len, hlen⟩ : ∃ len, xs.length = len := ⟨_, rfl⟩
  rw [hlen] at hm hx ⊢
  have HX := Lib.hid hx
  have HL := Lib.hid hlen
  clear hx hlen
  have HN := Lib.hid (One.new room (by omega) (by omega) w)
  go_enter Try.func8, Try.ntmps8
  go_wp2_with fail
  refine HN.out.mono ?_
  rintro e w1 ⟨rfl, h⟩
  obtain ⟨c, hc⟩ : ∃ c, c = w.heap.size + 2 := ⟨_, rfl⟩
  rw [← hc] at h ⊢
  rw [Int.toNat_natCast] at h
  have H0 := Lib.hid h.sole
  clear h hc HN
  go_wp2_with fail
  go_loopw [9] (fun i wr => ∃ (k : Nat) (L : List (Int × ByteArray)), k ≤ len ∧ k ≤ 300 ∧ i = .int .i64 k ∧ Hid (Sole w wr [] c room L)) (fun i _ => 300 - (intOf i).toNat)
  case atStart => exact ⟨0, [], Nat.zero_le _, by omega, rfl, H0⟩
  case round =>
    obtain ⟨k, L, hk, hk3, rfl, HD⟩ := hrel
    obtain ⟨wk, rfl⟩ : ∃ wk, wk = wr := ⟨_, rfl⟩
    by_cases hlt : k < len ∧ k < 300
    · obtain ⟨ht, hf⟩ := hlt
      obtain ⟨b, off, hao, hcell⟩ := HX.out (by omega)
      subst hao
      obtain ⟨z, hz⟩ : ∃ z, xs.getD k 0 = z := ⟨_, rfl⟩
      have x0 := hcell k (by omega)
      rw [hz] at x0
      clear hcell hz
      have x0 : wk.cell? ⟨b, off + k, none⟩ = some (.int .i64 z) := (HD.out.below.cell (p := ⟨b, off + k, none⟩) (World.block_lt_of_cell? _ _ x0)).trans x0
      have p0 : (0 : Int) ≤ (k : Int) := by omega
      have hkl : (k : Int) < (len : Int) := by omega
      have hk300 : (k : Int) < 300 := by omega
      go_wp2_with fail
      refine (HD.out.put z _).mono ?_
      rintro e w2 ⟨rfl, h⟩
      have HE := Lib.hid h
      clear h
      generalize putIn room z _ L = N at HE
      go_wp2_with fail
      go_roundw
      case rel => exact ⟨k + 1, N, by omega, by omega, by go_num, HE⟩
      case measure => simp [intOf]; omega
    · have hcases : (k < len ∧ decide ((k : Int) < 300) = false) ∨ (¬ k < len ∧ decide ((k : Int) < (len : Int)) = false) := by
        by_cases hkl : k < len
        · exact .inl ⟨hkl, by rw [decide_eq_false_iff_not]; omega⟩
        · exact .inr ⟨hkl, by rw [decide_eq_false_iff_not]; omega⟩
      obtain ⟨m, hml⟩ : ∃ m, L.length = m := ⟨_, rfl⟩
      obtain ⟨m', hml'⟩ : ∃ m', (without d L).length = m' := ⟨_, rfl⟩
      have hmb : m ≤ 65536 := by have := HD.out.good; omega
      have hmb' : m' ≤ m := by rw [← hml, ← hml']; exact List.length_filter_le ..
      have HM := Lib.hid (And.intro hml hml')
      clear hml hml'
      rcases hcases with ⟨hkl, hd⟩ | ⟨hkl, hd⟩
      all_goals
        go_wp2_with fail
        refine HD.out.keys.mono ?_
        rintro e w3 ⟨v1, rfl, hown1, hb1⟩
        rw [HM.out.1] at hown1
        obtain ⟨ao1, cap1, rfl⟩ := shape_of hown1
        have hrow : ∃ ex, Sole w w3 ex c room L ∧ (0 < m → ∃ g1 cur1, ao1 = some ⟨g1, 0, none⟩ ∧ (g1, Obj.cells cur1 3 (0, 0)) ∈ ex ∧ ∀ j, j < m → cur1[j]? = ((L.map (·.1)).map (Value.int .i64))[j]?) := by
          obtain ⟨ex, he, hc⟩ := HD.out.rows hb1 hown1 hown1
          refine ⟨ex, he, fun h0 => ?_⟩
          obtain ⟨g1, cur1, _, _, ha1, _, hm1, _, hcur⟩ := hc h0
          exact ⟨g1, cur1, ha1, hm1, fun j hj => (hcur j hj).1⟩
        obtain ⟨ex, hex, hcells⟩ := hrow
        have H3 := Lib.hid (And.intro hex hcells)
        clear hown1 hb1 hex hcells
        go_wp2_with fail
        refine (H3.out.1.drop d).mono ?_
        rintro e w4 ⟨rfl, h⟩
        have H4 := Lib.hid h
        clear h
        obtain ⟨th, hth⟩ : ∃ th, (look d L).isSome = th := ⟨_, rfl⟩
        rw [hth]
        have HTH := Lib.hid hth
        clear hth
        go_wp2_with fail
        refine (H4.out.get d).mono ?_
        rintro e w5 ⟨rfl, h⟩
        rw [used_without] at h
        rw [look_without]
        simp only [Option.getD_none, Option.isSome_none]
        have H5 := Lib.hid h
        clear h
        go_wp2_with fail
        refine H5.out.keys.mono ?_
        rintro e w6 ⟨v2, rfl, hown2, hb2⟩
        rw [HM.out.2] at hown2
        obtain ⟨ao2, cap2, rfl⟩ := shape_of hown2
        have H6 := Lib.hid (And.intro (H5.out.kept hb2) hown2)
        clear hown2 hb2
        go_wp2_with fail
        go_loopw [15, 16, 17] (fun v f i wr => ∃ k2 : Nat, k2 ≤ m ∧ i = .int .i64 k2 ∧ f = .bool (look d (L.take k2)).isSome ∧ Hid (wr.ownsRow w6.heap.size 3 1 v (without d (L.take k2)).length ((without d (L.take k2)).map fun p => .int .i64 p.1) ∧ Below w6.heap.size w6 wr)) (fun _ _ i _ => m - (intOf i).toNat)
        case atStart =>
          exact ⟨0, Nat.zero_le _, rfl, by simp [look], Lib.hid ⟨⟨rfl, .inr ⟨w6.heap.size, 0, #[], rfl, Nat.le_refl _, alloc_at w6 _, Nat.le_refl _, Nat.zero_le _, rfl, rfl⟩⟩, (Below.refl _ _).alloc (Nat.le_refl _) _⟩⟩
        case round =>
          obtain ⟨j, hj, rfl, rfl, HB⟩ := hrel
          obtain ⟨wi, rfl⟩ : ∃ wi, wi = wr := ⟨_, rfl⟩
          obtain ⟨q, hq⟩ : ∃ q, (without d (L.take j)).length = q := ⟨_, rfl⟩
          have hw := HB.out.1
          rw [hq] at hw
          obtain ⟨aw, cw, rfl⟩ := shape_of hw
          have hqm : q ≤ m := by
            have h1 : q ≤ (L.take j).length := by rw [← hq]; exact List.length_filter_le ..
            rw [List.length_take] at h1
            omega
          have HW := Lib.hid (And.intro hw hq)
          clear hw hq
          by_cases hjm : j < m
          · obtain ⟨g1, cur1, ha1, hm1, hcur⟩ := H3.out.2 (by omega)
            subst ha1
            obtain ⟨y, hy⟩ : ∃ y, L[j]? = some y := ⟨L[j]'(by have := HM.out.1; omega), List.getElem?_eq_getElem _⟩
            have hc1 := hcur j hjm
            rw [List.getElem?_map, List.getElem?_map, hy] at hc1
            have hsucc := look_take_succ d L j y hy
            obtain ⟨y1, hy1⟩ : ∃ y1, y.1 = y1 := ⟨_, rfl⟩
            rw [hy1] at hsucc
            rw [Option.map_some, Option.map_some, hy1] at hc1
            have u1 : wi.cell? ⟨g1, j, none⟩ = some (.int .i64 y1) := by rw [cell_of ((H6.out.1.kept HB.out.2).held hm1), hc1]
            have HY := Lib.hid (And.intro hy hy1)
            have HT := Lib.hid hsucc
            clear hm1 hcur hc1 hy hy1 hsucc
            have j0 : (0 : Int) ≤ (j : Int) := by omega
            have j1 : (j : Int) < (m : Int) := by omega
            by_cases hyd : y1 = d
            · subst hyd
              go_wp2_with fail
              go_roundw
              case rel =>
                refine ⟨j + 1, by omega, by go_num, by rw [HT.out]; simp, ?_⟩
                rw [without_take_in HY.out.1 HY.out.2]
                exact Lib.hid ⟨by rw [HW.out.2]; exact HW.out.1, HB.out.2⟩
              case measure => simp [intOf]; omega
            · have hne : (y1 == d) = false := by simp [hyd]
              have hsrc1 : SrcIs (wi.alloc (.cells #[.int .i64 y1] 3)) 1 (.slice (some ⟨wi.heap.size, 0, none⟩) 1 1) 1 [.int .i64 y1] :=
                SrcIs.of_owns (base := 0) (e := 3) ⟨rfl, .inr ⟨wi.heap.size, 1, #[.int .i64 y1], rfl, Nat.zero_le _, alloc_at wi _, Nat.le_refl _, by unfold maxLen; omega, rfl, rfl⟩⟩ (by intro u hu; simp at hu; subst hu; rfl)
              have hown0 : (wi.alloc (.cells #[.int .i64 y1] 3)).ownsRow w6.heap.size 3 1 (.slice aw q cw) q ((without d (L.take j)).map fun p => .int .i64 p.1) := HW.out.1.alloc _
              have HA := Lib.hid (And.intro hsrc1 hown0)
              clear hsrc1 hown0
              go_wp2_with (at_builtin; refine wpList_append_src _ rfl (.tmp 77) (.tmp 82) 27 rfl w6.heap.size 3 i0 (.int .i64 0) 1 8 Try.underlying27 hi0 hz0 hz1 hz2 rfl (by decide) (.slice aw q cw) q _ rfl HA.out.2 (.slice (some ⟨wi.heap.size, 0, none⟩) 1 1) 1 [.int .i64 y1] rfl HA.out.1 ?c1 ?c2 ?c3 ?_)
              case c1 => unfold maxLen; omega
              case c2 => omega
              case c3 => have := HB.out.2.size; simp; omega
              · intro v' w7 hown' hgrow' _
                obtain ⟨aw', cw', rfl⟩ := shape_of hown'
                have HC := Lib.hid (And.intro hown' ((HB.out.2.alloc HB.out.2.size _).grown hgrow' (by have := HB.out.2.size; simp; omega) (fun k hk => (HW.out.1.lt k hk).1)))
                clear hown' hgrow'
                go_wp2
                go_roundw
                case rel =>
                  refine ⟨j + 1, by omega, by go_num, by rw [HT.out]; simp [hyd], ?_⟩
                  rw [without_take_out HY.out.1 (by rw [HY.out.2]; exact hyd), List.length_append, List.map_append, HW.out.2]
                  exact Lib.hid ⟨by simpa [HY.out.2] using HC.out.1, HC.out.2⟩
                case measure => simp [intOf]; omega
          · obtain rfl : m = j := by omega
            have hwant : wi.ownsRow w6.heap.size 3 1 (.slice aw q cw) q ((without d L).map fun p => .int .i64 p.1) := by
              have := HW.out.1
              rwa [show L.take m = L by rw [← HM.out.1, List.take_length]] at this
            have hqm' : q = m' := by
              rw [← HW.out.2, ← HM.out.2, show L.take m = L by rw [← HM.out.1, List.take_length]]
            rw [show L.take m = L by rw [← HM.out.1, List.take_length], HTH.out]
            have hnow : wi.ownsRow w5.heap.size 3 1 (.slice ao2 m' cap2) m' (((without d L).map (·.1)).map (Value.int .i64)) := owns_kept H6.out.2 (Kept.of_below HB.out.2 (fun _ => False)) (fun _ _ h => h)
            have H7 := Lib.hid (And.intro hwant hnow)
            have HS7 := Lib.hid (H6.out.1.kept HB.out.2)
            clear hwant hnow HW HB
            subst hqm'
            go_wp2_with fail
            go_loopw [18] (fun i wz => ∃ k3 : Nat, k3 ≤ q ∧ i = .int .i64 k3 ∧ Hid (Below wi.heap.size wi wz)) (fun i _ => q - (intOf i).toNat)
            case atStart => exact ⟨0, Nat.zero_le _, rfl, Lib.hid (Below.refl _ _)⟩
            case round =>
              obtain ⟨j, hj, rfl, HB⟩ := hrel
              obtain ⟨wz, rfl⟩ : ∃ wz, wz = wr := ⟨_, rfl⟩
              by_cases hjm : j < q
              · obtain ⟨e1, c1, hv1, _, hl1⟩ := owns_form H7.out.1 (by omega)
                simp only [Value.slice.injEq, true_and] at hv1
                obtain ⟨rfl, rfl⟩ := hv1
                obtain ⟨e2, c2, hv2, _, hl2⟩ := owns_form H7.out.2 (by omega)
                simp only [Value.slice.injEq, true_and] at hv2
                obtain ⟨rfl, rfl⟩ := hv2
                obtain ⟨y, hy⟩ : ∃ y, (without d L)[j]? = some y := ⟨(without d L)[j]'(by have := HM.out.2; omega), List.getElem?_eq_getElem _⟩
                obtain ⟨y1, hy1⟩ : ∃ y1, y.1 = y1 := ⟨_, rfl⟩
                have u1 : wz.cell? ⟨e1, j, none⟩ = some (.int .i64 y1) := by
                  rw [HB.out.cell (p := ⟨e1, j, none⟩) hl1, H7.out.1.cellAt j (by omega), List.getElem?_map, hy, ← hy1]; rfl
                have u2 : wz.cell? ⟨e2, j, none⟩ = some (.int .i64 y1) := by
                  rw [HB.out.cell (p := ⟨e2, j, none⟩) hl2, H7.out.2.cellAt j (by omega), List.getElem?_map, List.getElem?_map, hy, ← hy1]; rfl
                clear hy hy1 hl1 hl2
                have j0 : (0 : Int) ≤ (j : Int) := by omega
                have j1 : (j : Int) < (q : Int) := by omega
                go_wp2_with fail
                go_quiet (fail)
                go_wp2
                go_roundw
                case rel => exact ⟨j + 1, by omega, by go_num, Lib.hid (below_drewN HB.out _)⟩
                case measure => simp [intOf]; omega
              · obtain rfl : q = j := by omega
                go_wp2_with fail
                refine (fixed_true wz).mono ?_
                rintro e w9 ⟨rfl, ho⟩
                have H9 := Lib.hid ((HS7.out.kept HB.out).below.trans (ho.mono (HS7.out.kept HB.out).below.size))
                clear ho
                go_wp2_with fail
                go_ret
                exact ⟨rfl, H9.out⟩

theorem drops_walk (n : Int) (v : Value) (xs : List Int) (d : Int) (w : World) (hxs : IntsIn w v xs) :
    Calls Try.prog 8 #[.int .i64 n, v, .int .i64 d] w fun e w' => e = .returned (.bool true) ∧ Below w.heap.size w w' := by
  by_cases h : 1 ≤ n ∧ n ≤ 65536
  · obtain ⟨room, rfl⟩ : ∃ room : Nat, n = room := ⟨n.toNat, by omega⟩
    exact drops_yes room v xs d w (by omega) (by omega) hxs
  · exact drops_no n v d w (by omega)

end Go.Proofs.Ytggpmnhbplmagaa
