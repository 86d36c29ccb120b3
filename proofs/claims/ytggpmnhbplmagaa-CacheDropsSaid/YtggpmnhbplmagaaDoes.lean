/-
  CacheDoes (stillagelaw04): the walk.
-/
import Derived.Test.YtggpmnhbplmagaaOps
import Derived.Deep.RegionHeld3
import Derived.Deep.Cut
namespace Go.Proofs.Ytggpmnhbplmagaa
open Go.RowKit Go.Conc

theorem same_yes {w : World} {v v' : Value} {xs : List Int} (h : IntsIn w v xs) (h' : IntsIn w v' xs) :
    Calls Try.prog 18 #[v, v'] w fun e w' => e = .returned (.bool true) ∧ Below w.heap.size w w' :=
  (same w v v' xs xs h h').mono fun _ _ ⟨he, n, hn⟩ => ⟨by rw [he, decide_eq_true rfl], by subst hn; exact below_drewN (Below.refl _ _) n⟩

theorem IntsIn.below {w w' : World} {base : Nat} {v : Value} {n : Nat} {xs : List Int} (hn : n = xs.length) (h : w.ownsRow base 3 1 v n (xs.map (Value.int .i64))) (hb : Below w.heap.size w w') : IntsIn w' v xs :=
  .of_owns hn (owns_kept h (Kept.of_below hb (fun _ => False)) (fun _ _ h => h))

/-- The array behind a slice that the call owns. -/
theorem rowOf {w : World} {base m cap : Nat} {ao : Option Addr} {xs : List Value} (h : w.ownsRow base 3 1 (.slice ao m cap) m xs) :
    ∃ g, 0 < m → ao = some ⟨g, 0, none⟩ ∧ base ≤ g ∧ ∃ cur : Array Value, w.heap[g]? = some (.cells cur 3 (0, 0)) ∧ m ≤ cur.size := by
  rcases h.2 with ⟨hv, h0⟩ | ⟨g, cap', cur, hv, hb, hg, hc, hm, hcs, _⟩
  · exact ⟨0, fun h => by omega⟩
  · simp only [Value.slice.injEq] at hv
    exact ⟨g, fun _ => ⟨hv.1, hb, cur, hg, by omega⟩⟩

theorem orZeroS (o : Option ByteArray) : orZero Value.string (.string ⟨#[]⟩) o = .string (o.getD ⟨#[]⟩) := by cases o <;> rfl
theorem orZeroI (o : Option Int) : orZero (Value.int .i64) (.int .i64 0) o = .int .i64 (o.getD 0) := by cases o <;> rfl

theorem Duo.start {w0 w : World} {c room : Nat} (h : One w0 w c room []) : Duo w0 (w.alloc (.cells #[.int .i64 room, .slice none 0 0] 34)) [] c w.heap.size room [] [] := by
  obtain ⟨own, hc, ho, hb⟩ := h
  refine ⟨own, [w.heap.size], hc.kept ((Kept.refl (fun _ => False) w).alloc _) (fun _ _ h => h), ⟨_, ⟨alloc_at w _, ⟨rfl, .inl ⟨rfl, rfl⟩⟩, by simp⟩, rfl⟩, ho, fun b hb' => ?_, fun b hb' hb'' => ?_, (fun p hp => by cases hp), hb.alloc hb.size _⟩
  · rw [List.mem_singleton] at hb'; subst hb'; exact hb.size
  · rw [List.mem_singleton] at hb''; subst hb''; have := hc.lt _ hb'; omega

set_option maxHeartbeats 400000 in
theorem does_no (n : Int) (v : Value) (w : World) (h' : n < 1 ∨ 65536 < n) : Calls Try.prog 4 #[.int .i64 n, v] w fun e w' => e = .returned (.bool true) ∧ Below w.heap.size w w' := by
  have HN := Lib.hid (newIS_no n h' w)
  rcases h' with h' | h'
  · go_enter Try.func4, Try.ntmps4
    go_wp2_with fail
    refine HN.out.mono ?_
    rintro e w1 ⟨rfl, rfl⟩
    go_wp2_with fail
    refine (fixed_true w1).mono ?_
    rintro e w2 ⟨rfl, ho⟩
    have H2 := Lib.hid ho
    clear ho
    go_wp2_with fail
    go_ret
    exact ⟨rfl, H2.out⟩
  · have hd : decide (n < 1) = false := by simp; omega
    go_enter Try.func4, Try.ntmps4
    go_wp2_with fail
    refine HN.out.mono ?_
    rintro e w1 ⟨rfl, rfl⟩
    go_wp2_with fail
    refine (fixed_true w1).mono ?_
    rintro e w2 ⟨rfl, ho⟩
    have H2 := Lib.hid ho
    clear ho
    go_wp2_with fail
    go_ret
    exact ⟨rfl, H2.out⟩

set_option maxRecDepth 4000 in
set_option maxHeartbeats 4000000 in
theorem does_yes (room : Nat) (v : Value) (ops : List (Int × Int × ByteArray)) (w : World) (h1 : 1 ≤ room) (h2 : room ≤ 65536) (hops : OpsIn w v ops) :
    Calls Try.prog 4 #[.int .i64 room, v] w fun e w' => e = .returned (.bool true) ∧ Below w.heap.size w w' := by
  obtain ⟨ao, cap, rfl, hm, hx⟩ := hops
  obtain ⟨len, hlen⟩ : ∃ len, ops.length = len := ⟨_, rfl⟩
  rw [hlen] at hm hx ⊢
  have HX := Lib.hid hx
  have HL := Lib.hid hlen
  clear hx hlen
  have HN := Lib.hid (One.new room (by omega) (by omega) w)
  go_enter Try.func4, Try.ntmps4
  go_wp2_with fail
  refine HN.out.mono ?_
  rintro e w1 ⟨rfl, h⟩
  obtain ⟨c, hc⟩ : ∃ c, c = w.heap.size + 2 := ⟨_, rfl⟩
  rw [← hc] at h ⊢
  rw [Int.toNat_natCast] at h
  have H0 := Lib.hid (Duo.start h)
  clear h hc HN
  go_wp2_with fail
  obtain ⟨rb, hrb⟩ : ∃ rb, rb = w1.heap.size := ⟨_, rfl⟩
  rw [← hrb] at H0 ⊢
  clear hrb
  generalize w1.alloc _ = ws at H0 ⊢
  go_loopw [8] (fun i wr => ∃ (k : Nat) (L : List (Int × ByteArray)), k ≤ len ∧ k ≤ 300 ∧ i = .int .i64 k ∧ Hid (Duo w wr [] c rb room L L)) (fun i _ => 300 - (intOf i).toNat)
  case atStart => exact ⟨0, [], Nat.zero_le _, by omega, rfl, H0⟩
  case round =>
    obtain ⟨k, L, hk, hk3, rfl, HD⟩ := hrel
    by_cases hlt : k < len ∧ k < 300
    · obtain ⟨ht, hf⟩ := hlt
      obtain ⟨b, off, hao, hcell⟩ := HX.out (by omega)
      obtain ⟨kd, n, s, hop, x0, x1, x2⟩ := hcell k ht
      clear hcell hop
      subst hao
      have hbl := World.block_lt_of_cell? _ _ x0
      have x0 : wr.cell? ⟨b, off + k * 3, none⟩ = some (.int .i64 kd) := (HD.out.below.cell (p := ⟨b, off + k * 3, none⟩) hbl).trans x0
      have x1 : wr.cell? ⟨b, off + k * 3 + 1, none⟩ = some (.int .i64 n) := (HD.out.below.cell (p := ⟨b, off + k * 3 + 1, none⟩) hbl).trans x1
      have x2 : wr.cell? ⟨b, off + k * 3 + 2, none⟩ = some (.string s) := (HD.out.below.cell (p := ⟨b, off + k * 3 + 2, none⟩) hbl).trans x2
      have hkl : (k : Int) < (len : Int) := by omega
      have hk300 : (k : Int) < 300 := by omega
      have hnd := Lib.hid HD.out.good
      have HDa := Lib.hid (HD.out.alloc (.cells #[.int .i64 kd, .int .i64 n, .string s] 36))
      rcases (show kd = 0 ∨ kd = 1 ∨ kd = 2 ∨ ((kd == 0) = false ∧ (kd == 1) = false ∧ (kd == 2) = false) by simp; omega) with rfl | rfl | rfl | ⟨n0, n1, n2⟩
      focus
        go_wp2_with fail
        refine (HDa.out.get n).mono ?_
        rintro e w2 ⟨rfl, h⟩
        rw [orZeroS]
        have hb := h.held (List.mem_singleton_self _)
        have y1 : w2.cell? ⟨wr.heap.size, 1, none⟩ = some (.int .i64 n) := by rw [cell_of hb]; rfl
        have HG := Lib.hid h
        clear h hb
        go_wp2_with fail
        refine (HG.out.refGet hnd.out.1 n).mono ?_
        rintro e w3 ⟨rfl, h⟩
        have HE := Lib.hid h.forget
        clear h HG y1
        generalize used n L = M at HE
        go_wp2_with fail
      rotate_left
      focus
        go_wp2_with fail
        refine (HDa.out.put n s).mono ?_
        rintro e w2 ⟨rfl, h⟩
        rw [orZeroI]
        have hb := h.held (List.mem_singleton_self _)
        have y1 : w2.cell? ⟨wr.heap.size, 1, none⟩ = some (.int .i64 n) := by rw [cell_of hb]; rfl
        have y2 : w2.cell? ⟨wr.heap.size, 2, none⟩ = some (.string s) := by rw [cell_of hb]; rfl
        have HG := Lib.hid h
        clear h hb
        go_wp2_with fail
        refine (HG.out.refPut hnd.out.1 hnd.out.2.1 h1 h2 n s).mono ?_
        rintro e w3 ⟨rfl, h⟩
        rw [orZeroI]
        have HE := Lib.hid h.forget
        clear h HG y1 y2
        generalize putIn room n s L = M at HE
        go_wp2_with fail
      rotate_left
      focus
        have y0 : (wr.alloc (.cells #[.int .i64 2, .int .i64 n, .string s] 36)).cell? ⟨wr.heap.size, 1, none⟩ = some (.int .i64 n) := by
          rw [cell_of (HDa.out.held (List.mem_singleton_self _))]; rfl
        go_wp2_with fail
        go_region_held3 (fun u => u.cell? ⟨wr.heap.size, 1, none⟩ = some (.int .i64 n)) (first | exact y0 | assumption)
          (first
            | (go_at_call 16
               refine (HDa.out.drew.drop n).mono ?_
               rintro e w2 ⟨rfl, h⟩
               have y1 : w2.cell? ⟨wr.heap.size, 1, none⟩ = some (.int .i64 n) := by rw [cell_of (h.held (List.mem_singleton_self _))]; rfl
               have HG := Lib.hid h
               clear h)
            | (go_at_call 17
               refine (HG.out.refDrop hnd.out.1 n).mono ?_
               rintro e w3 ⟨rfl, h⟩
               have y2 : w3.cell? ⟨wr.heap.size, 1, none⟩ = some (.int .i64 n) := by rw [cell_of (h.held (List.mem_singleton_self _))]; rfl
               have HE := Lib.hid h.forget
               clear h)
            | (go_at_call 17
               refine (HDa.out.drew.refDrop hnd.out.1 n).mono ?_
               rintro e w2 ⟨rfl, h⟩
               have y1 : w2.cell? ⟨wr.heap.size, 1, none⟩ = some (.int .i64 n) := by rw [cell_of (h.held (List.mem_singleton_self _))]; rfl
               have HF := Lib.hid h
               clear h)
            | (go_at_call 16
               refine (HF.out.drop n).mono ?_
               rintro e w3 ⟨rfl, h⟩
               have y2 : w3.cell? ⟨wr.heap.size, 1, none⟩ = some (.int .i64 n) := by rw [cell_of (h.held (List.mem_singleton_self _))]; rfl
               have HE := Lib.hid h.forget
               clear h)
            | fail)
        all_goals
          generalize without n L = M at HE
          go_wp2_with fail
      rotate_left
      focus
        have HE := Lib.hid HDa.out.forget
        generalize L = M at HE
        go_wp2_with fail
        generalize wr.alloc (.cells #[.int .i64 kd, .int .i64 n, .string s] 36) = w3 at HE ⊢
      all_goals
        go_loopw [18] (fun i wt => ∃ q : Nat, q ≤ 2 ∧ i = .int .i64 q ∧ Hid (Duo w wt [] c rb room M M)) (fun i _ => 2 - (intOf i).toNat)
        case atStart => exact ⟨0, by omega, rfl, HE⟩
        case round =>
          obtain ⟨q, hq, rfl, HT⟩ := hrel
          by_cases hlq : q < 2
          · obtain ⟨wt, rfl⟩ : ∃ wt, wt = wr := ⟨_, rfl⟩
            go_wp2_with fail
            refine HT.out.keys.mono ?_
            rintro e w4 ⟨v1, rfl, hown1, hb1⟩
            obtain ⟨m, hml⟩ : ∃ m, M.length = m := ⟨_, rfl⟩
            rw [hml] at hown1
            obtain ⟨ao1, cap1, rfl⟩ := shape_of hown1
            have hmb : m ≤ 65536 := by have := HT.out.good; omega
            have HM := Lib.hid hml
            have HO1 := Lib.hid (And.intro hown1 hb1)
            clear hown1 hb1 hml
            go_wp2_with fail
            refine (HT.out.kept HO1.out.2).refKeys.mono ?_
            rintro e w5 ⟨v2, rfl, hown2, hb2⟩
            rw [HM.out] at hown2
            obtain ⟨ao2, cap2, rfl⟩ := shape_of hown2
            have HO2 := Lib.hid (And.intro hown2 hb2)
            clear hown2 hb2
            go_wp2_with fail
            have hi1 := IntsIn.below (by rw [List.length_map, HM.out]) HO1.out.1 HO2.out.2
            have hi2 := IntsIn.below (by rw [List.length_map, HM.out]) HO2.out.1 (Below.refl _ _)
            refine (same_yes hi1 hi2).mono ?_
            clear hi1 hi2
            rintro e w6 ⟨rfl, hb3⟩
            have hbt : Below wt.heap.size wt w6 := HO1.out.2.trans ((HO2.out.2.trans (hb3.mono HO2.out.2.size)).mono HO1.out.2.size)
            have hrow : ∃ g, 0 < m → ao1 = some ⟨g, 0, none⟩ ∧ wt.heap.size ≤ g ∧ ∃ cur : Array Value, w6.heap[g]? = some (.cells cur 3 (0, 0)) ∧ m ≤ cur.size := by
              obtain ⟨g, hg⟩ := rowOf HO1.out.1
              refine ⟨g, fun h0 => ?_⟩
              obtain ⟨ha, hb, cur, hc, hs⟩ := hg h0
              exact ⟨ha, hb, cur, ((HO2.out.2.trans (hb3.mono HO2.out.2.size)).block g (lt_of_block hc)).trans hc, hs⟩
            obtain ⟨g, hg⟩ := hrow
            have HR := Lib.hid (And.intro hbt hg)
            clear hbt hg hb3
            go_wp2_with fail
            go_loopw [20] (fun j wj => ∃ p : Nat, p ≤ m ∧ j = .int .i64 p ∧ Hid (Below wt.heap.size wt wj ∧ (0 < m → ao1 = some ⟨g, 0, none⟩ ∧ wt.heap.size ≤ g ∧ ∃ cur : Array Value, wj.heap[g]? = some (.cells cur 3 (0, 0)) ∧ m ≤ cur.size))) (fun j _ => m - (intOf j).toNat)
            case atStart => exact ⟨0, by omega, rfl, HR⟩
            case round =>
              obtain ⟨p, hp, rfl, HJ⟩ := hrel
              obtain ⟨wj, rfl⟩ : ∃ wj, wj = wr := ⟨_, rfl⟩
              by_cases hlp : p < m
              · obtain ⟨ha, hgb, cur, hgc, hcs⟩ := HJ.out.2 (by omega)
                subst ha
                obtain ⟨u, z1⟩ : ∃ u, wj.cell? ⟨g, p, none⟩ = some u := ⟨cur[p]'(by omega), by rw [cell_of hgc]; exact Array.getElem?_eq_getElem (by omega)⟩
                have z2 : wj.frozen? ⟨g, p, none⟩ = false := free_of hgc p
                have HK := Lib.hid (And.intro hgb (And.intro hgc hcs))
                clear hgb hgc hcs
                go_wp2
                go_roundw
                case rel =>
                  obtain ⟨hgb, hgc, hcs⟩ := HK.out
                  refine ⟨p + 1, by omega, by go_num, ?_⟩
                  exact Lib.hid ⟨HJ.out.1.setCell (p := ⟨g, p, none⟩) hgb _, fun _ => ⟨trivial, hgb, _, by simpa using setCell_at hgc p (.int .i64 (-1)), by simpa using hcs⟩⟩
                case measure => simp [intOf]; omega
              · obtain rfl : p = m := by omega
                go_wp2
                go_roundw
                case rel => exact ⟨q + 1, by omega, by go_num, Lib.hid (HT.out.kept HJ.out.1)⟩
                case measure => simp [intOf]; omega
          · obtain rfl : q = 2 := by omega
            obtain ⟨wt, rfl⟩ : ∃ wt, wt = wr := ⟨_, rfl⟩
            go_wp2
            go_roundw
            case rel => exact ⟨k + 1, M, by omega, by omega, by go_num, HT⟩
            case measure => simp [intOf]; omega
    · obtain ⟨we, rfl⟩ : ∃ we, we = wr := ⟨_, rfl⟩
      by_cases hkl : k < len
      · have hd : decide ((k : Int) < 300) = false := by rw [decide_eq_false_iff_not]; omega
        go_wp2_with fail
        refine (fixed_true we).mono ?_
        rintro e w9 ⟨rfl, ho⟩
        have H9 := Lib.hid (HD.out.below.trans (ho.mono HD.out.below.size))
        clear ho
        go_wp2_with fail
        go_ret
        exact ⟨rfl, H9.out⟩
      · have hd : decide ((k : Int) < (len : Int)) = false := by rw [decide_eq_false_iff_not]; omega
        go_wp2_with fail
        refine (fixed_true we).mono ?_
        rintro e w9 ⟨rfl, ho⟩
        have H9 := Lib.hid (HD.out.below.trans (ho.mono HD.out.below.size))
        clear ho
        go_wp2_with fail
        go_ret
        exact ⟨rfl, H9.out⟩

theorem does_walk (n : Int) (v : Value) (ops : List (Int × Int × ByteArray)) (w : World) (hops : OpsIn w v ops) :
    Calls Try.prog 4 #[.int .i64 n, v] w fun e w' => e = .returned (.bool true) ∧ Below w.heap.size w w' := by
  by_cases h : 1 ≤ n ∧ n ≤ 65536
  · obtain ⟨room, rfl⟩ : ∃ room : Nat, n = room := ⟨n.toNat, by omega⟩
    exact does_yes room v ops w (by omega) (by omega) hops
  · exact does_no n v w (by omega)

end Go.Proofs.Ytggpmnhbplmagaa
