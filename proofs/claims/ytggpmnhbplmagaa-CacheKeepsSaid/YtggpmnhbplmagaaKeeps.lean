/-
  CacheKeeps (stillagelaw04): the walk.
-/
import Derived.Test.YtggpmnhbplmagaaFound
import Derived.Deep.CutRange
import Derived.Deep.RegionWith
namespace Go.Proofs.Ytggpmnhbplmagaa
open Go.RowKit Go.Conc

set_option maxRecDepth 4000 in
set_option maxHeartbeats 400000 in
theorem keeps_no (n : Int) (v : Value) (w : World) (h' : n < 1 ∨ 65536 < n) : Calls Try.prog 6 #[.int .i64 n, v] w fun e w' => e = .returned (.bool true) ∧ Below w.heap.size w w' := by
  have HN := Lib.hid (newIS_no n h' w)
  clear h'
  go_enter Try.func6, Try.ntmps6
  go_wp2_with fail
  refine HN.out.mono ?_
  rintro e w1 ⟨rfl, rfl⟩
  go_wp2_with fail
  refine (fixed_true w1).mono ?_
  rintro e w2 ⟨rfl, ho⟩
  have H2 := Lib.hid ho
  clear ho
  go_wp2_with fail
  go_ret
  exact ⟨rfl, H2.out⟩

set_option maxRecDepth 4000 in
set_option maxHeartbeats 4000000 in
theorem keeps_yes (room : Nat) (v : Value) (xs : List Int) (w : World) (h1 : 1 ≤ room) (h2 : room ≤ 65536) (hxs : IntsIn w v xs) :
    Calls Try.prog 6 #[.int .i64 room, v] w fun e w' => e = .returned (.bool true) ∧ Below w.heap.size w w' := by
  obtain ⟨i0, hi0, hz0, hz1, hz2⟩ := info_parts infoKIS
  obtain ⟨j0, hj0, jz0, jz1, jz2⟩ := info_parts infoKSI
  obtain ⟨ao, cap, rfl, hm, hx⟩ := hxs
  obtain ⟨len, hlen⟩ : ∃ len, xs.length = len := ⟨_, rfl⟩
  rw [hlen] at hm hx ⊢
  have HX := Lib.hid hx
  have HL := Lib.hid hlen
  clear hx hlen
  have HN := Lib.hid (One.new room (by omega) (by omega) w)
  go_enter Try.func6, Try.ntmps6
  go_wp2_with fail
  refine HN.out.mono ?_
  rintro e w1 ⟨rfl, h⟩
  obtain ⟨c, hc⟩ : ∃ c, c = w.heap.size + 2 := ⟨_, rfl⟩
  rw [← hc] at h ⊢
  rw [Int.toNat_natCast] at h
  have H0 := Lib.hid h
  clear h hc HN
  go_upto_region 4 with fail
  go_cut [7] from 38 to 40 (fun s wx => (∃ n : Nat, n ≤ len ∧ n ≤ 300 ∧ s = .int .i64 n) ∧ wx = w1)
  case first =>
    go_wp2
    all_goals
      go_meet
      first
        | exact ⟨⟨300, by omega, Nat.le_refl _, rfl⟩, rfl⟩
        | exact ⟨⟨len, Nat.le_refl _, by omega, rfl⟩, rfl⟩
  case rest =>
    obtain ⟨⟨n, hn1, hn2, rfl⟩, rfl⟩ := hcut
    go_wp2_with fail
    go_loopw [8] (fun i wr => ∃ k : Nat, k ≤ n ∧ i = .int .i64 k ∧ Hid (One w wr c room ((once (lastOf (pr xs) k)).take room))) (fun i _ => n - (intOf i).toNat)
    case atStart => exact ⟨0, by omega, rfl, by simpa [lastOf, once] using H0⟩
    case round =>
      obtain ⟨k, hk, rfl, HD⟩ := hrel
      obtain ⟨wk, rfl⟩ : ∃ wk, wk = wr := ⟨_, rfl⟩
      by_cases hlt : k < n
      · obtain ⟨b, off, hao, hcell⟩ := HX.out (by omega)
        subst hao
        obtain ⟨z, hz⟩ : ∃ z, xs.getD k 0 = z := ⟨_, rfl⟩
        have x0 := hcell k (by omega)
        rw [hz] at x0
        have hcell0 := x0
        clear hcell
        have hbl := World.block_lt_of_cell? _ _ x0
        obtain ⟨own, hown⟩ := HD.out
        have hdb := hown.2.2
        have x0 : wk.cell? ⟨b, off + k, none⟩ = some (.int .i64 z) := (hdb.cell (p := ⟨b, off + k, none⟩) hbl).trans x0
        clear hown hdb own
        have HZ := Lib.hid hz
        clear hz
        have i0 : (0 : Int) ≤ (k : Int) := by omega
        have i1 : (k : Int) < (len : Int) := by omega
        go_wp2_with fail
        have hsA : ∀ m m', (convert 46 9 (.slice (some ⟨wk.heap.size, 0, none⟩) 2 2)).run Try.prog (wk.alloc (.cells #[.int .u8 m, .int .u8 m'] 5)).drew = .ok (.string (byteStr [m, m'])) (wk.alloc (.cells #[.int .u8 m, .int .u8 m'] 5)).drew := fun m m' => run_str2 wk.drew _ rfl m m'
        have hsB : ∀ m m', (convert 46 9 (.slice (some ⟨wk.heap.size, 0, none⟩) 2 2)).run Try.prog (wk.drew.alloc (.cells #[.int .u8 m, .int .u8 m'] 5)) = .ok (.string (byteStr [m, m'])) (wk.drew.alloc (.cells #[.int .u8 m, .int .u8 m'] 5)) := fun m m' => run_str2 wk.drew _ rfl m m'
        have e1 : IntKind.u8.wrap (k : Int) = (k : Int) % 256 := IntKind.wrap_u8 _
        have e2 : IntKind.i64.wrap ((k : Int) / 256) = (k : Int) / 256 := by rw [IntKind.wrap_i64]; omega
        have e3 : IntKind.u8.wrap ((k : Int) / 256) = (k : Int) / 256 := by rw [IntKind.wrap_u8]; omega
        have xd : wk.drew.cell? ⟨b, off + k, none⟩ = some (.int .i64 z) := x0
        have xa : ∀ o, (wk.alloc o).drew.cell? ⟨b, off + k, none⟩ = some (.int .i64 z) := fun o => (World.cell?_alloc_lt _ _ _ (World.block_lt_of_cell? _ _ x0)).trans x0
        have xb : ∀ o, (wk.drew.alloc o).cell? ⟨b, off + k, none⟩ = some (.int .i64 z) := fun o => (World.cell?_alloc_lt wk.drew _ _ (World.block_lt_of_cell? _ _ x0)).trans x0
        go_region_with (first
            | (go_at_call 14
               refine (One.put (w0 := w) (c := c) (room := room) (L := (once (lastOf (pr xs) k)).take room) ?_ z (thing k) _ _ rfl rfl).mono ?_
               exact HD.out.kept (by first | exact (Below.refl _ _).drew.alloc (Nat.le_refl _) _ | exact ((Below.refl _ _).alloc (Nat.le_refl _) _).drew)
               rintro e w2 ⟨rfl, h⟩
               have HE := Lib.hid h
               clear h)
            | fail)
        all_goals
          go_wp2
          go_roundw
          case rel =>
            refine ⟨k + 1, by omega, by go_num, ?_⟩
            have := lastOf_put h1 (pr xs) k
            rw [← this]
            simp only [pr, HZ.out]
            exact HE
          case measure => simp [intOf]; omega
      · obtain rfl : n = k := by omega
        have hn63 : (n : Int) - 1 ≤ 9223372036854775807 := by omega
        obtain ⟨F, hF⟩ : ∃ F, (once (lastOf (pr xs) n)).take room = F := ⟨_, rfl⟩
        rw [hF] at HD
        have HS := Lib.hid HD.out.sole
        have HFF := Lib.hid hF
        clear hF HD H0
        have HFd := Lib.hid (Found.start wk xs n room)
        go_wp2_with fail
        go_loopw [9, 10, 11] (fun v t i wr => ∃ (q : Nat) (P : List (Int × ByteArray)), q ≤ n ∧ i = .int .i64 ((q : Int) - 1) ∧ Hid (Found wk wr xs n room q P v t)) (fun _ _ i _ => (intOf i + 1).toNat)
        case atStart => exact ⟨n, [], Nat.le_refl _, rfl, HFd⟩
        case round =>
          obtain ⟨q, P, hq, rfl, HP⟩ := hrel
          obtain ⟨wp, rfl⟩ : ∃ wp, wp = wr := ⟨_, rfl⟩
          obtain ⟨m, hml⟩ : ∃ m, (once P).length = m := ⟨_, rfl⟩
          have hmr : m ≤ room := by rw [← hml]; exact HP.out.2.1
          have hw1 := HP.out.2.2.1
          have hw2 := HP.out.2.2.2.1
          rw [hml] at hw1 hw2
          obtain ⟨aw, cw, rfl⟩ := shape_of hw1
          obtain ⟨at', ct, rfl⟩ := shape_of hw2
          have HM := Lib.hid hml
          have HW := Lib.hid (And.intro hw1 hw2)
          clear hml hw1 hw2
          by_cases hlt : 1 ≤ q ∧ m < room
          · obtain ⟨ht, hf⟩ := hlt
            obtain ⟨p, rfl⟩ : ∃ p, q = p + 1 := ⟨q - 1, by omega⟩
            rw [show ((p + 1 : Nat) : Int) - 1 = (p : Int) by omega]
            obtain ⟨x, hx⟩ : ∃ x, (pr xs p).1 = x := ⟨_, rfl⟩
            obtain ⟨b, off, hao, hcell⟩ := HX.out (by omega)
            subst hao
            have x0 := hcell p (by omega)
            rw [show xs.getD p 0 = x from hx] at x0
            clear hcell
            have hbl := World.block_lt_of_cell? _ _ x0
            have x0 : wp.cell? ⟨b, off + p, none⟩ = some (.int .i64 x) := by
              have hb := HS.out.below
              rw [HP.out.2.2.2.2.2.cell (p := ⟨b, off + p, none⟩) (Nat.lt_of_lt_of_le hbl hb.size), hb.cell (p := ⟨b, off + p, none⟩) hbl]
              exact x0
            have HXX := Lib.hid (And.intro hx x0)
            clear hx x0
            have p0 : (0 : Int) ≤ (p : Int) := by omega
            have p1 : (p : Int) < (len : Int) := by omega
            go_wp2_with fail
            go_loopw [12, 13] (fun th i wi => ∃ k : Nat, k ≤ m ∧ i = .int .i64 k ∧ th = .bool (look x ((once P).take k)).isSome ∧ Hid (Below wp.heap.size wp wi)) (fun _ i _ => m - (intOf i).toNat)
            case atStart => exact ⟨0, Nat.zero_le _, rfl, by simp [look], Lib.hid (Below.refl _ _)⟩
            case round =>
              obtain ⟨k, hk, rfl, rfl, HB⟩ := hrel
              obtain ⟨wi, rfl⟩ : ∃ wi, wi = wr := ⟨_, rfl⟩
              by_cases hkm : k < m
              · obtain ⟨g, cap', hv, hgb, hgl⟩ := owns_form HW.out.1 (by omega)
                simp only [Value.slice.injEq, true_and] at hv
                obtain ⟨rfl, rfl⟩ := hv
                obtain ⟨y, hy⟩ : ∃ y, (once P)[k]? = some y := ⟨(once P)[k]'(by have := HM.out; omega), List.getElem?_eq_getElem _⟩
                have y0 : wi.cell? ⟨g, k, none⟩ = some (.int .i64 y.1) := by
                  rw [HB.out.cell (p := ⟨g, k, none⟩) hgl, HW.out.1.cellAt k (by omega)]
                  simp [hy]
                have x0 : wi.cell? ⟨b, off + p, none⟩ = some (.int .i64 x) := by
                  rw [HB.out.cell (p := ⟨b, off + p, none⟩) (World.block_lt_of_cell? _ _ HXX.out.2)]; exact HXX.out.2
                have k0 : (0 : Int) ≤ (k : Int) := by omega
                have k1 : (k : Int) < (m : Int) := by omega
                have hsucc := look_take_succ x (once P) k y hy
                obtain ⟨y1, hy1⟩ : ∃ y1, y.1 = y1 := ⟨_, rfl⟩
                rw [hy1] at y0 hsucc
                have HY := Lib.hid hy
                clear hy hy1
                obtain ⟨th, hth⟩ : ∃ th, (look x ((once P).take k)).isSome = th := ⟨_, rfl⟩
                rw [hth] at hsucc ⊢
                have HT := Lib.hid hsucc
                clear hth hsucc
                cases th with
                | true =>
                  go_wp2_with fail
                  go_quiet (fail)
                  go_wp2
                  go_roundw
                  case rel => exact ⟨k + 1, by omega, by go_num, by rw [HT.out]; rfl, Lib.hid (below_drewN HB.out _)⟩
                  case measure => simp [intOf]; omega
                | false =>
                  by_cases hxy : y1 = x
                  · subst hxy
                    go_wp2_with fail
                    go_quiet (fail)
                    go_wp2
                    go_roundw
                    case rel => exact ⟨k + 1, by omega, by go_num, by rw [HT.out]; simp, Lib.hid (below_drewN HB.out _)⟩
                    case measure => simp [intOf]; omega
                  · have hne : (y1 == x) = false := by simp [hxy]
                    go_wp2_with fail
                    go_quiet (fail)
                    go_wp2
                    go_roundw
                    case rel => exact ⟨k + 1, by omega, by go_num, by rw [HT.out]; simp [hxy], Lib.hid (below_drewN HB.out _)⟩
                    case measure => simp [intOf]; omega
              · obtain rfl : m = k := by omega
                rw [show (once P).take m = once P by rw [← HM.out, List.take_length]]
                obtain ⟨th, hth⟩ : ∃ th, (look x (once P)).isSome = th := ⟨_, rfl⟩
                rw [hth]
                have HT := Lib.hid hth
                clear hth
                cases th with
                | true =>
                  go_wp2_with fail
                  go_roundw
                  case rel => exact ⟨p, P ++ [pr xs p], by omega, rfl, Lib.hid ((HP.out.kept HB.out).skip (by rw [HXX.out.1]; exact HT.out))⟩
                  case measure => simp [intOf]
                | false =>
                  have HPi := Lib.hid (HP.out.kept HB.out)
                  have x0 : wi.cell? ⟨b, off + p, none⟩ = some (.int .i64 x) := by
                    rw [HB.out.cell (p := ⟨b, off + p, none⟩) (World.block_lt_of_cell? _ _ HXX.out.2)]; exact HXX.out.2
                  have hsrc1 : SrcIs (wi.alloc (.cells #[.int .i64 x] 3)) 1 (.slice (some ⟨wi.heap.size, 0, none⟩) 1 1) 1 [.int .i64 x] :=
                    SrcIs.of_owns (base := 0) (e := 3) ⟨rfl, .inr ⟨wi.heap.size, 1, #[.int .i64 x], rfl, Nat.zero_le _, alloc_at wi _, Nat.le_refl _, by unfold maxLen; omega, rfl, rfl⟩⟩ (by intro u hu; simp at hu; subst hu; rfl)
                  have hown0 : (wi.alloc (.cells #[.int .i64 x] 3)).ownsRow wk.heap.size 3 1 (.slice aw m cw) m ((once P).map fun p => .int .i64 p.1) := by
                    have := HPi.out.2.2.1; rw [HM.out] at this; exact this.alloc _
                  have HA := Lib.hid (And.intro hsrc1 hown0)
                  clear hsrc1 hown0
                  go_wp2_with (at_builtin; refine wpList_append_src _ rfl (.tmp 93) (.tmp 98) 27 rfl wk.heap.size 3 i0 (.int .i64 0) 1 8 Try.underlying27 hi0 hz0 hz1 hz2 rfl (by decide) (.slice aw m cw) m _ rfl HA.out.2 (.slice (some ⟨wi.heap.size, 0, none⟩) 1 1) 1 [.int .i64 x] rfl HA.out.1 ?c1 ?c2 ?c3 ?_)
                  case c1 => unfold maxLen; omega
                  case c2 => omega
                  case c3 => have := HPi.out.2.2.2.2.2.size; simp; omega
                  · intro v' w3 hown1 hgrow1 hat1
                    obtain ⟨aw', cw', rfl⟩ := shape_of hown1
                    have HMid := Lib.hid ((HPi.out.kept ((Below.refl _ _).alloc (Nat.le_refl _) _)).push (by rw [HM.out]; exact hown1) hgrow1 (by have := hat1; simp at this ⊢; exact this))
                    clear hown1 hgrow1 hat1
                    have hs : ∀ m m', (convert 46 9 (.slice (some ⟨w3.heap.size, 0, none⟩) 2 2)).run Try.prog (w3.alloc (.cells #[.int .u8 m, .int .u8 m'] 5)) = .ok (.string (byteStr [m, m'])) (w3.alloc (.cells #[.int .u8 m, .int .u8 m'] 5)) := fun m m' => run_str2 _ _ rfl m m'
                    have e3 : (p : Int) / 256 % 256 = (p : Int) / 256 := by omega
                    have hsrc2 : ∀ o s, SrcIs ((w3.alloc o).alloc (.cells #[.string s] 9)) 1 (.slice (some ⟨w3.heap.size + 1, 0, none⟩) 1 1) 1 [.string s] := fun o s =>
                      SrcIs.of_owns (base := 0) (e := 9) ⟨rfl, .inr ⟨w3.heap.size + 1, 1, #[.string s], rfl, Nat.zero_le _, by have := alloc_at (w3.alloc o) (.cells #[.string s] 9); simpa using this, Nat.le_refl _, by unfold maxLen; omega, rfl, rfl⟩⟩ (by intro u hu; simp at hu; subst hu; rfl)
                    have hown2 : ∀ o o', ((w3.alloc o).alloc o').ownsRow wk.heap.size 9 1 (.slice at' m ct) m ((once P).map fun p => .string p.2) := fun o o' => by
                      have := HMid.out.2.1; rw [HM.out] at this; exact (this.alloc _).alloc _
                    have HC := Lib.hid (And.intro hsrc2 hown2)
                    clear hsrc2 hown2
                    go_wp2_with (at_builtin; refine wpList_append_src _ rfl (.tmp 100) (.tmp 108) 50 rfl wk.heap.size 9 j0 (.string ⟨#[]⟩) 1 16 Try.underlying50 hj0 jz0 jz1 jz2 rfl (by decide) (.slice at' m ct) m _ rfl (HC.out.2 _ _) (.slice (some ⟨w3.heap.size + 1, 0, none⟩) 1 1) 1 [.string (thing p)] rfl (HC.out.1 _ _) ?d1 ?d2 ?d3 ?_)
                    case d1 => unfold maxLen; omega
                    case d2 => omega
                    case d3 => have := HMid.out.2.2.2.size; simp; omega
                    · intro t' w4 hown3 hgrow3 hat3
                      obtain ⟨at2, ct2, rfl⟩ := shape_of hown3
                      have HE := Lib.hid (((HMid.out.kept ((Below.refl _ _).alloc (Nat.le_refl _) _)).kept ((Below.refl _ _).alloc (Nat.le_refl _) _) |> fun h => Mid.push (q := p) (s := thing p) HPi.out.1 (by rw [HM.out]; omega) (by rw [HXX.out.1]; exact HT.out) rfl (by rw [HXX.out.1]; exact h) (by rw [HM.out]; exact hown3) hgrow3 (by have := hat3; simp at this ⊢; exact this)))
                      clear hown3 hgrow3 hat3
                      go_wp2
                      go_roundw
                      case rel => exact ⟨p, P ++ [pr xs p], by omega, rfl, HE⟩
                      case measure => simp [intOf]
          · have hdone : once P = F := by
              rw [← HFF.out]; exact (HP.out.done (by have := HM.out; omega)).symm
            have hmF : F.length = m := by rw [← hdone]; exact HM.out
            have hrows : ∃ ex, Sole w wp ex c room F ∧ (0 < m → ∃ g1 cur1 g2 cur2, aw = some ⟨g1, 0, none⟩ ∧ at' = some ⟨g2, 0, none⟩ ∧ (g1, Obj.cells cur1 3 (0, 0)) ∈ ex ∧ (g2, Obj.cells cur2 9 (0, 0)) ∈ ex ∧
                ∀ j, j < m → cur1[j]? = (F.map fun p => Value.int .i64 p.1)[j]? ∧ cur2[j]? = (F.map fun p => Value.string p.2)[j]?) := by
              rw [← hdone]
              have h0 := HS.out
              rw [← hdone] at h0
              exact h0.rows HP.out.2.2.2.2.2 HW.out.1 HW.out.2
            obtain ⟨ex, hex, hcells⟩ := hrows
            have hwant : wp.ownsRow wk.heap.size 3 1 (.slice aw m cw) m ((F.map (·.1)).map (Value.int .i64)) := by
              rw [← hdone, List.map_map]; exact HW.out.1
            have HX2 := Lib.hid (And.intro hex (And.intro hcells (And.intro hwant hmF)))
            clear hdone hmF hex hcells hwant
            have hcases : q = 0 ∨ ∃ p, q = p + 1 ∧ decide ((m : Int) < (room : Int)) = false := by
              by_cases hq0 : q = 0
              · exact .inl hq0
              · exact .inr ⟨q - 1, by omega, by rw [decide_eq_false_iff_not]; omega⟩
            rcases hcases with rfl | ⟨p, rfl, hd⟩
            focus
              rw [show ((0 : Nat) : Int) - 1 = -1 by rfl]
              go_wp2_with fail
            rotate_left
            focus
              rw [show ((p + 1 : Nat) : Int) - 1 = (p : Int) by omega]
              go_wp2_with fail
            all_goals
              refine HX2.out.1.keys.mono ?_
              rintro e w5 ⟨v1, rfl, hown1, hb1⟩
              rw [HX2.out.2.2.2] at hown1
              obtain ⟨ao1, cap1, rfl⟩ := shape_of hown1
              have HO1 := Lib.hid (And.intro hown1 hb1)
              clear hown1 hb1
              go_wp2_with fail
              have hi1 := IntsIn.below (by rw [List.length_map, HX2.out.2.2.2]) HO1.out.1 (Below.refl _ _)
              have hi2 := IntsIn.below (by rw [List.length_map, HX2.out.2.2.2]) HX2.out.2.2.1 HO1.out.2
              refine (same_yes hi1 hi2).mono ?_
              clear hi1 hi2
              rintro e w6 ⟨rfl, hb3⟩
              have HS6 := Lib.hid (HX2.out.1.kept (HO1.out.2.trans (hb3.mono HO1.out.2.size)))
              clear hb3 HO1
              go_wp2_with fail
              go_loopw [14] (fun i wr => ∃ k : Nat, k ≤ m ∧ i = .int .i64 k ∧ Hid (∃ L', Sole w wr ex c room L' ∧ ∀ z, look z L' = look z F)) (fun i _ => m - (intOf i).toNat)
              case atStart => exact ⟨0, Nat.zero_le _, rfl, Lib.hid ⟨F, HS6.out, fun _ => rfl⟩⟩
              case round =>
                obtain ⟨k, hk, rfl, HL'⟩ := hrel
                obtain ⟨wz, rfl⟩ : ∃ wz, wz = wr := ⟨_, rfl⟩
                obtain ⟨L', hL'⟩ := HL'.out
                have HL1 := Lib.hid hL'
                clear hL'
                by_cases hkm : k < m
                · obtain ⟨g1, cur1, g2, cur2, ha1, ha2, hm1, hm2, hcur⟩ := HX2.out.2.1 (by omega)
                  subst ha1 ha2
                  obtain ⟨⟨z, s⟩, hz⟩ : ∃ y, F[k]? = some y := ⟨F[k]'(by have := HX2.out.2.2.2; omega), List.getElem?_eq_getElem _⟩
                  obtain ⟨hc1, hc2⟩ := hcur k hkm
                  rw [List.getElem?_map, hz] at hc1 hc2
                  have hlook : look z L' = some s := by rw [HL1.out.2]; exact look_at HS6.out.good.1 hz
                  have y1 : wz.cell? ⟨g1, k, none⟩ = some (.int .i64 z) := by rw [cell_of (HL1.out.1.held hm1), hc1]; rfl
                  have HC2 := Lib.hid (And.intro hm2 hc2)
                  have HLK := Lib.hid hlook
                  clear hm1 hm2 hcur hc1 hc2 hlook hz
                  have k0 : (0 : Int) ≤ (k : Int) := by omega
                  have k1 : (k : Int) < (m : Int) := by omega
                  go_wp2_with fail
                  refine (HL1.out.1.get z).mono ?_
                  rintro e w7 ⟨rfl, h⟩
                  rw [HLK.out]
                  simp only [Option.getD_some, Option.isSome_some]
                  have y2 : w7.cell? ⟨g2, k, none⟩ = some (.string s) := by rw [cell_of (h.held HC2.out.1), HC2.out.2]; rfl
                  have HN2 : Hid (∃ L', Sole w w7 ex c room L' ∧ ∀ z, look z L' = look z F) := Lib.hid ⟨_, h, fun z' => by rw [look_used, HL1.out.2]⟩
                  clear h
                  go_wp2_with fail
                  go_roundw
                  case rel => exact ⟨k + 1, by omega, by go_num, HN2⟩
                  case measure => simp [intOf]; omega
                · obtain rfl : m = k := by omega
                  clear HL1
                  go_wp2_with fail
                  go_loopw [17] (fun i wr => ∃ k5 : Nat, k5 ≤ n ∧ i = .int .i64 k5 ∧ Hid (∃ L', Sole w wr ex c room L' ∧ ∀ z, look z L' = look z F)) (fun i _ => n - (intOf i).toNat)
                  case atStart => exact ⟨0, Nat.zero_le _, rfl, HL'⟩
                  case round =>
                    obtain ⟨k5, hk5, rfl, HL5⟩ := hrel
                    obtain ⟨wy, rfl⟩ : ∃ wy, wy = wr := ⟨_, rfl⟩
                    obtain ⟨L5, hL5⟩ := HL5.out
                    have HL6 := Lib.hid hL5
                    clear hL5
                    by_cases hkn : k5 < n
                    · obtain ⟨x, hx⟩ : ∃ x, xs.getD k5 0 = x := ⟨_, rfl⟩
                      obtain ⟨b, off, hao, hcell⟩ := HX.out (by omega)
                      subst hao
                      have x0 := hcell k5 (by omega)
                      rw [hx] at x0
                      clear hcell hx
                      have hbl := World.block_lt_of_cell? _ _ x0
                      have HX0 := Lib.hid (And.intro hbl x0)
                      have x1 : wy.cell? ⟨b, off + k5, none⟩ = some (.int .i64 x) := (HL6.out.1.below.cell (p := ⟨b, off + k5, none⟩) hbl).trans x0
                      clear hbl x0
                      have p0 : (0 : Int) ≤ (k5 : Int) := by omega
                      have p1 : (k5 : Int) < (len : Int) := by omega
                      go_wp2_with fail
                      refine (HL6.out.1.get x).mono ?_
                      rintro e w8 ⟨rfl, h⟩
                      rw [HL6.out.2 x]
                      have HS8 := Lib.hid h
                      have HN3 : Hid (∀ z, look z (used x L5) = look z F) := Lib.hid fun z' => by rw [look_used, HL6.out.2]
                      clear h
                      obtain ⟨ok, hok⟩ : ∃ ok, (look x F).isSome = ok := ⟨_, rfl⟩
                      rw [hok]
                      have HOK := Lib.hid hok
                      clear hok
                      go_wp2_with fail
                      go_loopw [20, 21] (fun th i wi => ∃ k : Nat, k ≤ m ∧ i = .int .i64 k ∧ th = .bool (look x (F.take k)).isSome ∧ Hid (Below w8.heap.size w8 wi)) (fun _ i _ => m - (intOf i).toNat)
                      case atStart => exact ⟨0, Nat.zero_le _, rfl, by simp [look], Lib.hid (Below.refl _ _)⟩
                      case round =>
                        obtain ⟨k, hk, rfl, rfl, HB⟩ := hrel
                        obtain ⟨wi, rfl⟩ : ∃ wi, wi = wr := ⟨_, rfl⟩
                        have HSi := Lib.hid (HS8.out.kept HB.out)
                        by_cases hkm : k < m
                        · obtain ⟨g1, cur1, g2, cur2, ha1, ha2, hm1, hm2, hcur⟩ := HX2.out.2.1 (by omega)
                          subst ha1 ha2
                          obtain ⟨y, hy⟩ : ∃ y, F[k]? = some y := ⟨F[k]'(by have := HX2.out.2.2.2; omega), List.getElem?_eq_getElem _⟩
                          obtain ⟨hc1, hc2⟩ := hcur k hkm
                          rw [List.getElem?_map, hy] at hc1
                          have hsucc := look_take_succ x F k y hy
                          obtain ⟨y1, hy1⟩ : ∃ y1, y.1 = y1 := ⟨_, rfl⟩
                          rw [hy1] at hsucc
                          rw [Option.map_some, hy1] at hc1
                          have y0 : wi.cell? ⟨g1, k, none⟩ = some (.int .i64 y1) := by rw [cell_of (HSi.out.held hm1), hc1]
                          have x2 : wi.cell? ⟨b, off + k5, none⟩ = some (.int .i64 x) := (HSi.out.below.cell (p := ⟨b, off + k5, none⟩) HX0.out.1).trans HX0.out.2
                          clear hm1 hm2 hcur hc1 hc2 hy hy1
                          have k0 : (0 : Int) ≤ (k : Int) := by omega
                          have k1 : (k : Int) < (m : Int) := by omega
                          obtain ⟨th, hth⟩ : ∃ th, (look x (F.take k)).isSome = th := ⟨_, rfl⟩
                          rw [hth] at hsucc ⊢
                          have HT := Lib.hid hsucc
                          clear hth hsucc
                          cases th with
                          | true =>
                            go_wp2_with fail
                            go_quiet (fail)
                            go_wp2
                            go_roundw
                            case rel => exact ⟨k + 1, by omega, by go_num, by rw [HT.out]; rfl, Lib.hid (below_drewN HB.out _)⟩
                            case measure => simp [intOf]; omega
                          | false =>
                            by_cases hxy : y1 = x
                            · subst hxy
                              go_wp2_with fail
                              go_quiet (fail)
                              go_wp2
                              go_roundw
                              case rel => exact ⟨k + 1, by omega, by go_num, by rw [HT.out]; simp, Lib.hid (below_drewN HB.out _)⟩
                              case measure => simp [intOf]; omega
                            · have hne : (y1 == x) = false := by simp [hxy]
                              go_wp2_with fail
                              go_quiet (fail)
                              go_wp2
                              go_roundw
                              case rel => exact ⟨k + 1, by omega, by go_num, by rw [HT.out]; simp [hxy], Lib.hid (below_drewN HB.out _)⟩
                              case measure => simp [intOf]; omega
                        · obtain rfl : m = k := by omega
                          rw [show F.take m = F by rw [← HX2.out.2.2.2, List.take_length], HOK.out]
                          go_wp2_with fail
                          go_roundw
                          case rel => exact ⟨k5 + 1, by omega, by go_num, Lib.hid ⟨_, HSi.out, HN3.out⟩⟩
                          case measure => simp [intOf]; omega
                    · obtain rfl : n = k5 := by omega
                      go_wp2_with fail
                      refine (fixed_true wy).mono ?_
                      rintro e w9 ⟨rfl, ho⟩
                      have H9 := Lib.hid (HL6.out.1.below.trans (ho.mono HL6.out.1.below.size))
                      clear ho
                      go_wp2_with fail
                      go_ret
                      exact ⟨rfl, H9.out⟩

theorem keeps_walk (n : Int) (v : Value) (xs : List Int) (w : World) (hxs : IntsIn w v xs) :
    Calls Try.prog 6 #[.int .i64 n, v] w fun e w' => e = .returned (.bool true) ∧ Below w.heap.size w w' := by
  by_cases h : 1 ≤ n ∧ n ≤ 65536
  · obtain ⟨room, rfl⟩ : ∃ room : Nat, n = room := ⟨n.toNat, by omega⟩
    exact keeps_yes room v xs w (by omega) (by omega) hxs
  · exact keeps_no n v w (by omega)

end Go.Proofs.Ytggpmnhbplmagaa
