/-
  PipeMoves (stillagelaw05): the walk.
-/
import Derived.Test.YtknjniadphoflaaCloses
import Derived.Laws.BitsLemmas
namespace Go.Proofs.Ytknjniadphoflaa
open Go.RowKit Go.Conc

theorem and_le (n : Int) (b : Nat) (hb : (BitVec.ofInt IntKind.i64.bits (b : Int)).toNat ≤ b) (hb' : b < 9223372036854775808) : 0 ≤ bits .and .i64 n b ∧ bits .and .i64 n b ≤ b := by
  have h : (BitVec.ofInt IntKind.i64.bits n &&& BitVec.ofInt IntKind.i64.bits (b : Int)).toNat ≤ b := by
    rw [BitVec.toNat_and]
    exact Nat.le_trans Nat.and_le_right hb
  unfold bits
  dsimp only
  rw [IntKind.wrap_i64]
  omega

theorem drop_at {α : Type} (L : List α) (i : Nat) (z : α) (h : L[i]? = some z) : L.drop i = z :: L.drop (i + 1) := by
  obtain ⟨hi, hz⟩ := List.getElem?_eq_some_iff.1 h
  rw [List.drop_eq_getElem_cons hi, hz]

/-- The cells of what came in. -/
theorem IntsIn.cells {w : World} {ao : Option Addr} {n : Nat} {xs : List Int} (hl : xs.length = n) (h : 0 < n → ∃ b off, ao = some ⟨b, off, none⟩ ∧ ∀ i, i < n → w.cell? ⟨b, off + i, none⟩ = some (.int .i64 (xs.getD i 0))) :
    ∃ b off, ∀ i, i < n → ∃ z, ao = some ⟨b, off, none⟩ ∧ xs[i]? = some z ∧ xs.getD i 0 = z ∧ w.cell? ⟨b, off + i, none⟩ = some (.int .i64 z) ∧ b < w.heap.size := by
  by_cases h0 : 0 < n
  · obtain ⟨b, off, ha, hc⟩ := h h0
    refine ⟨b, off, fun i hi => ⟨xs.getD i 0, ha, ?_, rfl, hc i hi, World.block_lt_of_cell? _ _ (hc i hi)⟩⟩
    rw [List.getD_eq_getElem?_getD, List.getElem?_eq_getElem (by omega)]; rfl
  · exact ⟨0, 0, fun i hi => by omega⟩

set_option maxRecDepth 4000 in
set_option maxHeartbeats 4000000 in
theorem moves_walk (va : Value) (sa : List Int) (vb : Value) (sb : List Int) (rm : Int) (w : World) (has : IntsIn w va sa) (hbs : IntsIn w vb sb) :
    Calls Try.prog 7 #[va, vb, .int .i64 rm] w fun e w' => e = .returned (.bool true) ∧ Below w.heap.size w w' := by
  obtain ⟨aoA, capA, rfl, hmA, hxA⟩ := has
  obtain ⟨lenA, hlA⟩ : ∃ lenA, sa.length = lenA := ⟨_, rfl⟩
  rw [hlA] at hmA hxA ⊢
  obtain ⟨aoB, capB, rfl, hmB, hxB⟩ := hbs
  obtain ⟨lenB, hlB⟩ : ∃ lenB, sb.length = lenB := ⟨_, rfl⟩
  rw [hlB] at hmB hxB ⊢
  obtain ⟨bA, offA, hA⟩ := IntsIn.cells hlA hxA
  obtain ⟨bB, offB, hB⟩ := IntsIn.cells hlB hxB
  have HA := Lib.hid hA
  have HB := Lib.hid hB
  have HL := Lib.hid (And.intro hlA hlB)
  clear hxA hxB hlA hlB hA hB
  obtain ⟨hK0, hK1⟩ : 0 ≤ bits .and .i64 rm 31 ∧ bits .and .i64 rm 31 ≤ 31 := and_le rm 31 (by decide) (by omega)
  obtain ⟨K, hK⟩ : ∃ K, bits .and .i64 rm 31 = K := ⟨_, rfl⟩
  rw [hK] at hK0 hK1
  obtain ⟨N, hN⟩ : ∃ N : Nat, 1 + K = (N : Int) := ⟨(1 + K).toNat, by omega⟩
  have hN1 : 1 ≤ N := by omega
  have hN2 : N ≤ 32 := by omega
  go_enter Try.func7, Try.ntmps7
  go_wp2_with fail
  refine (newInt 60 (by omega) (by omega) w).mono ?_
  rintro e w1 ⟨rfl, hp, ho, hs⟩
  have H1 := Lib.hid (And.intro hp (And.intro ho hs)); clear hp ho hs
  go_wp2_with fail
  refine (newInt N (by omega) (by omega) w1).mono ?_
  rintro e w2 ⟨rfl, hp, ho, hs⟩
  rw [Int.toNat_natCast] at hp
  have ht := Two.start H1.out.1 H1.out.2.1 H1.out.2.2 hp ho
  clear hp ho hs H1
  obtain ⟨p, hp⟩ : ∃ p, p = w.heap.size + 1 := ⟨_, rfl⟩
  obtain ⟨c, hc⟩ : ∃ c, c = w.heap.size := ⟨_, rfl⟩
  obtain ⟨q, hq⟩ : ∃ q, q = w1.heap.size + 1 := ⟨_, rfl⟩
  obtain ⟨d, hd⟩ : ∃ d, d = w1.heap.size := ⟨_, rfl⟩
  have H2 : Hid (Two w w2 p c 60 [] false q d N [] false) := Lib.hid (by rw [hp, hc, hq, hd]; exact ht)
  rw [← hp, ← hq]
  clear ht hp hc hq hd
  have HNN := Lib.hid (And.intro hK (And.intro hK0 (And.intro hK1 hN)))
  clear hK hK0 hK1 hN
  go_upto_region 6 with fail
  go_cut [12, 13] from 48 to 50 (fun s s' wx => (∃ n : Nat, n ≤ lenA ∧ n ≤ 60 ∧ s = .int .i64 n) ∧ s' = .int .i64 0 ∧ wx = w2)
  case first =>
    go_wp2
    all_goals
      go_meet
      first
        | exact ⟨⟨60, by omega, Nat.le_refl _, rfl⟩, rfl, rfl⟩
        | exact ⟨⟨lenA, Nat.le_refl _, by omega, rfl⟩, rfl, rfl⟩
  case rest =>
    obtain ⟨⟨x, hn1, hn2, rfl⟩, rfl, rfl⟩ := hcut
    go_wp2_with fail
    go_loopw [14] (fun i wr => ∃ k : Nat, k ≤ x ∧ i = .int .i64 k ∧ Hid (Two w wr p c 60 (sa.take k) false q d N [] false)) (fun i _ => x - (intOf i).toNat)
    case atStart => exact ⟨0, Nat.zero_le _, rfl, by simpa using H2⟩
    case round =>
      obtain ⟨k, hk, rfl, HD⟩ := hrel
      obtain ⟨wk, rfl⟩ : ∃ wk, wk = wr := ⟨_, rfl⟩
      by_cases hkn : k < x
      · obtain ⟨z, hao, _, hz, x0, hbl⟩ := HA.out k (by omega)
        try subst hao
        have HZ := Lib.hid hz
        clear hz
        have x0 : wk.cell? ⟨bA, offA + k, none⟩ = some (.int .i64 z) := (HD.out.old.cell (p := ⟨bA, offA + k, none⟩) hbl).trans x0
        have p0 : (0 : Int) ≤ (k : Int) := by omega
        have p1 : (k : Int) < (lenA : Int) := by omega
        go_wp2_with fail
        have hsd : sends 60 (sa.take k) false = true := by simp [sends, List.length_take]; omega
        refine (HD.out.send1 z true hsd).mono ?_
        rintro e w3 ⟨rfl, h⟩
        have HE : Hid (Two w w3 p c 60 (sa.take (k + 1)) false q d N [] false) := Lib.hid (by
          rw [sent, hsd, if_pos rfl, take_snoc sa k z 0 (by have := HL.out; omega) HZ.out] at h
          exact h)
        clear h hsd
        go_wp2_with fail
        go_roundw
        case rel => exact ⟨k + 1, by omega, by go_num, HE⟩
        case measure => simp [intOf] <;> omega
      · obtain rfl : x = k := by omega
        obtain ⟨LA, hLA⟩ : ∃ LA, sa.take x = LA := ⟨_, rfl⟩
        have hLn : LA.length = x := by rw [← hLA, List.length_take]; have := HL.out; omega
        rw [hLA] at HD
        have HLA := Lib.hid (And.intro hLA hLn)
        clear hLA hLn
        go_wp2_with fail
        go_loopw [13] (fun i wr => ∃ y : Nat, y ≤ lenB ∧ y ≤ N ∧ i = .int .i64 y ∧ Hid (Two w wr p c 60 LA false q d N (sb.take y) false)) (fun i _ => N - (intOf i).toNat)
        case atStart => exact ⟨0, Nat.zero_le _, Nat.zero_le _, rfl, by simpa using HD⟩
        case round =>
          obtain ⟨y, hy1, hy2, rfl, HT⟩ := hrel
          obtain ⟨wk, rfl⟩ : ∃ wk, wk = wr := ⟨_, rfl⟩
          by_cases hyl : y < lenB
          focus
            obtain ⟨z, hao, _, hz, x0, hbl⟩ := HB.out y (by omega)
            try subst hao
            have HZ := Lib.hid hz
            clear hz
            have x0 : wk.cell? ⟨bB, offB + y, none⟩ = some (.int .i64 z) := (HT.out.old.cell (p := ⟨bB, offB + y, none⟩) hbl).trans x0
            have p0 : (0 : Int) ≤ (y : Int) := by omega
            have p1 : (y : Int) < (lenB : Int) := by omega
            by_cases hyN : y < N
            · go_wp2_with fail
              have hsd : sends N (sb.take y) false = true := by simp [sends, List.length_take]; omega
              refine (HT.out.send2 z true hsd).mono ?_
              rintro e w3 ⟨rfl, h⟩
              have HE : Hid (Two w w3 p c 60 LA false q d N (sb.take (y + 1)) false) := Lib.hid (by
                rw [sent, hsd, if_pos rfl, take_snoc sb y z 0 (by have := HL.out; omega) HZ.out] at h
                exact h)
              clear h hsd
              go_wp2_with fail
              go_roundw
              case rel => exact ⟨y + 1, by omega, by omega, by go_num, HE⟩
              case measure => simp [intOf] <;> omega
            go_wp2_with fail
            have hsd : sends N (sb.take y) false = false := by have := HL.out; simp [sends, List.length_take]; omega
            refine (HT.out.send2 z false hsd).mono ?_
            rintro e w3 ⟨rfl, h⟩
            have HE : Hid (Two w w3 p c 60 LA false q d N (sb.take y) false) := Lib.hid (by
              rw [sent, hsd, if_neg (by simp)] at h
              exact h)
            clear h hsd
            go_wp2_with fail
          rotate_left
          focus
            have HE := HT
            go_wp2_with fail
          all_goals
            obtain ⟨m, hmv⟩ : ∃ m, moved LA N (sb.take y) false = m := ⟨_, rfl⟩
            refine (HE.out.move).mono ?_
            rintro e w5 ⟨rfl, h⟩
            rw [hmv] at h ⊢
            have hmm : m = min x (N - y) := by
              have hty : (sb.take y).length = y := by rw [List.length_take]; have := HL.out; omega
              rw [← hmv]; unfold moved
              rw [if_neg (by simp), HLA.out.2, hty]
            have hm1 : m ≤ x := by omega
            have hm2 : y + m ≤ N := by omega
            have HM := Lib.hid (And.intro hmv hmm)
            have H5 := Lib.hid h
            obtain ⟨Q, hQ⟩ : ∃ Q, sb.take y ++ LA.take m = Q := ⟨_, rfl⟩
            have hQl : Q.length = y + m := by
              rw [← hQ, List.length_append, List.length_take, List.length_take, HLA.out.2, Nat.min_eq_left (by have := HL.out; omega), Nat.min_eq_left hm1]
            rw [hQ] at H5
            have HQ := Lib.hid (And.intro hQ hQl)
            clear h hmv hmm hQ hQl
            go_upto_region 14 with fail
            go_cut [101] from 79 to 101 (fun s wx => s = .bool false ∧ Hid (Two w wx p c 60 (LA.drop m) false q d N Q false))
            case first =>
              obtain ⟨r, hr⟩ : ∃ r, N - y = r := ⟨_, rfl⟩
              have hr2 : (N : Int) - (y : Int) = (r : Int) := by omega
              have HQL : Hid ((Q.length : Int) = (y : Int) + (m : Int)) := Lib.hid (by rw [HQ.out.2]; omega)
              have HLP : Hid (((LA.drop m).length : Int) = (x : Int) - (m : Int)) := Lib.hid (by rw [List.length_drop, HLA.out.2]; omega)
              rcases (show (x ≤ r ∧ x = m) ∨ (r < x ∧ r = m) by have := HM.out.2; omega) with ⟨hxr, rfl⟩ | ⟨hxr, rfl⟩
              all_goals
                clear hr
                go_wp2_with fail
                refine (H5.out.swap.len1 _ HQL.out).mono ?_
                rintro e w6 ⟨rfl, h⟩
                have H6 := Lib.hid h.swap
                clear h
                go_wp2_with fail
                refine (H6.out.len1 _ HLP.out).mono ?_
                rintro e w7 ⟨rfl, h⟩
                have H7 := Lib.hid h
                clear h
                go_wp2_with fail
                go_meet
                exact ⟨rfl, H7⟩
            case rest =>
              obtain ⟨rfl, H6⟩ := hcut
              go_wp2_with fail
              go_loopw [16] (fun i wr => ∃ k : Nat, k ≤ y + m ∧ i = .int .i64 k ∧ Hid (Two w wr p c 60 (LA.drop m) false q d N (Q.drop k) false)) (fun i _ => y + m - (intOf i).toNat)
              case atStart => exact ⟨0, Nat.zero_le _, rfl, H6⟩
              case round =>
                obtain ⟨k, hk, rfl, HT3⟩ := hrel
                obtain ⟨wk, rfl⟩ : ∃ wk, wk = wr := ⟨_, rfl⟩
                by_cases hkn : k < y + m
                · have k0 : (0 : Int) ≤ (k : Int) := by omega
                  by_cases hky : k < y
                  · obtain ⟨z, hao, hz, _, x0, hbl⟩ := HB.out k (by omega)
                    try subst hao
                    have hQz : Q[k]? = some z := by
                      rw [← HQ.out.1, List.getElem?_append_left (by rw [List.length_take]; have := HL.out; omega), List.getElem?_take, if_pos hky, hz]
                    have HT4 : Hid (Two w wk p c 60 (LA.drop m) false q d N (z :: Q.drop (k + 1)) false) := Lib.hid (drop_at Q k z hQz ▸ HT3.out)
                    have HX0 := Lib.hid (And.intro x0 hbl)
                    clear hz hQz x0 hbl
                    have p1 : (k : Int) < (lenB : Int) := by omega
                    go_wp2_with fail
                    refine (HT4.out.swap.take1).mono ?_
                    rintro e w8 ⟨rfl, h⟩
                    have HE3 := Lib.hid h.swap
                    have x1 : w8.cell? ⟨bB, offB + k, none⟩ = some (.int .i64 z) := (h.old.cell (p := ⟨bB, offB + k, none⟩) HX0.out.2).trans HX0.out.1
                    clear h
                    go_wp2_with fail
                    go_roundw
                    case rel => exact ⟨k + 1, by omega, by go_num, HE3⟩
                    case measure => simp [intOf] <;> omega
                  · try (exfalso; omega)
                    all_goals
                      obtain ⟨j, hj⟩ : ∃ j, k - y = j := ⟨_, rfl⟩
                      have hj2 : (k : Int) - (y : Int) = (j : Int) := by omega
                      obtain ⟨z, hao, hz, _, x0, hbl⟩ := HA.out j (by omega)
                      try subst hao
                      have hQz : Q[k]? = some z := by
                        have hl : (sb.take y).length = y := by rw [List.length_take]; have := HL.out; omega
                        rw [← HQ.out.1, List.getElem?_append_right (by rw [hl]; omega), hl, hj, List.getElem?_take, if_pos (by omega), ← HLA.out.1, List.getElem?_take, if_pos (by omega), hz]
                      have HT4 : Hid (Two w wk p c 60 (LA.drop m) false q d N (z :: Q.drop (k + 1)) false) := Lib.hid (drop_at Q k z hQz ▸ HT3.out)
                      have HX0 := Lib.hid (And.intro x0 hbl)
                      have p0 : (0 : Int) ≤ (j : Int) := by omega
                      have p1 : (j : Int) < (lenA : Int) := by omega
                      clear hz hQz x0 hbl hj
                      go_wp2_with fail
                      refine (HT4.out.swap.take1).mono ?_
                      rintro e w8 ⟨rfl, h⟩
                      have HE3 := Lib.hid h.swap
                      have x1 : w8.cell? ⟨bA, offA + j, none⟩ = some (.int .i64 z) := (h.old.cell (p := ⟨bA, offA + j, none⟩) HX0.out.2).trans HX0.out.1
                      clear h
                      go_wp2_with fail
                      go_roundw
                      case rel => exact ⟨k + 1, by omega, by go_num, HE3⟩
                      case measure => simp [intOf] <;> omega
                · go_wp2_with fail
                  go_loopw [19] (fun i wr => ∃ k : Nat, m ≤ k ∧ k ≤ x ∧ i = .int .i64 k ∧ Hid (∃ lq, Two w wr p c 60 (LA.drop k) false q d N lq false)) (fun i _ => x - (intOf i).toNat)
                  case atStart => exact ⟨m, Nat.le_refl _, hm1, rfl, Lib.hid ⟨_, HT3.out⟩⟩
                  case round =>
                    obtain ⟨k4, hk1, hk2, rfl, HT5⟩ := hrel
                    obtain ⟨wz, rfl⟩ : ∃ wz, wz = wr := ⟨_, rfl⟩
                    obtain ⟨lq, hT5⟩ := HT5.out
                    have HT6 := Lib.hid hT5
                    clear hT5 HT5
                    by_cases hk4 : k4 < x
                    · obtain ⟨z, hao, hz, _, x0, hbl⟩ := HA.out k4 (by omega)
                      try subst hao
                      have hQz : LA[k4]? = some z := by rw [← HLA.out.1, List.getElem?_take, if_pos hk4, hz]
                      have HT7 : Hid (Two w wz p c 60 (z :: LA.drop (k4 + 1)) false q d N lq false) := Lib.hid (drop_at LA k4 z hQz ▸ HT6.out)
                      have HX0 := Lib.hid (And.intro x0 hbl)
                      clear hz hQz x0 hbl
                      have p0 : (0 : Int) ≤ (k4 : Int) := by omega
                      have p1 : (k4 : Int) < (lenA : Int) := by omega
                      go_wp2_with fail
                      refine (HT7.out.take1).mono ?_
                      rintro e w8 ⟨rfl, h⟩
                      have HE3 := Lib.hid h
                      have x1 : w8.cell? ⟨bA, offA + k4, none⟩ = some (.int .i64 z) := (h.old.cell (p := ⟨bA, offA + k4, none⟩) HX0.out.2).trans HX0.out.1
                      clear h
                      go_wp2_with fail
                      go_roundw
                      case rel => exact ⟨k4 + 1, by omega, by omega, by go_num, Lib.hid ⟨_, HE3.out⟩⟩
                      case measure => simp [intOf] <;> omega
                    · go_wp2_with fail
                      refine (fixed_true wz).mono ?_
                      rintro e w12 ⟨rfl, ho⟩
                      have HG := Lib.hid (HT6.out.old.trans (ho.mono HT6.out.old.size))
                      clear ho
                      go_wp2_with fail
                      go_ret
                      exact ⟨rfl, HG.out⟩

end Go.Proofs.Ytknjniadphoflaa
