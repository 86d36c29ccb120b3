/-
  LinkDoes (stillagelaw18): the walk.
-/
import Derived.Test.YteolokckflckaaaDuo
import Derived.Deep.RegionHeld3
import Derived.Deep.CutBlock
import Derived.Deep.DeepCutAuto
namespace Go.Proofs.Yteolokckflckaaa
open Go.RowKit Go.Conc

set_option maxHeartbeats 400000 in
theorem does_no (n : Int) (v : Value) (w : World) (h' : n < 1 ∨ 4096 < n) : Calls Try.prog 4 #[.int .i64 n, v] w fun e w' => e = .returned (.bool true) ∧ Below w.heap.size w w' := by
  have HN := Lib.hid (new_no n h' w)
  rcases h' with h' | h'
  · go_enter Try.func4, Try.ntmps4
    go_wp2_with fail
    refine HN.out.mono ?_
    rintro e w1 ⟨rfl, rfl⟩
    go_wp2_with fail
    refine (fixed_true w1).mono ?_
    rintro e w2 ⟨rfl, ho⟩
    have H2 := Lib.hid ho
    clear ho
    go_wp2_with fail
    go_ret
    exact ⟨rfl, H2.out⟩
  · have hd : decide (n < 1) = false := by simp; omega
    go_enter Try.func4, Try.ntmps4
    go_wp2_with fail
    refine HN.out.mono ?_
    rintro e w1 ⟨rfl, rfl⟩
    go_wp2_with fail
    refine (fixed_true w1).mono ?_
    rintro e w2 ⟨rfl, ho⟩
    have H2 := Lib.hid ho
    clear ho
    go_wp2_with fail
    go_ret
    exact ⟨rfl, H2.out⟩

set_option maxRecDepth 4000 in
set_option maxHeartbeats 4000000 in
theorem does_yes (room : Nat) (v : Value) (xs : List Unit) (w : World) (h1 : 1 ≤ room) (h2 : room ≤ 4096) (hxs : OpsIn w v xs) :
    Calls Try.prog 4 #[.int .i64 room, v] w fun e w' => e = .returned (.bool true) ∧ Below w.heap.size w w' := by
  obtain ⟨ao, cap, rfl, hm, bx, off, hx⟩ := hxs
  obtain ⟨len, hlen⟩ : ∃ len, xs.length = len := ⟨_, rfl⟩
  rw [hlen] at hm hx ⊢
  have HX := Lib.hid hx
  clear hx hlen
  have HN := Lib.hid (One.new room (by omega) (by omega) w)
  go_enter Try.func4, Try.ntmps4
  go_wp2_with fail
  refine HN.out.mono ?_
  rintro e w1 ⟨rfl, h⟩
  obtain ⟨p, hp⟩ : ∃ p, p = w.heap.size := ⟨_, rfl⟩
  rw [← hp] at h ⊢
  rw [Int.toNat_natCast] at h
  have H0 : Hid (Duo w (w1.alloc (.cells #[.int .i64 room, .slice none 0 0, .slice none 0 0] 42)) [] p w1.heap.size room [] [] [] []) := Lib.hid (Duo.start h)
  clear h hp HN
  go_wp2_with fail
  go_loopw [7, 8] (fun sm si wr => ∃ (k b : Nat) (C : List ByteArray) (T : List (ByteArray × Nat)), k ≤ len ∧ k ≤ 200 ∧ si = .int .i64 k ∧ sm = .pointer (some ⟨b, 0, none⟩) ∧ Hid (Duo w wr [] p b room C T C T ∧ T.length ≤ k)) (fun _ si _ => 200 - (intOf si).toNat)
  case atStart => exact ⟨0, _, [], [], Nat.zero_le _, by omega, rfl, rfl, Lib.hid ⟨H0.out, by simp⟩⟩
  case round =>
    obtain ⟨k, b, C, T, hk, hk2, rfl, rfl, HD⟩ := hrel
    obtain ⟨wk, rfl⟩ : ∃ wk, wk = wr := ⟨_, rfl⟩
    by_cases hlt : k < len ∧ k < 200
    · obtain ⟨ht, hf⟩ := hlt
      obtain ⟨kd, s, fk, fn, fm, hao, hbl, hsz, hop⟩ := HX.out k ht
      subst hao
      obtain ⟨x0, x1, x2, x3, x4⟩ := hop.below HD.out.1.below
      have x3' : wk.cell? ⟨bx, off + k * 5 + 3, none⟩ = some (.int .i64 fn) := x3
      have x4' : wk.cell? ⟨bx, off + k * 5 + 4, none⟩ = some (.int .u8 fm) := x4
      clear hop hbl hsz
      have hkl : (k : Int) < (len : Int) := by omega
      have hk200 : (k : Int) < 200 := by omega
      have hTl : Hid (T.length < 100000 ∧ T.length ≤ k) := Lib.hid (by have := HD.out.2; omega)
      have HDa := Lib.hid (HD.out.1.alloc (.cells #[.int .i64 kd, .string s, .int .i64 fk, .int .i64 fn, .int .u8 fm] 44))
      go_upto_block 2 with fail
      have HDb : Hid (Duo w (wk.alloc (.cells #[.int .i64 kd, .string s, .int .i64 fk, .int .i64 fn, .int .u8 fm] 44)) [(wk.heap.size, .cells #[.int .i64 kd, .string s, .int .i64 fk, .int .i64 fn, .int .u8 fm] 44 (0, 0))] p b room C T C T) := HDa
      clear HDa
      generalize wk.alloc (.cells #[.int .i64 kd, .string s, .int .i64 fk, .int .i64 fn, .int .u8 fm] 44) = wd at HDb ⊢
      generalize wk.heap.size = ob at HDb ⊢
      have HS : Hid (∀ (u : World) (C T C' T'), Duo w u [(ob, .cells #[.int .i64 kd, .string s, .int .i64 fk, .int .i64 fn, .int .u8 fm] 44 (0, 0))] p b room C T C' T' →
          u.cell? ⟨ob, 1, none⟩ = some (.string s) ∧ u.cell? ⟨ob, 2, none⟩ = some (.int .i64 fk) ∧ u.cell? ⟨ob, 3, none⟩ = some (.int .i64 fn) ∧ u.cell? ⟨ob, 4, none⟩ = some (.int .u8 fm)) :=
        Lib.hid (fun u C T C' T' h => by
          have hh := h.held (List.mem_cons_self ..)
          exact ⟨by rw [cell_of hh]; rfl, by rw [cell_of hh]; rfl, by rw [cell_of hh]; rfl, by rw [cell_of hh]; rfl⟩)
      have ys0 := HS.out _ _ _ _ _ HDb.out
      have y0 : wd.cell? ⟨ob, 0, none⟩ = some (.int .i64 kd) := by rw [cell_of (HDb.out.held (List.mem_cons_self ..))]; rfl
      clear x0 x1 x2 x3 x4 x3' x4'
      go_cut [7, 10, 11, 12, 13] (fun s7 _ _ _ _ wx => ∃ (b2 : Nat) (C2 : List ByteArray) (T2 : List (ByteArray × Nat)), s7 = .pointer (some ⟨b2, 0, none⟩) ∧ Hid (Duo w wx [] p b2 room C2 T2 C2 T2 ∧ T2.length ≤ k + 1))
      case first =>
        rcases (show kd = 0 ∨ kd = 1 ∨ kd = 2 ∨ kd = 3 ∨ ((kd == 0) = false ∧ (kd == 1) = false ∧ (kd == 2) = false ∧ (kd == 3) = false) by simp; omega) with rfl | rfl | rfl | rfl | ⟨n0, n1, n2, n3⟩
        · as_aux_lemma =>
            obtain ⟨er, her⟩ : ∃ er : Int, (if mayB fk fn then (0 : Int) else 180) = er := ⟨_, rfl⟩
            obtain ⟨C2, hC2⟩ : ∃ C2, (if mayB fk fn then sendC room C s fk fn fm else C) = C2 := ⟨_, rfl⟩
            obtain ⟨T2, hT2⟩ : ∃ T2, (if mayB fk fn then sendT T s fk fn else T) = T2 := ⟨_, rfl⟩
            have hA := HDb.out.drew.send hTl.out.1 s fk fn fm
            rw [her, hC2, hT2] at hA
            have HA := Lib.hid hA
            have HBc : Hid (∀ u C0 T0, Duo w u [(ob, .cells #[.int .i64 0, .string s, .int .i64 fk, .int .i64 fn, .int .u8 fm] 44 (0, 0))] p b room C0 T0 C T → Calls Try.prog 13 #[.pointer (some ⟨b, 0, none⟩), .string s, fate fk fn fm] u fun e w' => e = .returned (.int .i64 er) ∧ Duo w w' [(ob, .cells #[.int .i64 0, .string s, .int .i64 fk, .int .i64 fn, .int .u8 fm] 44 (0, 0))] p b room C0 T0 C2 T2) := Lib.hid (fun u C0 T0 h => by
              have := h.refSend hTl.out.1 s fk fn fm
              rwa [her, hC2, hT2] at this)
            have HT2 : Hid (T2.length ≤ k + 1) := Lib.hid (by
              rw [← hT2]
              have := hTl.out.2
              cases mayB fk fn with
              | true =>
                have h3 : (sendT T s fk fn).length ≤ T.length + 1 := by unfold sendT; split <;> simp
                simp only [if_true]
                omega
              | false => simp only [Bool.false_eq_true, if_false]; omega)
            clear hA her hC2 hT2
            go_wp2_with fail
            go_region_held3 (fun u => u.cell? ⟨ob, 1, none⟩ = some (.string s) ∧ u.cell? ⟨ob, 2, none⟩ = some (.int .i64 fk) ∧ u.cell? ⟨ob, 3, none⟩ = some (.int .i64 fn) ∧ u.cell? ⟨ob, 4, none⟩ = some (.int .u8 fm)) (first | exact ys0 | assumption)
              (first
                | (go_at_call 8
                   refine HA.out.mono ?_
                   rintro e w2 ⟨rfl, h⟩
                   have ys2 := HS.out _ _ _ _ _ h
                   have HG := Lib.hid h
                   clear h)
                | (go_at_call 13
                   refine (HBc.out _ _ _ HG.out).mono ?_
                   rintro e w3 ⟨rfl, h⟩
                   have ys3 := HS.out _ _ _ _ _ h
                   have HE := Lib.hid h
                   clear h)
                | fail)
            go_wp2_with fail
            go_meet
            exact ⟨b, C2, T2, rfl, Lib.hid ⟨HE.out.forget, HT2.out⟩⟩
        · as_aux_lemma =>
            go_wp2_with fail
            refine (HDb.out.step).mono ?_
            rintro e w2 ⟨rfl, h⟩
            have HG := Lib.hid h
            clear h
            go_wp2_with fail
            refine (HG.out.refStep).mono ?_
            rintro e w3 ⟨rfl, h⟩
            have HE := Lib.hid h
            clear h HG
            go_wp2_with fail
            go_meet
            exact ⟨b, _, _, rfl, Lib.hid ⟨HE.out.forget, by have := stepT_length T; have := hTl.out.2; omega⟩⟩
        · as_aux_lemma =>
            go_wp2_with fail
            refine (HDb.out.take).mono ?_
            rintro e w2 ⟨rfl, h⟩
            have HG := Lib.hid h
            clear h
            go_wp2_with fail
            refine (HG.out.refTake).mono ?_
            rintro e w3 ⟨rfl, h⟩
            have HE := Lib.hid h
            clear h HG
            go_wp2_with fail
            go_meet
            exact ⟨b, _, _, rfl, Lib.hid ⟨HE.out.forget, by have := hTl.out.2; omega⟩⟩
        · as_aux_lemma =>
            go_wp2_with fail
            refine (HDb.out.cut).mono ?_
            rintro e w2 ⟨rfl, h⟩
            have HG := Lib.hid h
            clear h
            go_wp2_with fail
            go_meet
            exact ⟨_, [], [], rfl, Lib.hid ⟨HG.out.fresh.forget, by simp⟩⟩
        · as_aux_lemma =>
            go_wp2_with fail
            go_meet
            exact ⟨b, C, T, rfl, Lib.hid ⟨HDb.out.forget, by have := hTl.out.2; omega⟩⟩
      case rest =>
        obtain ⟨b2, C2, T2, rfl, HE⟩ := hcut
        clear HDb HS ys0 y0
        obtain ⟨nC, hnC⟩ : ∃ nC, C2.length = nC := ⟨_, rfl⟩
        obtain ⟨nT, hnT⟩ : ∃ nT, T2.length = nT := ⟨_, rfl⟩
        have hw := HE.out.1.waits
        rw [hnC, hnT] at hw
        have HW := Lib.hid hw
        clear hw
        go_wp2_with fail
        refine HW.out.mono ?_
        rintro e w5 ⟨rfl, h⟩
        obtain ⟨a1, k1, a2, k2, z1, z2⟩ := h.lens
        rw [hnC] at z1
        rw [hnT] at z2
        have HF := Lib.hid h
        have HnT := Lib.hid (And.intro hnC hnT)
        clear h hnC hnT HW
        go_wp2
        go_roundw
        case rel => exact ⟨k + 1, b2, C2, T2, by omega, by omega, by go_num, rfl, Lib.hid ⟨HF.out, HE.out.2⟩⟩
        case measure => simp [intOf]; omega
    · obtain ⟨we, rfl⟩ : ∃ we, we = wk := ⟨_, rfl⟩
      by_cases hkl : k < len
      · have hd : decide ((k : Int) < 200) = false := by rw [decide_eq_false_iff_not]; omega
        go_wp2_with fail
        refine (fixed_true we).mono ?_
        rintro e w9 ⟨rfl, ho⟩
        have H9 := Lib.hid (HD.out.1.below.trans (ho.mono HD.out.1.below.size))
        clear ho
        go_wp2_with fail
        go_ret
        exact ⟨rfl, H9.out⟩
      · have hd : decide ((k : Int) < (len : Int)) = false := by rw [decide_eq_false_iff_not]; omega
        go_wp2_with fail
        refine (fixed_true we).mono ?_
        rintro e w9 ⟨rfl, ho⟩
        have H9 := Lib.hid (HD.out.1.below.trans (ho.mono HD.out.1.below.size))
        clear ho
        go_wp2_with fail
        go_ret
        exact ⟨rfl, H9.out⟩

theorem does_walk (n : Int) (v : Value) (xs : List Unit) (w : World) (hxs : OpsIn w v xs) :
    Calls Try.prog 4 #[.int .i64 n, v] w fun e w' => e = .returned (.bool true) ∧ Below w.heap.size w w' := by
  by_cases h : 1 ≤ n ∧ n ≤ 4096
  · obtain ⟨room, rfl⟩ : ∃ room : Nat, n = room := ⟨n.toNat, by omega⟩
    exact does_yes room v xs w (by omega) (by omega) hxs
  · exact does_no n v w (by omega)

end Go.Proofs.Yteolokckflckaaa
