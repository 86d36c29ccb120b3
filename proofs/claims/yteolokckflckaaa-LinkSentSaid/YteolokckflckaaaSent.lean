/-
  LinkSent (stillagelaw18): the walk.
-/
import Derived.Test.YteolokckflckaaaSentOk
import Derived.Deep.RegionHeld3
namespace Go.Proofs.Yteolokckflckaaa
open Go.RowKit Go.Conc

set_option maxRecDepth 4000 in
set_option maxHeartbeats 4000000 in
theorem sent_walk (v : Value) (xs : List Unit) (w : World) (hxs : OpsIn w v xs) :
    Calls Try.prog 6 #[v] w fun e w' => e = .returned (.bool true) ∧ Below w.heap.size w w' := by
  obtain ⟨i0, hi0, hz0, hz1, hz2⟩ := info_parts infoStr
  obtain ⟨ao, cap, rfl, hm, b, off, hx⟩ := hxs
  obtain ⟨len, hlen⟩ : ∃ len, xs.length = len := ⟨_, rfl⟩
  rw [hlen] at hm hx ⊢
  have HX := Lib.hid hx
  clear hx hlen
  go_enter Try.func6, Try.ntmps6
  go_wp2_with fail
  refine (One.new 4096 (by omega) (by omega) w).mono ?_
  rintro e w1 ⟨rfl, h⟩
  obtain ⟨p, hp⟩ : ∃ p, p = w.heap.size := ⟨_, rfl⟩
  rw [← hp] at h ⊢
  have H1 : Hid (With w (w1.alloc (.cells #[] 9)) p 4096 [] [] (.slice (some ⟨w1.heap.size, 0, none⟩) 0 0) []) := Lib.hid (With.start h)
  clear h hp
  go_wp2_with fail
  go_loopw [5, 6] (fun sv si wr => ∃ (i : Nat) (C : List ByteArray) (T : List (ByteArray × Nat)) (W : List ByteArray), i ≤ len ∧ i ≤ 100 ∧ si = .int .i64 i ∧ Hid (With w wr p 4096 C T sv W ∧ SentOk C T W ∧ C.length + T.length ≤ 2 * i ∧ W.length ≤ i)) (fun _ si _ => 100 - (intOf si).toNat)
  case atStart => exact ⟨0, [], [], [], Nat.zero_le _, by omega, rfl, Lib.hid ⟨H1.out, SentOk.nil, by simp, by simp⟩⟩
  case round =>
    obtain ⟨i, C, T, W, hi, hi2, rfl, HD⟩ := hrel
    obtain ⟨wk, rfl⟩ : ∃ wk, wk = wr := ⟨_, rfl⟩
    obtain ⟨vo, vcap, hv7⟩ := shape_of HD.out.1.row
    obtain ⟨nW, hnW⟩ : ∃ nW, W.length = nW := ⟨_, rfl⟩
    rw [hnW] at hv7
    subst hv7
    by_cases hlt : i < len ∧ i < 100
    · obtain ⟨ht, hf⟩ := hlt
      obtain ⟨kd, s, fk, fn, fm, hao, hbl, hsz, hop⟩ := HX.out i ht
      subst hao
      have X5 : Hid (∀ u, Below w.heap.size w u → OpAt u b (off + i * 5) kd s fk fn fm) := Lib.hid (fun u hu => hop.below hu)
      have HSZ := Lib.hid hsz
      clear hop hbl hsz
      have ys0 := X5.out wk HD.out.1.below
      have hW : Hid (W.length = nW ∧ nW ≤ i) := Lib.hid ⟨hnW, by have := HD.out.2.2.2; omega⟩
      have hTl : Hid (T.length < 100000) := Lib.hid (by have := HD.out.2.2.1; omega)
      clear hnW
      have i1 : (i : Int) < (len : Int) := by omega
      have i2 : (i : Int) < 100 := by omega
      unfold OpAt at ys0
      cases hmay : mayB fk fn with
      | true =>
        have HM := Lib.hid hmay
        clear hmay
        go_wp2_with fail
        go_region_held3 (fun u => u.cell? ⟨b, off + i * 5, none⟩ = some (.int .i64 kd) ∧ u.cell? ⟨b, off + i * 5 + 1, none⟩ = some (.string s) ∧ u.cell? ⟨b, off + i * 5 + 2, none⟩ = some (.int .i64 fk) ∧ u.cell? ⟨b, off + i * 5 + 2 + 1, none⟩ = some (.int .i64 fn) ∧ u.cell? ⟨b, off + i * 5 + 2 + 2, none⟩ = some (.int .u8 fm)) (first | exact ys0 | assumption)
          (first
            | (go_at_call 8
               refine (HD.out.1.drew.send hTl.out s fk fn fm HM.out).mono ?_
               rintro e w2 ⟨rfl, h⟩
               have ys2 := X5.out w2 h.below
               have HT := Lib.hid h
               clear h)
            | fail)
        obtain ⟨a0, a1, a2, a3, a4⟩ := ys2
        have HO : Hid ((w2.alloc (.cells #[.string s] 9)).ownsRow w.heap.size 9 1 (.slice vo nW vcap) nW (W.map Value.string)) := Lib.hid (by
          have := HT.out.row
          rw [hW.out.1] at this
          exact this.alloc _)
        have HSZ2 : Hid (w.heap.size ≤ w2.heap.size) := Lib.hid HT.out.below.size
        go_wp2_with (at_builtin; refine wpList_append_own_at _ rfl (.tmp 49) (.tmp 55) 39 rfl w.heap.size 9 i0 (.string ⟨#[]⟩) 1 16 Try.underlying39 hi0 hz0 hz1 hz2 rfl (by decide) (.slice vo nW vcap) nW (W.map Value.string) rfl HO.out ⟨w2.heap.size, 0, none⟩ 1 1 [.string s] rfl rfl (cell_one_new _ _ _) (by intro u hu; simp at hu; subst hu; rfl) (by have := hW.out.2; unfold maxLen; omega) (by have := hW.out.2; omega) (by have := HSZ2.out; simp; omega) ?_)
        intro v2 w3 hown2 hg2 _ hat2
        have hT3 : With w w3 p 4096 (sendC 4096 C s fk fn fm) (sendT T s fk fn) v2 (W ++ [s]) := (HT.out.alloc (.cells #[.string s] 9)).grown hg2 (by rw [List.length_append, List.length_singleton, hW.out.1, List.map_append]; exact hown2) (by simpa using hat2)
        have HT3 := Lib.hid hT3
        have HS2 : Hid (SentOk (sendC 4096 C s fk fn fm) (sendT T s fk fn) (W ++ [s]) ∧ (sendC 4096 C s fk fn fm).length + (sendT T s fk fn).length ≤ 2 * i + 2 ∧ (W ++ [s]).length ≤ i + 1) :=
          Lib.hid ⟨HD.out.2.1.send 4096 s fk fn fm HSZ.out, by have := send_length 4096 C T s fk fn fm; have := HD.out.2.2.1; omega, by rw [List.length_append, List.length_singleton]; have := HD.out.2.2.2; omega⟩
        clear hT3 hown2 hg2 hat2 a0 a1 a2 a3 a4 ys0
        generalize sendC 4096 C s fk fn fm = C2 at HT3 HS2
        generalize sendT T s fk fn = T2 at HT3 HS2
        generalize W ++ [s] = W2 at HT3 HS2
        have HS3 : Hid (SentOk C2 T2 W2 ∧ C2.length + T2.length ≤ 2 * i + 2 ∧ W2.length ≤ i + 1) := HS2
        have ys3 := X5.out w3 HT3.out.below
        obtain ⟨a0, a1, a2, a3, a4⟩ := ys3
        by_cases hk1 : kd = 1
        · subst hk1
          go_wp2_with fail
          refine (HT3.out.step).mono ?_
          rintro e w5 ⟨rfl, h⟩
          have HF := Lib.hid h
          clear h
          go_wp2
          go_roundw
          case rel => exact ⟨i + 1, _, _, W2, by omega, by omega, by go_num, Lib.hid ⟨HF.out, HS3.out.1.step 4096, by have := HS3.out.2.1; have := step_length 4096 T2 C2; omega, HS3.out.2.2⟩⟩
          case measure => simp [intOf]; omega
        · have hk1' : (kd == 1) = false := by simpa using hk1
          clear hk1
          go_wp2
          go_roundw
          case rel => exact ⟨i + 1, C2, T2, W2, by omega, by omega, by go_num, Lib.hid ⟨HT3.out, HS3.out.1, by have := HS3.out.2.1; omega, HS3.out.2.2⟩⟩
          case measure => simp [intOf]; omega
      | false =>
        have HM := Lib.hid hmay
        clear hmay
        go_wp2_with fail
        go_region_held3 (fun u => u.cell? ⟨b, off + i * 5, none⟩ = some (.int .i64 kd) ∧ u.cell? ⟨b, off + i * 5 + 1, none⟩ = some (.string s) ∧ u.cell? ⟨b, off + i * 5 + 2, none⟩ = some (.int .i64 fk) ∧ u.cell? ⟨b, off + i * 5 + 2 + 1, none⟩ = some (.int .i64 fn) ∧ u.cell? ⟨b, off + i * 5 + 2 + 2, none⟩ = some (.int .u8 fm)) (first | exact ys0 | assumption)
          (first
            | (go_at_call 8
               refine (HD.out.1.drew.sendNo s fk fn fm HM.out).mono ?_
               rintro e w2 ⟨rfl, h⟩
               have ys2 := X5.out w2 h.below
               have HT := Lib.hid h
               clear h)
            | fail)
        obtain ⟨C2, hC2⟩ : ∃ C2, C2 = C := ⟨_, rfl⟩
        obtain ⟨T2, hT2⟩ : ∃ T2, T2 = T := ⟨_, rfl⟩
        obtain ⟨W2, hW2⟩ : ∃ W2, W2 = W := ⟨_, rfl⟩
        obtain ⟨w3, hw3⟩ : ∃ w3, w3 = w2 := ⟨_, rfl⟩
        have HT3 : Hid (With w w3 p 4096 C2 T2 (.slice vo nW vcap) W2) := by rw [hC2, hT2, hW2, hw3]; exact HT
        have HS2 : Hid (SentOk C2 T2 W2 ∧ C2.length + T2.length ≤ 2 * i + 2 ∧ W2.length ≤ i + 1) := by
          rw [hC2, hT2, hW2]
          exact Lib.hid ⟨HD.out.2.1, by have := HD.out.2.2.1; omega, by have := HD.out.2.2.2; omega⟩
        rw [← hw3]
        clear hC2 hT2 hW2 hw3 ys0 ys2
        have HS3 : Hid (SentOk C2 T2 W2 ∧ C2.length + T2.length ≤ 2 * i + 2 ∧ W2.length ≤ i + 1) := HS2
        have ys3 := X5.out w3 HT3.out.below
        obtain ⟨a0, a1, a2, a3, a4⟩ := ys3
        by_cases hk1 : kd = 1
        · subst hk1
          go_wp2_with fail
          refine (HT3.out.step).mono ?_
          rintro e w5 ⟨rfl, h⟩
          have HF := Lib.hid h
          clear h
          go_wp2
          go_roundw
          case rel => exact ⟨i + 1, _, _, W2, by omega, by omega, by go_num, Lib.hid ⟨HF.out, HS3.out.1.step 4096, by have := HS3.out.2.1; have := step_length 4096 T2 C2; omega, HS3.out.2.2⟩⟩
          case measure => simp [intOf]; omega
        · have hk1' : (kd == 1) = false := by simpa using hk1
          clear hk1
          go_wp2
          go_roundw
          case rel => exact ⟨i + 1, C2, T2, W2, by omega, by omega, by go_num, Lib.hid ⟨HT3.out, HS3.out.1, by have := HS3.out.2.1; omega, HS3.out.2.2⟩⟩
          case measure => simp [intOf]; omega
    · have HW := Lib.hid hnW
      clear hnW
      have hnW2 : nW ≤ 100 := by have := HD.out.2.2.2; have := HW.out; omega
      have HE0 : Hid (With w wk p 4096 C T (.slice vo nW vcap) W ∧ SentOk C T W ∧ C.length + T.length ≤ 200 ∧ (∀ q ∈ T, q.2 + 0 ≤ 8) ∧ (9 ≤ 0 → C = [])) :=
        Lib.hid ⟨HD.out.1, HD.out.2.1, by have := HD.out.2.2.1; omega, fun q hq => (HD.out.1.one.good q hq).2, fun h => by omega⟩
      by_cases hkl : i < len
      focus
        have hd : decide ((i : Int) < 100) = false := by rw [decide_eq_false_iff_not]; omega
        go_wp2_with fail
      rotate_left
      focus
        have hd : decide ((i : Int) < (len : Int)) = false := by rw [decide_eq_false_iff_not]; omega
        go_wp2_with fail
      all_goals
        go_loopw [7] (fun st wr => ∃ (t : Nat) (C : List ByteArray) (T : List (ByteArray × Nat)), t ≤ 10 ∧ st = .int .i64 t ∧ Hid (With w wr p 4096 C T (.slice vo nW vcap) W ∧ SentOk C T W ∧ C.length + T.length ≤ 200 ∧ (∀ q ∈ T, q.2 + t ≤ 8) ∧ (9 ≤ t → C = []))) (fun st _ => 10 - (intOf st).toNat)
        case atStart => exact ⟨0, C, T, by omega, rfl, HE0⟩
        case round =>
          obtain ⟨t, C', T', ht, rfl, HE⟩ := hrel
          obtain ⟨wo, rfl⟩ : ∃ wo, wo = wr := ⟨_, rfl⟩
          by_cases ht10 : t < 10
          · have ht10' : (t : Int) < 10 := by omega
            go_wp2_with fail
            go_loopw [8] (fun sn wt => ∃ (n : Nat) (C2 : List ByteArray), n ≤ 200 ∧ sn = .int .i64 n ∧ Hid (With w wt p 4096 C2 T' (.slice vo nW vcap) W ∧ SentOk C2 T' W ∧ n + C2.length ≤ 200)) (fun sn _ => 500 - (intOf sn).toNat)
            case atStart => exact ⟨0, C', by omega, rfl, Lib.hid ⟨HE.out.1, HE.out.2.1, by have := HE.out.2.2.1; omega⟩⟩
            case round =>
              obtain ⟨n, C2, hn, rfl, HF⟩ := hrel
              obtain ⟨wt, rfl⟩ : ∃ wt, wt = wr := ⟨_, rfl⟩
              have hn5 : (n : Int) < 500 := by omega
              cases hC2 : C2 with
              | nil =>
                subst hC2
                go_wp2_with fail
                refine (HF.out.1.take).mono ?_
                rintro e w4 ⟨rfl, h⟩
                simp only [headS, List.isEmpty_nil, Bool.not_true, List.tail_nil] at h ⊢
                have HT := Lib.hid h
                clear h
                go_wp2_with fail
                refine (HT.out.step).mono ?_
                rintro e w5 ⟨rfl, h⟩
                have HT5 := Lib.hid h
                clear h
                go_wp2
                go_roundw
                case rel =>
                  refine ⟨t + 1, _, _, by omega, by go_num, Lib.hid ⟨HT5.out, HF.out.2.1.step 4096, ?_, fun q hq => ?_, fun h9 => ?_⟩⟩
                  · have := step_length 4096 T' []
                    have := HE.out.2.2.1
                    simp only [List.length_nil] at *
                    omega
                  · obtain ⟨r, hr, _, hrq⟩ := mem_stepT hq
                    have := HE.out.2.2.2.1 r hr
                    omega
                  · have hT0 : T' = [] := by
                      cases T' with
                      | nil => rfl
                      | cons q T3 =>
                        have h1 := HE.out.2.2.2.1 q (List.mem_cons_self ..)
                        have h2 := (HE.out.1.one.good q (List.mem_cons_self ..)).1
                        omega
                    rw [hT0]
                    rfl
                case measure => simp [intOf]; omega
              | cons c C3 =>
                subst hC2
                obtain ⟨tt, htt, hnear⟩ := HF.out.2.1.1 c (List.mem_cons_self ..)
                have hcs : c.size ≤ 9223372036854775807 := by rw [nearB_size hnear]; exact HF.out.2.1.2.2 tt htt
                have HN : Hid (∃ (j : Nat) (hj : j < W.length), nearB c W[j] = true) := Lib.hid (by
                  obtain ⟨j, hj, rfl⟩ := List.getElem_of_mem htt
                  exact ⟨j, hj, hnear⟩)
                have HCS := Lib.hid hcs
                clear htt hnear hcs
                go_wp2_with fail
                refine (HF.out.1.take).mono ?_
                rintro e w4 ⟨rfl, h⟩
                simp only [headS, List.isEmpty_cons, Bool.not_false, List.tail_cons] at h ⊢
                have HT := Lib.hid h
                clear h
                go_wp2_with fail
                go_loopw [11, 12] (fun sf sj wt => ∃ (q : Nat) (f : Bool), q ≤ nW ∧ sj = .int .i64 q ∧ sf = .bool f ∧ Hid (With w wt p 4096 C3 T' (.slice vo nW vcap) W ∧ (f = false → ∀ j (hj : j < W.length), j < q → nearB c W[j] = false))) (fun _ sj _ => nW - (intOf sj).toNat)
                case atStart => exact ⟨0, false, Nat.zero_le _, rfl, rfl, Lib.hid ⟨HT.out, fun _ j _ h => by omega⟩⟩
                case round =>
                  obtain ⟨q, f, hq, rfl, rfl, HG⟩ := hrel
                  obtain ⟨wf, rfl⟩ : ∃ wf, wf = wr := ⟨_, rfl⟩
                  cases f with
                  | true =>
                    go_wp2_with fail
                    all_goals
                      go_roundw
                      case rel => exact ⟨n + 1, C3, by have := HF.out.2.2; rw [List.length_cons] at this; omega, by go_num, Lib.hid ⟨HG.out.1, HF.out.2.1.tail, by have := HF.out.2.2; rw [List.length_cons] at this; omega⟩⟩
                      case measure => simp [intOf]; omega
                  | false =>
                    by_cases hqn : q < nW
                    · have hql : q < W.length := by have := HW.out; omega
                      obtain ⟨g, gc, hv, hcell⟩ := HG.out.1.cell hql
                      obtain ⟨z, hz⟩ : ∃ z, W[q] = z := ⟨_, rfl⟩
                      rw [hz] at hcell
                      simp only [Value.slice.injEq] at hv
                      have hvo := hv.1
                      clear hv
                      subst hvo
                      have HZ := Lib.hid hz
                      clear hz
                      have q1 : (q : Int) < (nW : Int) := by omega
                      go_wp2_with fail
                      refine (near c z wf HCS.out).mono ?_
                      rintro e w6 ⟨rfl, hb⟩
                      have HT6 := Lib.hid (HG.out.1.kept hb)
                      clear hb
                      go_wp2
                      go_roundw
                      case rel =>
                        refine ⟨q + 1, _, by omega, by go_num, rfl, Lib.hid ⟨HT6.out, fun hf j hj hjq => ?_⟩⟩
                        by_cases hjq' : j = q
                        · subst hjq'
                          rw [HZ.out]; exact hf
                        · exact HG.out.2 (by trivial) j hj (by omega)
                      case measure => simp [intOf]; omega
                    · exfalso
                      obtain ⟨j, hj, hn⟩ := HN.out
                      have := HG.out.2 (by trivial) j hj (by have := HW.out; omega)
                      rw [hn] at this
                      cases this
          · obtain rfl : t = 10 := by omega
            have hC0 : C' = [] := HE.out.2.2.2.2 (by omega)
            have hT0 : T' = [] := by
              cases T' with
              | nil => rfl
              | cons q T3 =>
                have h1 := HE.out.2.2.2.1 q (List.mem_cons_self ..)
                omega
            have HE2 := Lib.hid (HE.out.1.one.as hC0 hT0)
            clear hC0 hT0
            go_wp2_with fail
            refine (HE2.out.waits).mono ?_
            rintro e w4 ⟨rfl, h⟩
            simp only [List.length_nil] at h ⊢
            have HT := Lib.hid h.below
            clear h
            go_wp2_with fail
            refine (fixed_true w4).mono ?_
            rintro e w9 ⟨rfl, ho⟩
            have H9 := Lib.hid (HT.out.trans (ho.mono HT.out.size))
            clear ho
            go_wp2_with fail
            go_ret
            exact ⟨rfl, H9.out⟩

end Go.Proofs.Yteolokckflckaaa
