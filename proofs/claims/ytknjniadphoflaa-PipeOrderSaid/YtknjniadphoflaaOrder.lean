/-
  PipeOrder (stillagelaw05): the walk.
-/
import Derived.Test.YtknjniadphoflaaMoves
namespace Go.Proofs.Ytknjniadphoflaa
open Go.RowKit Go.Conc

/-- What the two pipes hold: the things from number h on up to number a. -/
def Flow (T : List ByteArray) (a h : Nat) (LA LB : List ByteArray) : Prop := LB ++ LA = (T.take a).drop h

theorem Flow.send {T : List ByteArray} {a h : Nat} {LA LB : List ByteArray} {x : ByteArray} (hf : Flow T a h LA LB) (hh : h ≤ a) (hx : T[a]? = some x) : Flow T (a + 1) h (LA ++ [x]) LB := by
  obtain ⟨ha, hxx⟩ := List.getElem?_eq_some_iff.1 hx
  unfold Flow at *
  rw [← List.append_assoc, hf, List.take_add_one, hx, List.drop_append_of_le_length (by rw [List.length_take]; omega)]
  rfl
theorem Flow.move {T : List ByteArray} {a h : Nat} {LA LB : List ByteArray} (hf : Flow T a h LA LB) (m : Nat) : Flow T a h (LA.drop m) (LB ++ LA.take m) := by
  unfold Flow at *
  rw [List.append_assoc, List.take_append_drop, hf]
theorem Flow.take {T : List ByteArray} {a h : Nat} {LA LB : List ByteArray} {x : ByteArray} (hf : Flow T a h LA (x :: LB)) : Flow T a (h + 1) LA LB ∧ h < a ∧ T[h]? = some x := by
  unfold Flow at *
  have h0 : ((T.take a).drop h)[0]? = some x := by rw [← hf]; rfl
  rw [List.getElem?_drop, Nat.add_zero, List.getElem?_take] at h0
  split at h0
  · refine ⟨?_, by assumption, h0⟩
    have := congrArg List.tail hf
    rw [List.tail_drop] at this
    simpa using this
  · cases h0
theorem Flow.len {T : List ByteArray} {a h : Nat} {LA LB : List ByteArray} (hf : Flow T a h LA LB) (ha : a ≤ T.length) : LA.length + LB.length = a - h := by
  have := congrArg List.length hf
  rw [List.length_append, List.length_drop, List.length_take, Nat.min_eq_left ha] at this
  omega

/-- The cells of what came in. -/
theorem StrsIn.cells {w : World} {ao : Option Addr} {n : Nat} {xs : List ByteArray} (hl : xs.length = n) (h : 0 < n → ∃ b off, ao = some ⟨b, off, none⟩ ∧ ∀ i, i < n → w.cell? ⟨b, off + i, none⟩ = some (.string (xs.getD i ⟨#[]⟩))) :
    ∃ b off, ∀ i, i < n → ∃ z, ao = some ⟨b, off, none⟩ ∧ xs[i]? = some z ∧ w.cell? ⟨b, off + i, none⟩ = some (.string z) ∧ b < w.heap.size := by
  by_cases h0 : 0 < n
  · obtain ⟨b, off, ha, hc⟩ := h h0
    refine ⟨b, off, fun i hi => ⟨xs.getD i ⟨#[]⟩, ha, ?_, hc i hi, World.block_lt_of_cell? _ _ (hc i hi)⟩⟩
    rw [List.getD_eq_getElem?_getD, List.getElem?_eq_getElem (by omega)]; rfl
  · exact ⟨0, 0, fun i hi => by omega⟩

set_option maxRecDepth 4000 in
set_option maxHeartbeats 4000000 in
theorem order_walk (va : Value) (ss : List ByteArray) (vb : Value) (ts : List Int) (w : World) (has : StrsIn w va ss) (hbs : IntsIn w vb ts) :
    Calls Try.prog 5 #[va, vb] w fun e w' => e = .returned (.bool true) ∧ Below w.heap.size w w' := by
  obtain ⟨aoA, capA, rfl, hmA, hxA⟩ := has
  obtain ⟨lenA, hlA⟩ : ∃ lenA, ss.length = lenA := ⟨_, rfl⟩
  rw [hlA] at hmA hxA ⊢
  obtain ⟨aoB, capB, rfl, hmB, hxB⟩ := hbs
  obtain ⟨lenB, hlB⟩ : ∃ lenB, ts.length = lenB := ⟨_, rfl⟩
  rw [hlB] at hmB hxB ⊢
  obtain ⟨bA, offA, hA⟩ := StrsIn.cells hlA hxA
  obtain ⟨bB, offB, hB⟩ := IntsIn.cells hlB hxB
  have HA := Lib.hid hA
  have HB := Lib.hid hB
  have HL := Lib.hid (And.intro hlA hlB)
  clear hxA hxB hlA hlB hA hB
  go_enter Try.func5, Try.ntmps5
  go_wp2_with fail
  refine (newStr 4 (by omega) (by omega) w).mono ?_
  rintro e w1 ⟨rfl, hp, ho, hs⟩
  have H1 := Lib.hid (And.intro hp (And.intro ho hs)); clear hp ho hs
  go_wp2_with fail
  refine (newStr 3 (by omega) (by omega) w1).mono ?_
  rintro e w2 ⟨rfl, hp, ho, hs⟩
  have ht := Twain.start H1.out.1 H1.out.2.1 H1.out.2.2 hp ho
  clear hp ho hs H1
  obtain ⟨p, hp⟩ : ∃ p, p = w.heap.size + 1 := ⟨_, rfl⟩
  obtain ⟨c, hc⟩ : ∃ c, c = w.heap.size := ⟨_, rfl⟩
  obtain ⟨q, hq⟩ : ∃ q, q = w1.heap.size + 1 := ⟨_, rfl⟩
  obtain ⟨d, hd⟩ : ∃ d, d = w1.heap.size := ⟨_, rfl⟩
  have H2 : Hid (Twain w w2 p c 4 [] false q d 3 [] false) := Lib.hid (by rw [hp, hc, hq, hd]; exact ht)
  rw [← hp, ← hq]
  clear ht hp hc hq hd
  go_upto_region 6 with fail
  go_cut [11] from 38 to 40 (fun s wx => (∃ n : Nat, n ≤ lenA ∧ n ≤ 300 ∧ s = .int .i64 n) ∧ wx = w2)
  case first =>
    go_wp2
    all_goals
      go_meet
      first
        | exact ⟨⟨300, by omega, Nat.le_refl _, rfl⟩, rfl⟩
        | exact ⟨⟨lenA, Nat.le_refl _, by omega, rfl⟩, rfl⟩
  case rest =>
    obtain ⟨⟨n, hn1, hn2, rfl⟩, rfl⟩ := hcut
    go_wp2_with fail
    go_loopw [9, 10, 12] (fun sa sh si wr => ∃ (a h i : Nat), h ≤ a ∧ a ≤ n ∧ i ≤ 300 + h ∧ sa = .int .i64 a ∧ sh = .int .i64 h ∧ si = .int .i64 i ∧ Hid (∃ LA LB, Twain w wr p c 4 LA false q d 3 LB false ∧ Flow ss a h LA LB)) (fun _ _ i _ => 2000 - (intOf i).toNat)
    case atStart => exact ⟨0, 0, 0, Nat.le_refl _, Nat.zero_le _, by omega, rfl, rfl, rfl, Lib.hid ⟨[], [], H2.out, by simp [Flow]⟩⟩
    case round =>
      obtain ⟨a, h, i, hha, han, hih, rfl, rfl, rfl, HD⟩ := hrel
      obtain ⟨wk, rfl⟩ : ∃ wk, wk = wr := ⟨_, rfl⟩
      by_cases hhn : h < n
      · obtain ⟨LA0, LB, hD⟩ := HD.out
        have HD0 := Lib.hid hD
        clear hD HD
        have hi2 : (i : Int) < 2000 := by omega
        have HIH := Lib.hid hih
        clear hih
        go_wp2_with fail
        go_loopw [9] (fun sa wr => ∃ a' : Nat, h ≤ a' ∧ a' ≤ n ∧ sa = .int .i64 a' ∧ Hid (∃ LA, Twain w wr p c 4 LA false q d 3 LB false ∧ Flow ss a' h LA LB)) (fun sa _ => n - (intOf sa).toNat)
        case atStart => exact ⟨a, hha, han, rfl, Lib.hid ⟨LA0, HD0.out⟩⟩
        case round =>
          obtain ⟨a', ha1, ha2, rfl, HE⟩ := hrel
          obtain ⟨wj, rfl⟩ : ∃ wj, wj = wr := ⟨_, rfl⟩
          obtain ⟨LA, hE⟩ := HE.out
          have HE0 := Lib.hid hE
          clear hE HE HD0
          by_cases han' : a' < n
          focus
            obtain ⟨z, hao, hz, x0, hbl⟩ := HA.out a' (by omega)
            try subst hao
            have x0 : wj.cell? ⟨bA, offA + a', none⟩ = some (.string z) := (HE0.out.1.old.cell (p := ⟨bA, offA + a', none⟩) hbl).trans x0
            have HZ := Lib.hid hz
            clear hz hbl
            have p0 : (0 : Int) ≤ (a' : Int) := by omega
            have p1 : (a' : Int) < (lenA : Int) := by omega
            by_cases hroom : LA.length < 4
            · go_wp2_with fail
              refine (HE0.out.1.send z).mono ?_
              rintro e w3 ⟨rfl, ht⟩
              have hsd : sends 4 LA false = true := by simp [sends, hroom]
              rw [hsd]
              rw [sent, hsd, if_pos rfl] at ht
              have HF := Lib.hid (And.intro ht (HE0.out.2.send ha1 HZ.out))
              clear ht hsd
              go_wp2_with fail
              go_roundw
              case rel => exact ⟨a' + 1, by omega, by omega, by go_num, Lib.hid ⟨_, HF.out⟩⟩
              case measure => simp [intOf] <;> omega
            go_wp2_with fail
            refine (HE0.out.1.send z).mono ?_
            rintro e w3 ⟨rfl, ht⟩
            have hsd : sends 4 LA false = false := by simp [sends]; omega
            rw [hsd]
            rw [sent, hsd, if_neg (by simp)] at ht
            have HF := Lib.hid (And.intro ht HE0.out.2)
            clear ht hsd
            have HFull : Hid (a' = n ∨ 4 ≤ LA.length) := Lib.hid (.inr (by omega))
            clear x0 hroom
            go_wp2_with fail
          rotate_left
          focus
            have HF := HE0
            have HFull : Hid (a' = n ∨ 4 ≤ LA.length) := Lib.hid (.inl (by omega))
            go_wp2_with fail
          all_goals
            refine (HF.out.1.move).mono ?_
            rintro e w4 ⟨rfl, ht⟩
            obtain ⟨m, hmv⟩ : ∃ m, moved LA 3 LB false = m := ⟨_, rfl⟩
            rw [hmv] at ht ⊢
            have hne : LB ++ LA.take m ≠ [] := by
              intro h0
              obtain ⟨hb, htk⟩ := List.append_eq_nil_iff.1 h0
              have hl := HF.out.2.len (by have := HL.out; omega)
              have hfull := HFull.out
              subst hb
              have hpos : 0 < LA.length := by simp only [List.length_nil] at hl; omega
              have hm0 : m = min LA.length 3 := by rw [← hmv]; rfl
              have := congrArg List.length htk
              rw [List.length_take, List.length_nil] at this
              omega
            obtain ⟨LB2, hLB2⟩ : ∃ LB2, LB ++ LA.take m = LB2 := ⟨_, rfl⟩
            obtain ⟨LA2, hLA2⟩ : ∃ LA2, LA.drop m = LA2 := ⟨_, rfl⟩
            have hfl := HF.out.2.move m
            rw [hLB2, hLA2] at hfl ht
            rw [hLB2] at hne
            have H4 := Lib.hid (And.intro ht (And.intro hfl hne))
            clear ht hfl hne hLB2 hLA2 hmv HFull HF
            have hi0 : (0 : Int) ≤ (i : Int) := by omega
            go_upto_region 14 with fail
            go_cut [73] from 66 to 73 (fun s wx => (∃ t : Bool, (t = true → i < lenB ∧ i < 300) ∧ s = .bool t) ∧ w4 = wx)
            case first =>
              by_cases hlt : i < lenB
              · have hlt' : (i : Int) < (lenB : Int) := by omega
                by_cases h300 : i < 300
                · have h300' : (i : Int) < 300 := by omega
                  go_wp2
                  go_meet
                  exact ⟨⟨true, fun _ => ⟨hlt, h300⟩, rfl⟩, rfl⟩
                · have hd : decide ((i : Int) < 300) = false := by rw [decide_eq_false_iff_not]; omega
                  go_wp2
                  go_meet
                  exact ⟨⟨false, (fun h => by cases h), rfl⟩, rfl⟩
              · have hd : decide ((i : Int) < (lenB : Int)) = false := by rw [decide_eq_false_iff_not]; omega
                go_wp2
                go_meet
                exact ⟨⟨false, (fun h => by cases h), rfl⟩, rfl⟩
            case rest =>
              obtain ⟨⟨t, ht3, rfl⟩, rfl⟩ := hcut
              have HT3 := Lib.hid ht3
              clear ht3
              go_upto_if 73 with fail
              go_cut [13] from 74 to 78 (fun s wx => (∃ K : Nat, K ≤ 3 ∧ (300 ≤ i → K = 1) ∧ s = .int .i64 K) ∧ w4 = wx)
              case first =>
                cases t with
                | true =>
                  obtain ⟨hlt, h300⟩ := HT3.out rfl
                  have hlt' : (i : Int) < (lenB : Int) := by omega
                  obtain ⟨z, hao, _, _, x0, hbl⟩ := HB.out i hlt
                  try subst hao
                  have x0 : w4.cell? ⟨bB, offB + i, none⟩ = some (.int .i64 z) := (H4.out.1.old.cell (p := ⟨bB, offB + i, none⟩) hbl).trans x0
                  obtain ⟨hK0, hK1⟩ : 0 ≤ bits .and .i64 z 3 ∧ bits .and .i64 z 3 ≤ 3 := and_le z 3 (by decide) (by omega)
                  obtain ⟨K, hK⟩ : ∃ K : Nat, bits .and .i64 z 3 = (K : Int) := ⟨(bits .and .i64 z 3).toNat, by omega⟩
                  have hK3 : K ≤ 3 := by omega
                  clear hK0 hK1
                  go_wp2
                  go_meet
                  exact ⟨⟨K, hK3, fun h => by omega, rfl⟩, rfl⟩
                | false =>
                  go_wp2
                  go_meet
                  exact ⟨⟨1, by omega, fun _ => rfl, rfl⟩, rfl⟩
              case rest =>
                obtain ⟨⟨K, hK3, hK300, rfl⟩, rfl⟩ := hcut
                have HK300 := Lib.hid hK300
                clear hK300
                go_wp2_with fail
                go_loopw [10, 13] (fun sh sk wr => ∃ (j r hv : Nat), Hid (hv = h + j ∧ K = j + r ∧ hv ≤ a' ∧ h ≤ hv) ∧ r ≤ 3 ∧ hv ≤ n ∧ sh = .int .i64 hv ∧ sk = .int .i64 r ∧ Hid (Twain w wr p c 4 LA2 false q d 3 (LB2.drop j) false ∧ Flow ss a' hv LA2 (LB2.drop j))) (fun _ sk _ => (intOf sk).toNat)
                case atStart => exact ⟨0, K, h, Lib.hid ⟨by omega, by omega, ha1, by omega⟩, hK3, by omega, rfl, rfl, Lib.hid ⟨H4.out.1, H4.out.2.1⟩⟩
                case round =>
                  obtain ⟨j, r, hv, HJ, hr3, hvn, rfl, rfl, HT⟩ := hrel
                  obtain ⟨wt, rfl⟩ : ∃ wt, wt = wr := ⟨_, rfl⟩
                  by_cases hr0 : 0 < r
                  focus
                    have hr0' : (0 : Int) < (r : Int) := by omega
                    obtain ⟨LB3, hLB3⟩ : ∃ LB3, LB2.drop j = LB3 := ⟨_, rfl⟩
                    have HT3 := HT.out
                    rw [hLB3] at HT3
                    have HB3 := Lib.hid hLB3
                    clear hLB3
                    rcases LB3 with _ | ⟨x, LB4⟩
                    rotate_left
                    · skip
                      have HT4 := Lib.hid HT3
                      clear HT3
                      obtain ⟨hf, hva, hx⟩ := HT4.out.2.take
                      obtain ⟨z, hao, hz, x0, hbl⟩ := HA.out hv (by omega)
                      try subst hao
                      rw [hz, Option.some.injEq] at hx
                      subst hx
                      have HX0 := Lib.hid (And.intro x0 hbl)
                      have HF4 := Lib.hid hf
                      clear hz x0 hbl hf
                      go_wp2_with fail
                      refine (HT4.out.1.swap.take).mono ?_
                      rintro e w5 ⟨rfl, ht⟩
                      simp only [headOr, List.isEmpty_cons, Bool.not_false, List.tail_cons] at ht ⊢
                      have x1 : w5.cell? ⟨bA, offA + hv, none⟩ = some (.string z) := (ht.old.cell (p := ⟨bA, offA + hv, none⟩) HX0.out.2).trans HX0.out.1
                      have HT5 := Lib.hid ht.swap
                      clear ht
                      have p0 : (0 : Int) ≤ (hv : Int) := by omega
                      have p1 : (hv : Int) < (lenA : Int) := by omega
                      clear hi2
                      go_wp2_with fail
                      go_roundw
                      case rel =>
                        refine ⟨j + 1, r - 1, hv + 1, Lib.hid (by have := HJ.out; omega), by omega, by omega, by go_num, by go_num, Lib.hid ?_⟩
                        have hd4 : LB2.drop (j + 1) = LB4 := by
                          have := congrArg List.tail HB3.out
                          rw [List.tail_drop] at this
                          exact this
                        rw [hd4]
                        exact ⟨HT5.out, HF4.out⟩
                      case measure => simp [intOf] <;> omega
                    have HT4 := Lib.hid HT3
                    clear HT3
                    have HPr : Hid (i + 1 ≤ 300 + hv) := Lib.hid (by
                      have h1 := congrArg List.length HB3.out
                      rw [List.length_drop, List.length_nil] at h1
                      have h2 : 0 < LB2.length := List.length_pos_iff.2 H4.out.2.2
                      have := HJ.out
                      have := HIH.out
                      omega)
                    go_wp2_with fail
                    refine (HT4.out.1.swap.take).mono ?_
                    rintro e w5 ⟨rfl, ht⟩
                    simp only [headOr, List.isEmpty_nil, Bool.not_true, List.tail_nil] at ht ⊢
                    have HZZ : Hid (∃ LB5, Twain w w5 p c 4 LA2 false q d 3 LB5 false ∧ Flow ss a' hv LA2 LB5) := Lib.hid ⟨[], ht.swap, HT4.out.2⟩
                    clear ht
                    go_wp2_with fail
                  rotate_left
                  focus
                    have HPr : Hid (i + 1 ≤ 300 + hv) := Lib.hid (by
                      have h1 := HJ.out
                      have h2 := HIH.out
                      by_cases h300 : 300 ≤ i
                      · have := HK300.out h300; omega
                      · omega)
                    have HZZ : Hid (∃ LB5, Twain w wt p c 4 LA2 false q d 3 LB5 false ∧ Flow ss a' hv LA2 LB5) := Lib.hid ⟨_, HT.out⟩
                    have hr00 : r = 0 := by omega
                    subst hr00
                    go_wp2_with fail
                  all_goals
                    obtain ⟨LB5, hzz⟩ := HZZ.out
                    have H6 := Lib.hid hzz
                    clear hzz
                    obtain ⟨l1, hl1⟩ : ∃ l1, LA2.length = l1 := ⟨_, rfl⟩
                    obtain ⟨l2, hl2⟩ : ∃ l2, LB5.length = l2 := ⟨_, rfl⟩
                    have hsum : l1 + l2 = a' - hv ∧ hv ≤ a' := by
                      have h1 := H6.out.2.len (by have := HL.out; omega)
                      have h2 := HJ.out
                      omega
                    obtain ⟨g, hg⟩ : ∃ g, a' - hv = g := ⟨_, rfl⟩
                    have g1 : (l1 : Int) + (l2 : Int) = (g : Int) := by omega
                    have g2 : (a' : Int) - (hv : Int) = (g : Int) := by omega
                    have g3 : l1 ≤ 300 := by omega
                    have g4 : l2 ≤ 300 := by omega
                    have hi3 : (i : Int) + 1 ≤ 9223372036854775807 := by omega
                    have HLL := Lib.hid (And.intro hl1 (And.intro hl2 (And.intro hsum hg)))
                    clear hl1 hl2 hsum hg hi2
                    refine (H6.out.1.len).mono ?_
                    rintro e w7 ⟨rfl, rfl⟩
                    rw [HLL.out.1]
                    go_wp2_with fail
                    refine (H6.out.1.swap.len).mono ?_
                    rintro e w8 ⟨rfl, rfl⟩
                    rw [HLL.out.2.1]
                    go_wp2_with fail
                    go_roundw
                    case rel => exact ⟨a', hv, i + 1, HLL.out.2.2.1.2, ha2, by have := HPr.out; omega, rfl, rfl, by go_num, Lib.hid ⟨_, _, H6.out⟩⟩
                    case measure => have := HIH.out; simp [intOf] <;> omega
      · have hi2 : (i : Int) < 2000 := by omega
        have hhe : h = n := by omega
        have HIH := Lib.hid hih
        clear hih
        go_wp2_with fail
        refine (fixed_true wk).mono ?_
        rintro e w12 ⟨rfl, ho⟩
        obtain ⟨_, _, hD, _⟩ := HD.out
        have HG := Lib.hid (hD.old.trans (ho.mono hD.old.size))
        clear ho hD
        go_wp2_with fail
        go_ret
        exact ⟨rfl, HG.out⟩

end Go.Proofs.Ytknjniadphoflaa
