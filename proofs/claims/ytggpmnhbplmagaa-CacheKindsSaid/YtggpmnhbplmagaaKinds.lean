/-
  CacheKinds (stillagelaw04): the walk.
-/
import Derived.Test.YtggpmnhbplmagaaKin
import Derived.Test.YtggpmnhbplmagaaBytes
import Derived.Test.YtggpmnhbplmagaaDoes
namespace Go.Proofs.Ytggpmnhbplmagaa
open Go.RowKit Go.Conc

set_option maxRecDepth 4000 in
set_option maxHeartbeats 400000 in
theorem kinds_no (n : Int) (v : Value) (w : World) (h' : n < 1 ∨ 65536 < n) : Calls Try.prog 5 #[.int .i64 n, v] w fun e w' => e = .returned (.bool true) ∧ Below w.heap.size w w' := by
  have HN := Lib.hid (newIS_no n h' w)
  have HM := Lib.hid (newSI_no n h' w)
  clear h'
  go_enter Try.func5, Try.ntmps5
  go_wp2_with fail
  refine HN.out.mono ?_
  rintro e w1 ⟨rfl, rfl⟩
  go_wp2_with fail
  refine HM.out.mono ?_
  rintro e w1 ⟨rfl, rfl⟩
  go_wp2_with fail
  refine (fixed_true w1).mono ?_
  rintro e w2 ⟨rfl, ho⟩
  have H2 := Lib.hid ho
  clear ho
  go_wp2_with fail
  go_ret
  exact ⟨rfl, H2.out⟩

set_option maxRecDepth 4000 in
set_option maxHeartbeats 4000000 in
theorem kinds_yes (room : Nat) (v : Value) (ops : List (Int × Int × ByteArray)) (w : World) (h1 : 1 ≤ room) (h2 : room ≤ 65536) (hops : OpsIn w v ops) :
    Calls Try.prog 5 #[.int .i64 room, v] w fun e w' => e = .returned (.bool true) ∧ Below w.heap.size w w' := by
  obtain ⟨ao, cap, rfl, hm, hx⟩ := hops
  obtain ⟨len, hlen⟩ : ∃ len, ops.length = len := ⟨_, rfl⟩
  rw [hlen] at hm hx ⊢
  have HX := Lib.hid hx
  have HL := Lib.hid hlen
  clear hx hlen
  have HN := Lib.hid (lawNewIS room (by omega) (by omega) w)
  go_enter Try.func5, Try.ntmps5
  go_wp2_with fail
  refine HN.out.mono ?_
  rintro e w1 ⟨rfl, ⟨ow, ha, hoa⟩, hb1, _⟩
  obtain ⟨a, hca⟩ : ∃ a, a = w.heap.size + 2 := ⟨_, rfl⟩
  rw [← hca] at ha ⊢
  rw [Int.toNat_natCast] at ha
  have H1 := Lib.hid (And.intro ha (And.intro hoa hb1))
  have HM := Lib.hid (lawNewSI room (by omega) (by omega) w1)
  clear ha hoa hb1 hca HN
  go_wp2_with fail
  refine HM.out.mono ?_
  rintro e w2 ⟨rfl, ⟨ox, hb, hob⟩, hb2, _⟩
  obtain ⟨cb, hcb⟩ : ∃ cb, cb = w1.heap.size + 2 := ⟨_, rfl⟩
  rw [← hcb] at hb ⊢
  rw [Int.toNat_natCast] at hb
  have H0 : Hid (Kin w w2 [] a room cb room [] ([].map twin) ∧ Low []) := Lib.hid ⟨Kin.start H1.out.1 H1.out.2.1 H1.out.2.2 hb hob hb2, fun _ h => by cases h⟩
  clear hb hob hb2 hcb HM H1
  go_wp2_with fail
  go_loopw [9] (fun i wr => ∃ (k : Nat) (L : List (Int × ByteArray)), k ≤ len ∧ k ≤ 300 ∧ i = .int .i64 k ∧ Hid (Kin w wr [] a room cb room L (L.map twin) ∧ Low L)) (fun i _ => 300 - (intOf i).toNat)
  case atStart => exact ⟨0, [], Nat.zero_le _, by omega, rfl, H0⟩
  case round =>
    obtain ⟨k, L, hk, hk3, rfl, HD⟩ := hrel
    obtain ⟨wk, rfl⟩ : ∃ wk, wk = wr := ⟨_, rfl⟩
    by_cases hlt : k < len ∧ k < 300
    · obtain ⟨ht, hf⟩ := hlt
      obtain ⟨b, off, hao, hcell⟩ := HX.out (by omega)
      obtain ⟨kd, n, s, hop, x0, x1, x2⟩ := hcell k ht
      clear hcell hop
      subst hao
      have hbl := World.block_lt_of_cell? _ _ x0
      have hdb := HD.out.1.below
      have x0 : wk.cell? ⟨b, off + k * 3, none⟩ = some (.int .i64 kd) := (hdb.cell (p := ⟨b, off + k * 3, none⟩) hbl).trans x0
      have x1 : wk.cell? ⟨b, off + k * 3 + 1, none⟩ = some (.int .i64 n) := (hdb.cell (p := ⟨b, off + k * 3 + 1, none⟩) hbl).trans x1
      have x2 : wk.cell? ⟨b, off + k * 3 + 2, none⟩ = some (.string s) := (hdb.cell (p := ⟨b, off + k * 3 + 2, none⟩) hbl).trans x2
      clear hdb
      have hkl : (k : Int) < (len : Int) := by omega
      have hk300 : (k : Int) < 300 := by omega
      obtain ⟨hK0, hK1⟩ := and63 n
      obtain ⟨K, hK⟩ : ∃ K, bits .and .i64 n 63 = K := ⟨_, rfl⟩
      rw [hK] at hK0 hK1
      have hs : ∀ m, (convert 46 9 (.slice (some ⟨wk.heap.size + 1, 0, none⟩) 1 1)).run Try.prog ((wk.alloc (.cells #[.int .i64 kd, .int .i64 n, .string s] 36)).alloc (.cells #[.int .u8 m] 5)) = .ok (.string (byteStr [m])) ((wk.alloc (.cells #[.int .i64 kd, .int .i64 n, .string s] 36)).alloc (.cells #[.int .u8 m] 5)) :=
        fun m => run_str1 _ _ (by simp) m
      have HDb : Hid (∀ m, Kin w ((wk.alloc (.cells #[.int .i64 kd, .int .i64 n, .string s] 36)).alloc (.cells #[.int .u8 m] 5)) [(wk.heap.size, .cells #[.int .i64 kd, .int .i64 n, .string s] 36)] a room cb room L (L.map twin)) :=
        Lib.hid fun m => (HD.out.1.alloc _).kept ((Below.refl _ _).alloc (Nat.le_refl _) _)
      rcases (show kd = 0 ∨ kd = 1 ∨ kd = 2 ∨ ((kd == 0) = false ∧ (kd == 1) = false ∧ (kd == 2) = false) by simp; omega) with rfl | rfl | rfl | ⟨n0, n1, n2⟩
      focus
        go_wp2_with fail
        refine ((HDb.out _).getA K).mono ?_
        rintro e w2 ⟨rfl, h⟩
        have HG := Lib.hid h
        clear h
        obtain hlk | ⟨t, hlk⟩ : look K L = none ∨ ∃ t, look K L = some t := by cases look K L <;> simp
        all_goals
          rw [hlk]
          simp only [orZero, Option.isSome_none, Option.isSome_some]
          go_wp2_with fail
          refine (HG.out.getB (keyOf K)).mono ?_
          rintro e w3 ⟨rfl, h⟩
          rw [used_twin ⟨hK0, hK1⟩ HD.out.2] at h
          rw [look_twin ⟨hK0, hK1⟩ HD.out.2, hlk]
          simp only [orZero, Option.isSome_none, Option.isSome_some, Option.map_none, Option.map_some]
          have HE := Lib.hid (And.intro h.forget (HD.out.2.used ⟨hK0, hK1⟩))
          clear h HG hlk
          generalize used K L = N at HE
          go_wp2_with fail
      rotate_left
      rotate_left
      focus
        go_wp2_with fail
        refine ((HDb.out _).putA K s).mono ?_
        rintro e w2 ⟨rfl, h⟩
        have hb := h.held (List.mem_singleton_self _)
        have y2 : w2.cell? ⟨wk.heap.size, 2, none⟩ = some (.string s) := by rw [cell_of hb]; rfl
        have HG := Lib.hid h
        clear h hb
        obtain hlk | ⟨g, hlk⟩ : goes room K L = none ∨ ∃ g, goes room K L = some g := by cases goes room K L <;> simp
        focus
          rw [hlk]
          simp only [orZero, Option.isSome_none]
          go_wp2_with fail
          refine (HG.out.putB (keyOf K) (s.size : Int)).mono ?_
          rintro e w3 ⟨rfl, h⟩
          rw [putIn_twin ⟨hK0, hK1⟩ HD.out.2] at h
          rw [goes_twin ⟨hK0, hK1⟩ HD.out.2, hlk]
          simp only [orZero, Option.isSome_none, Option.map_none]
          have HE := Lib.hid (And.intro h.forget (HD.out.2.putIn (room := room) (s := s) ⟨hK0, hK1⟩))
          clear h HG hlk y2
          generalize putIn room K s L = N at HE
          go_wp2_with fail
        rotate_left
        focus
          obtain ⟨hg0, hg1⟩ := goes_low HD.out.2 hlk
          rw [hlk]
          simp only [orZero, Option.isSome_some]
          go_wp2_with fail
          refine (HG.out.putB (keyOf K) (s.size : Int)).mono ?_
          rintro e w3 ⟨rfl, h⟩
          rw [putIn_twin ⟨hK0, hK1⟩ HD.out.2] at h
          rw [goes_twin ⟨hK0, hK1⟩ HD.out.2, hlk]
          simp only [orZero, Option.isSome_some, Option.map_some]
          have hs3 : ∀ m, (convert 46 9 (.slice (some ⟨w3.heap.size, 0, none⟩) 1 1)).run Try.prog (w3.alloc (.cells #[.int .u8 m] 5)) = .ok (.string (byteStr [m])) (w3.alloc (.cells #[.int .u8 m] 5)) :=
            fun m => run_str1 _ _ rfl m
          have HE0 := Lib.hid (And.intro (fun m => h.forget.kept ((Below.refl _ _).alloc (Nat.le_refl _) (.cells #[.int .u8 m] 5))) (HD.out.2.putIn (room := room) (s := s) ⟨hK0, hK1⟩))
          clear h HG hlk y2
          generalize putIn room K s L = N at HE0
          unfold keyOf
          go_wp2_with fail
          have HE := Lib.hid (And.intro (HE0.out.1 (g + 32)) HE0.out.2)
          clear HE0 hs3
          generalize w3.alloc (.cells #[.int .u8 (g + 32)] 5) = w3' at HE ⊢
      rotate_left
      rotate_left
      focus
        go_wp2_with fail
        refine ((HDb.out _).dropA K).mono ?_
        rintro e w2 ⟨rfl, h⟩
        have HG := Lib.hid h
        clear h
        go_wp2_with fail
        refine (HG.out.dropB (keyOf K)).mono ?_
        rintro e w3 ⟨rfl, h⟩
        rw [without_twin ⟨hK0, hK1⟩ HD.out.2] at h
        rw [look_twin ⟨hK0, hK1⟩ HD.out.2, Option.isSome_map]
        have HE := Lib.hid (And.intro h.forget (HD.out.2.without (n := K)))
        clear h HG
        generalize without K L = N at HE
        go_wp2_with fail
      rotate_left
      focus
        go_wp2_with fail
        have HE := Lib.hid (And.intro (HDb.out (K + 32)).forget HD.out.2)
        generalize L = N at HE
        generalize (wk.alloc (.cells #[.int .i64 kd, .int .i64 n, .string s] 36)).alloc (.cells #[.int .u8 (K + 32)] 5) = w3' at HE ⊢
      all_goals
        refine HE.out.1.keysA.mono ?_
        rintro e w4 ⟨v1, rfl, hown1, hb1⟩
        obtain ⟨m, hml⟩ : ∃ m, N.length = m := ⟨_, rfl⟩
        rw [hml] at hown1
        obtain ⟨ao1, cap1, rfl⟩ := shape_of hown1
        have HM := Lib.hid hml
        have HF := Lib.hid (And.intro (HE.out.1.kept hb1) HE.out.2)
        clear hown1 hb1 hml
        go_wp2_with fail
        refine HF.out.1.keysB.mono ?_
        rintro e w5 ⟨v2, rfl, hown2, hb2⟩
        rw [List.length_map, HM.out] at hown2
        obtain ⟨ao2, cap2, rfl⟩ := shape_of hown2
        have HJ := Lib.hid (And.intro (HF.out.1.kept hb2) HF.out.2)
        clear hown2 hb2
        go_wp2_with fail
        go_roundw
        case rel => exact ⟨k + 1, N, by omega, by omega, by go_num, HJ⟩
        case measure => simp [intOf]; omega
    · by_cases hkl : k < len
      · have hd : decide ((k : Int) < 300) = false := by rw [decide_eq_false_iff_not]; omega
        go_wp2_with fail
        refine (fixed_true wk).mono ?_
        rintro e w9 ⟨rfl, ho⟩
        have H9 := Lib.hid (HD.out.1.below.trans (ho.mono HD.out.1.below.size))
        clear ho
        go_wp2_with fail
        go_ret
        exact ⟨rfl, H9.out⟩
      · have hd : decide ((k : Int) < (len : Int)) = false := by rw [decide_eq_false_iff_not]; omega
        go_wp2_with fail
        refine (fixed_true wk).mono ?_
        rintro e w9 ⟨rfl, ho⟩
        have H9 := Lib.hid (HD.out.1.below.trans (ho.mono HD.out.1.below.size))
        clear ho
        go_wp2_with fail
        go_ret
        exact ⟨rfl, H9.out⟩

theorem kinds_walk (n : Int) (v : Value) (ops : List (Int × Int × ByteArray)) (w : World) (hops : OpsIn w v ops) :
    Calls Try.prog 5 #[.int .i64 n, v] w fun e w' => e = .returned (.bool true) ∧ Below w.heap.size w w' := by
  by_cases h : 1 ≤ n ∧ n ≤ 65536
  · obtain ⟨room, rfl⟩ : ∃ room : Nat, n = room := ⟨n.toNat, by omega⟩
    exact kinds_yes room v ops w (by omega) (by omega) hops
  · exact kinds_no n v w (by omega)

end Go.Proofs.Ytggpmnhbplmagaa
