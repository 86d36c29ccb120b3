/-
  The link: Send of a message that is late.
-/
import Derived.Test.YteolokckflckaaaSend
import Derived.Deep.RegionLaw
namespace Go.Proofs.Yteolokckflckaaa
open Go.RowKit Go.Conc

set_option maxHeartbeats 1000000 in
theorem send_late (w : World) (p room : Nat) (own : List Nat) (C : List ByteArray) (T : List (ByteArray × Nat)) (s : ByteArray) (n m : Int) (h : LinkIs w p room own C T) (h1 : 1 ≤ n) (h8 : n ≤ 8) (hT : T.length < 100000) :
    Calls Try.prog 8 #[.pointer (some ⟨p, 0, none⟩), .string s, fate 3 n m] w fun e w' => e = .returned (.int .i64 0) ∧ LinkTurn w w' p room own C (T ++ [(s, n.toNat)]) := by
  have hmf : ∀ (fn : Fn) (first cap : Array Value) (w : World), (Instr.makeFunc fn first cap).run Try.prog w = .ok (.func fn first cap) w := fun _ _ _ _ => rfl
  have H := Lib.hid h
  clear h
  have HM : Hid (mayB 3 n = true) := Lib.hid (by simp [mayB, h1, h8])
  go_enter Try.func8, Try.ntmps8
  go_wp2_with fail
  refine (may 3 n m _).mono ?_
  rintro e w1 ⟨rfl, hb⟩
  rw [HM.out]
  have hf := fate_cells hb
  have y0 : w1.cell? ⟨w.heap.size, 0, none⟩ = some (.int .i64 3) := by rw [cell_of hf.2]; rfl
  have y1 : w1.cell? ⟨w.heap.size, 1, none⟩ = some (.int .i64 n) := by rw [cell_of hf.2]; rfl
  have y2 : w1.cell? ⟨w.heap.size, 2, none⟩ = some (.int .u8 m) := by rw [cell_of hf.2]; rfl
  have HL := Lib.hid (And.intro (H.out.below hf.1) hf.1)
  have HF := Lib.hid hf.2
  clear hb hf
  obtain ⟨i0, hi0, hz0, hz1, hz2⟩ := info_parts info56
  obtain ⟨vc, vl, hA, hown⟩ := HL.out.1
  obtain ⟨fb, hfb⟩ : ∃ fb, fb = w.heap.size := ⟨_, rfl⟩
  rw [← hfb] at y0 y1 y2 HF ⊢
  have HA := Lib.hid (And.intro hA hown)
  have hA1 := hA.1
  have hlies : Lies p fb 3 n m w1 := ⟨⟨_, hA.1, rfl⟩, HF.out⟩
  have HLi := Lib.hid hlies
  have hS0 := hlies.cells
  have hv : cell2 p w1 = vl := by unfold cell2; rw [cell_of hA.1]; rfl
  have HO : Hid ((w1.alloc (.cells #[.string s, .int .i64 n] 56)).drew.ownsRow 0 56 2 (cell2 p w1) T.length (lateCells T)) := by
    rw [hv]; exact Lib.hid (hA.2.2.1.alloc _)
  have a2 : (w1.alloc (.cells #[.string s, .int .i64 n] 56)).cell? ⟨p, 2, none⟩ = some (cell2 p w1) := by
    rw [World.cell?_alloc_lt _ _ _ (show p < _ from lt_of_block hA.1)]; exact hS0.1
  have HS := Lib.hid (src_two w1 56 (.string s) (.int .i64 n) rfl rfl)
  have HB : Hid (T.length + 1 ≤ maxLen ∧ (T.length + 1) * 24 ≤ 140737488355328) := Lib.hid (by unfold maxLen; omega)
  have HV := Lib.hid (And.intro hv hfb)
  clear hA hown hA1 hlies hv hfb
  go_wp2_with fail
  go_region_law
    ((refine step_append_src (P := Try.prog) _ (by rfl) (.tmp 34) (.tmp 39) 50 (by rfl) 0 56 i0 (.agg #[.string ⟨#[]⟩, .int .i64 0]) 2 24 Try.underlying50 hi0 hz0 hz1 hz2 (by rfl) (by omega) (cell2 p w1) T.length (lateCells T) (by rfl) (by exact HO.out) (.slice (some ⟨w1.heap.size, 0, none⟩) 1 1) 1 [.string s, .int .i64 n] (by rfl) (by exact HS.out.drew) HB.out.1 HB.out.2 (Nat.zero_le _) ?_
      intro v1 w2 hown1 hgrow1 hat1
      obtain ⟨av, cv, hv1⟩ := shape_of hown1
      subst hv1
      have hS2 := Lies.grown (u := (w1.alloc (.cells #[.string s, .int .i64 n] 56)).drew) (p := p) (fb := fb) (k := 3) (n := n) (m := m) (by exact Lies.alloc HLi.out.cells (.cells #[.string s, .int .i64 n] 56)) (by exact hgrow1) (fun q hq => (owns_block HO.out q hq).2)))
  all_goals
    have HZ := Lib.hid (And.intro hown1 (And.intro hgrow1 hat1))
    clear hown1 hgrow1 hat1 hS2 hS0 a2
    go_wp2
    go_ret
    refine ⟨rfl, LinkTurn.after HL.out.2 ?_⟩
    rw [HA.out.2]
    have hk : Kept (fun g => vl.ownBlock = some g) w1 w2 := by
      rw [← HV.out.1]
      exact (((Kept.refl _ w1).alloc _).drew).trans (Kept.of_grown (w := (w1.alloc (.cells #[.string s, .int .i64 n] 56)).drew) HZ.out.2.1 (fun _ e => e))
    refine LinkTurn.storeL HA.out.1 hk ?_ (fun g hg => ?_) (by rw [List.length_append, List.length_singleton]; omega)
    · have e : lateCells (T ++ [(s, n.toNat)]) = lateCells T ++ [.string s, .int .i64 n] := by
        unfold lateCells
        rw [List.flatMap_append]
        simp only [List.flatMap_cons, List.flatMap_nil, List.append_nil]
        rw [show ((n.toNat : Nat) : Int) = n by omega]
      rw [e, List.length_append, List.length_singleton]
      exact HZ.out.1
    · rcases HZ.out.2.2 with e | e
      · rw [e, HV.out.1] at hg; exact .inl hg
      · rw [e, Option.some.injEq] at hg
        refine .inr ?_
        rw [← hg]
        simp

/-- Send. -/
theorem send (w : World) (p room : Nat) (own : List Nat) (C : List ByteArray) (T : List (ByteArray × Nat)) (s : ByteArray) (k n m : Int) (h : LinkIs w p room own C T) (hT : T.length < 100000) :
    Calls Try.prog 8 #[.pointer (some ⟨p, 0, none⟩), .string s, fate k n m] w fun e w' => e = .returned (.int .i64 (if mayB k n then 0 else 180)) ∧
      LinkTurn w w' p room own (if mayB k n then sendC room C s k n m else C) (if mayB k n then sendT T s k n else T) := by
  cases hm : mayB k n with
  | false => exact send_no w p room own C T s k n m h hm
  | true =>
    simp only [if_true]
    unfold sendC sendT
    by_cases h3 : k = 3
    · subst h3
      have hb : 1 ≤ n ∧ n ≤ 8 := by simpa [mayB] using hm
      exact send_late w p room own C T s n m h hb.1 hb.2 hT
    · by_cases h4 : k = 4
      · subst h4
        have hb : 0 ≤ n := by simpa [mayB] using hm
        exact send_turn w p room own C T s n m h hb
      · have hb : 0 ≤ k ∧ k < 5 := by simpa [mayB, h3, h4] using hm
        rcases (show k = 0 ∨ k = 1 ∨ k = 2 by omega) with rfl | rfl | rfl
        · exact send_go w p room own C T s n m h
        · exact send_drop w p room own C T s n m h
        · exact send_twice w p room own C T s n m h

end Go.Proofs.Yteolokckflckaaa
