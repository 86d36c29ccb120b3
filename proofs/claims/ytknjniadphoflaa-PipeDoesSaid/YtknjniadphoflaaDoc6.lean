/-
  The document's pipe (stillageref05): Move.
-/
import Derived.Test.YtknjniadphoflaaDoc5
namespace Go.Proofs.Ytknjniadphoflaa
open Go.RowKit Go.Conc

set_option maxRecDepth 4000 in
set_option maxHeartbeats 2000000 in
theorem docMove (w : World) (oa ob : List Nat) (a ra : Nat) (la : List Int) (cla : Bool) (b rb : Nat) (lb : List Int) (clb : Bool) (h : DocPair w oa ob w a ra la cla b rb lb clb) :
    Calls Try.prog 20 #[.pointer (some ⟨a, 0, none⟩), .pointer (some ⟨b, 0, none⟩)] w fun e w' => e = .returned (.int .i64 (moved la rb lb clb)) ∧
      DocPair w oa ob w' a ra (la.drop (moved la rb lb clb)) cla b rb (lb ++ la.take (moved la rb lb clb)) clb := by
  obtain ⟨m, hm⟩ : ∃ m, moved la rb lb clb = m := ⟨_, rfl⟩
  rw [hm]
  have HM := Lib.hid hm
  have H := Lib.hid h
  clear hm h
  go_enter Try.func20, Try.ntmps20
  go_wp2_with fail
  go_loopw [5] (fun i wr => ∃ k : Nat, k ≤ m ∧ i = .int .i64 k ∧ Hid (DocPair w oa ob wr a ra (la.drop k) cla b rb (lb ++ la.take k) clb)) (fun i _ => m - (intOf i).toNat)
  case atStart => exact ⟨0, Nat.zero_le _, rfl, by simpa using H⟩
  case round =>
    obtain ⟨k, hk, rfl, HD⟩ := hrel
    obtain ⟨wk, rfl⟩ : ∃ wk, wk = wr := ⟨_, rfl⟩
    obtain ⟨n1, hn1⟩ : ∃ n1, (la.drop k).length = n1 := ⟨_, rfl⟩
    obtain ⟨n2, hn2⟩ : ∃ n2, (lb ++ la.take k).length = n2 := ⟨_, rfl⟩
    have hfacts : n1 = la.length - k ∧ n2 = lb.length + min k la.length ∧ (k ≤ la.length) ∧ n2 ≤ rb ∧ rb ≤ 4096 ∧ n1 ≤ 4096 := by
      obtain ⟨_, _, ⟨va, ⟨_, _, hla, hra⟩, _⟩, ⟨vb, ⟨_, _, hlb, hrb⟩, _⟩, _⟩ := HD.out
      rw [hn1] at hla
      rw [hn2] at hlb
      rw [List.length_drop] at hn1
      rw [List.length_append, List.length_take] at hn2
      have hkl : k ≤ la.length := by
        have h1 := HM.out
        unfold moved at h1
        split at h1 <;> omega
      omega
    have hcells : ∃ ao1 cap1 ao2 cap2, wk.cell? ⟨a, 1, none⟩ = some (.slice ao1 n1 cap1) ∧ wk.cell? ⟨b, 1, none⟩ = some (.slice ao2 n2 cap2) ∧ wk.cell? ⟨b, 0, none⟩ = some (.int .i64 rb) ∧ wk.cell? ⟨b, 2, none⟩ = some (.bool clb) := by
      obtain ⟨_, _, ⟨va, ⟨h1, hown1, _⟩, _⟩, ⟨vb, ⟨h2, hown2, _⟩, _⟩, _⟩ := HD.out
      rw [hn1] at hown1
      rw [hn2] at hown2
      obtain ⟨ao1, cap1, rfl⟩ := shape_of hown1
      obtain ⟨ao2, cap2, rfl⟩ := shape_of hown2
      exact ⟨ao1, cap1, ao2, cap2, by rw [cell_of h1]; rfl, by rw [cell_of h2]; rfl, by rw [cell_of h2]; rfl, by rw [cell_of h2]; rfl⟩
    obtain ⟨ao1, cap1, ao2, cap2, c1, c2, c3, c4⟩ := hcells
    have HF := Lib.hid (And.intro hn1 (And.intro hn2 hfacts))
    clear hn1 hn2 hfacts
    by_cases hkm : k < m
    · have hf := HF.out
      have hm := HM.out
      have hcl : clb = false := by
        cases clb with
        | false => rfl
        | true => simp [moved] at hm; omega
      subst hcl
      have hm2 : m = min la.length (rb - lb.length) := by rw [← hm]; simp [moved]
      have q1 : 0 < n1 := by omega
      have q2 : n2 < rb := by omega
      have q1' : (0 : Int) < (n1 : Int) := by omega
      have q2' : (n2 : Int) < (rb : Int) := by omega
      obtain ⟨x, hx⟩ : ∃ x, la[k]? = some x := ⟨la[k]'(by omega), List.getElem?_eq_getElem _⟩
      have hdr := drop_at la k x hx
      have htk : la.take k ++ [x] = la.take (k + 1) := by rw [List.take_add_one, hx]; rfl
      have hmb : m ≤ 4096 := by omega
      have HX := Lib.hid (And.intro hdr (And.intro htk hf))
      clear hdr htk hf hm hm2 hx
      go_wp2_with fail
      go_quiet (fail)
      have HP : Hid (DocPair w oa ob (wk.drewN nq) a ra (x :: la.drop (k + 1)) cla b rb (lb ++ la.take k) false) := Lib.hid (HX.out.1 ▸ HD.out.drewN nq)
      generalize wk.drewN nq = wd at HP ⊢
      go_wp2_with fail
      refine (HP.out.take).mono ?_
      rintro e w1 ⟨rfl, ht⟩
      have H1 := Lib.hid ht
      clear ht
      go_wp2_with fail
      refine (H1.out.send x (by have := HX.out.2.2; omega)).mono ?_
      rintro e w2 ⟨rfl, ht⟩
      have H2 := Lib.hid ht
      clear ht
      go_wp2_with fail
      go_roundw
      case rel =>
        refine ⟨k + 1, by omega, by go_num, Lib.hid ?_⟩
        have := H2.out
        rw [List.append_assoc, HX.out.2.1] at this
        exact this
      case measure => simp [intOf]; omega
    · obtain rfl : m = k := by omega
      have hways : n1 = 0 ∨ (0 < n1 ∧ rb ≤ n2) ∨ (0 < n1 ∧ n2 < rb ∧ clb = true) := by
        have hf := HF.out
        have hm := HM.out
        cases clb with
        | false => simp [moved] at hm; omega
        | true =>
          by_cases h1 : n1 = 0
          · exact .inl h1
          · by_cases h2 : rb ≤ n2
            · exact .inr (.inl ⟨by omega, h2⟩)
            · exact .inr (.inr ⟨by omega, by omega, rfl⟩)
      rcases hways with rfl | ⟨q1, q2⟩ | ⟨q1, q2, rfl⟩
      · go_wp2_with fail
        go_quiet (fail)
        go_wp2
        go_ret
        exact ⟨rfl, HD.out.drewN _⟩
      · have q1' : (0 : Int) < (n1 : Int) := by omega
        have q2' : decide ((n2 : Int) < (rb : Int)) = false := by rw [decide_eq_false_iff_not]; omega
        have q2n : ¬ n2 < rb := by omega
        have q2d : decide (n2 < rb) = false := decide_eq_false q2n
        go_wp2_with fail
        go_quiet (fail)
        go_wp2
        go_ret
        exact ⟨rfl, HD.out.drewN _⟩
      · have q1' : (0 : Int) < (n1 : Int) := by omega
        have q2' : (n2 : Int) < (rb : Int) := by omega
        go_wp2_with fail
        go_quiet (fail)
        go_wp2
        go_ret
        exact ⟨rfl, HD.out.drewN _⟩

end Go.Proofs.Ytknjniadphoflaa
