/-
  The document's link: Send of a message that is late; Send.
-/
import Derived.Test.YteolokckflckaaaRef2
import Derived.Deep.RegionLaw
namespace Go.Proofs.Yteolokckflckaaa
open Go.RowKit Go.Conc

theorem info59 : (Try.prog.info? 59).map (fun i => (i.zero, i.size, i.bytes)) = some (some (.agg #[.string ⟨#[]⟩, .int .i64 0]), 2, 24) := by kernel_rfl

theorem src_block {u : World} {c : Nat} {e : TypeId} {a b : Value} (h : u.heap[c]? = some (.cells #[a, b] e (0, 0))) (ha : a.oneCell' = true) (hb : b.oneCell' = true) : SrcIs u 2 (.slice (some ⟨c, 0, none⟩) 1 1) 1 [a, b] := by
  refine ⟨⟨_, _, rfl, (fun h => by cases h), fun ad had j x hx => ?_⟩, rfl, fun x hx => ?_⟩
  · simp only [Option.some.injEq] at had
    subst had
    rw [Addr.add_lit, cell_of h]
    simpa using hx
  · simp only [List.mem_cons, List.not_mem_nil, or_false] at hx
    rcases hx with rfl | rfl <;> assumption

theorem owns_new {u : World} {ga base : Nat} {e : TypeId} (size : Nat) (h : u.heap[ga]? = some (.cells #[] e (0, 0))) (hb : base ≤ ga) : u.ownsRow base e size (.slice (some ⟨ga, 0, none⟩) 0 0) 0 [] :=
  ⟨by simp, .inr ⟨ga, 0, #[], rfl, hb, h, Nat.le_refl _, Nat.zero_le _, by simp, by simp⟩⟩

set_option maxHeartbeats 4000000 in
theorem refSend_late (w : World) (b room : Nat) (own : List Nat) (C : List ByteArray) (T : List (ByteArray × Nat)) (s : ByteArray) (n m : Int) (h : RefIs w b room own C T) (h1 : 1 ≤ n) (h8 : n ≤ 8) (hT : T.length < 100000) :
    Calls Try.prog 13 #[.pointer (some ⟨b, 0, none⟩), .string s, fate 3 n m] w fun e w' => e = .returned (.int .i64 0) ∧ RefTurn w w' b room own C (T ++ [(s, n.toNat)]) := by
  obtain ⟨i0, hi0, hz0, hz1, hz2⟩ := info_parts info59
  obtain ⟨vc, vl, h, rfl⟩ := h
  obtain ⟨nl, hnl⟩ : ∃ nl, T.length = nl := ⟨_, rfl⟩
  obtain ⟨lo, lc, hvl⟩ := shape_of h.2.2.1
  rw [hnl] at hvl hT
  have hbw : Below w.heap.size w (w.alloc (.cells #[.int .i64 3, .int .i64 n, .int .u8 m] 30)) := (Below.refl _ w).alloc (Nat.le_refl _) _
  have k0 : Kept (fun _ => False) w (w.alloc (.cells #[.int .i64 3, .int .i64 n, .int .u8 m] 30)) := Kept.of_below hbw _
  have hA : RefAt (w.alloc (.cells #[.int .i64 3, .int .i64 n, .int .u8 m] 30)) b room vc vl C T := ⟨k0.get h.1 id, owns_kept h.2.1 k0 (fun _ _ h => h), owns_kept h.2.2.1 k0 (fun _ _ h => h), h.2.2.2⟩
  have hbx := box_cells w 3 n m
  have d1 : decide (n < 1) = false := by simp; omega
  have d8 : decide (8 < n) = false := by simp; omega
  have H := Lib.hid (And.intro hA (And.intro hbw (And.intro hbx (And.intro hnl hvl))))
  have HL := Lib.hid (lt_of_block h.1)
  clear h hbw k0 hA hbx hnl
  subst hvl
  go_enter Try.func13, Try.ntmps13
  go_wp2_with fail
  obtain ⟨wa, hwa⟩ : ∃ wa, wa = w.alloc (.cells #[.int .i64 3, .int .i64 n, .int .u8 m] 30) := ⟨_, rfl⟩
  rw [← hwa] at H ⊢
  obtain ⟨fb, hfb⟩ : ∃ fb, fb = w.heap.size := ⟨_, rfl⟩
  have hsa : wa.heap.size = fb + 1 := by rw [hwa, hfb]; simp
  rw [← hfb] at H ⊢
  have HFB := Lib.hid (And.intro hfb hsa)
  have hbl : b < fb := by rw [hfb]; exact HL.out
  clear hwa hfb hsa
  have l1 : b < wa.heap.size := by have := HFB.out.2; omega
  have l2 : fb < wa.heap.size := by have := HFB.out.2; omega
  have l3 : b < wa.heap.size + 1 := by omega
  have l4 : fb < wa.heap.size + 1 := by omega
  have y1 : wa.cell? ⟨fb, 1, none⟩ = some (.int .i64 n) := H.out.2.2.1.2.1
  have c2 : wa.cell? ⟨b, 2, none⟩ = some (.slice lo nl lc) := by rw [cell_of H.out.1.1]; rfl
  have f2 : wa.frozen? ⟨b, 2, none⟩ = false := free_of H.out.1.1 2
  have ca : ∀ o, (wa.alloc o).cell? ⟨b, 2, none⟩ = some (.slice lo nl lc) := fun o => (World.cell?_alloc_lt _ _ _ l1).trans c2
  have ya : ∀ o, (wa.alloc o).cell? ⟨fb, 1, none⟩ = some (.int .i64 n) := fun o => (World.cell?_alloc_lt _ _ _ l2).trans y1
  have cb : ∀ o o', ((wa.alloc o).alloc o').cell? ⟨b, 2, none⟩ = some (.slice lo nl lc) := fun o o' => (World.cell?_alloc_lt _ _ _ (by simp; omega)).trans (ca o)
  have hsrc : ∀ u, Below wa.heap.size wa u → SrcIs u 2 (.slice lo nl lc) nl (lateCells T) := fun u hu => by
    have := owns_kept H.out.1.2.2.1 (Kept.of_below hu (fun _ => False)) (fun _ _ h => h)
    rw [H.out.2.2.2.1] at this
    exact SrcIs.of_owns this (lates_one T)
  have bA : Below wa.heap.size wa (wa.alloc (.cells #[] 59)).drew := ((Below.refl _ _).alloc (Nat.le_refl _) _).drew
  have bAC : Below wa.heap.size wa ((wa.alloc (.cells #[] 59)).alloc (.cells #[.string s, .int .i64 n] 59)).drew := (((Below.refl _ _).alloc (Nat.le_refl _) _).alloc (by simp) _).drew
  have bCA : Below wa.heap.size wa ((wa.alloc (.cells #[.string s, .int .i64 n] 59)).alloc (.cells #[] 59)).drew := (((Below.refl _ _).alloc (Nat.le_refl _) _).alloc (by simp) _).drew
  have oA : (wa.alloc (.cells #[] 59)).drew.ownsRow wa.heap.size 59 2 (.slice (some ⟨wa.heap.size, 0, none⟩) 0 0) 0 [] := owns_new (u := wa.alloc (.cells #[] 59)) 2 (alloc_at wa _) (Nat.le_refl _)
  have oAC : ((wa.alloc (.cells #[] 59)).alloc (.cells #[.string s, .int .i64 n] 59)).drew.ownsRow wa.heap.size 59 2 (.slice (some ⟨wa.heap.size, 0, none⟩) 0 0) 0 [] :=
    owns_new (u := (wa.alloc (.cells #[] 59)).alloc (.cells #[.string s, .int .i64 n] 59)) 2 ((alloc_old _ _ (by simp)).trans (alloc_at wa _)) (Nat.le_refl _)
  have oCA : ((wa.alloc (.cells #[.string s, .int .i64 n] 59)).alloc (.cells #[] 59)).drew.ownsRow wa.heap.size 59 2 (.slice (some ⟨wa.heap.size + 1, 0, none⟩) 0 0) 0 [] :=
    owns_new (u := (wa.alloc (.cells #[.string s, .int .i64 n] 59)).alloc (.cells #[] 59)) 2 (by have := alloc_at (wa.alloc (.cells #[.string s, .int .i64 n] 59)) (.cells #[] 59); simpa using this) (Nat.le_succ _)
  have cAC : ((wa.alloc (.cells #[] 59)).alloc (.cells #[.string s, .int .i64 n] 59)).drew.heap[wa.heap.size + 1]? = some (.cells #[.string s, .int .i64 n] 59 (0, 0)) := by
    have := alloc_at (wa.alloc (.cells #[] 59)) (.cells #[.string s, .int .i64 n] 59)
    rw [show (wa.alloc (.cells #[] 59)).heap.size = wa.heap.size + 1 by simp] at this
    exact this
  have cCA : ((wa.alloc (.cells #[.string s, .int .i64 n] 59)).alloc (.cells #[] 59)).drew.heap[wa.heap.size]? = some (.cells #[.string s, .int .i64 n] 59 (0, 0)) :=
    (alloc_old (wa.alloc (.cells #[.string s, .int .i64 n] 59)) _ (by simp)).trans (alloc_at wa _)
  have HA := Lib.hid (And.intro bA (And.intro oA (hsrc _ bA)))
  have HAC := Lib.hid (And.intro bAC (And.intro oAC (And.intro (hsrc _ bAC) cAC)))
  have HCA := Lib.hid (And.intro bCA (And.intro oCA (And.intro (hsrc _ bCA) cCA)))
  have HB : Hid (0 + nl ≤ maxLen ∧ (0 + nl) * 24 ≤ 140737488355328 ∧ nl + 1 ≤ maxLen ∧ (nl + 1) * 24 ≤ 140737488355328) := Lib.hid (by unfold maxLen; omega)
  have HTl := Lib.hid hT
  have HLs := Lib.hid (And.intro l1 l2)
  clear hsrc bA bAC bCA oA oAC oCA cAC cCA hT
  have hown : ∀ k, Value.ownBlock (.slice (some ⟨wa.heap.size, 0, none⟩) 0 0) = some k → wa.heap.size ≤ k ∧ k = wa.heap.size := fun k hk => by simp [Value.ownBlock] at hk; omega
  have hown' : ∀ k, Value.ownBlock (.slice (some ⟨wa.heap.size + 1, 0, none⟩) 0 0) = some k → wa.heap.size ≤ k ∧ k = wa.heap.size + 1 := fun k hk => by simp [Value.ownBlock] at hk; omega
  have HOw := Lib.hid (And.intro hown hown')
  clear hown hown'
  go_region_law
    (first
      | (refine step_append_src (P := Try.prog) _ (by rfl) (.tmp 36) (.tmp 40) 40 (by rfl) wa.heap.size 59 i0 (.agg #[.string ⟨#[]⟩, .int .i64 0]) 2 24 Try.underlying40 hi0 hz0 hz1 hz2 (by rfl) (by omega) (.slice (some ⟨wa.heap.size, 0, none⟩) 0 0) 0 [] (by rfl) (by exact HA.out.2.1) (.slice lo nl lc) nl (lateCells T) (by rfl) (by exact HA.out.2.2) HB.out.1 HB.out.2.1 (by exact HA.out.1.size) ?_
         intro v1 w2 hown1 hgrow1 hat1
         have hb2 : Below wa.heap.size wa w2 := HA.out.1.grown hgrow1 HA.out.1.size (fun k hk => (HOw.out.1 k hk).1)
         simp only [Nat.zero_add, List.nil_append] at hown1
         obtain ⟨av, cv, hv1⟩ := shape_of hown1
         subst hv1
         have y2 : w2.cell? ⟨fb, 1, none⟩ = some (.int .i64 n) := (hb2.cell (p := ⟨fb, 1, none⟩) HLs.out.2).trans y1
         have HD := Lib.hid (And.intro (hown1.alloc (.cells #[.string s, .int .i64 n] 59)) (And.intro (src_two w2 59 (.string s) (.int .i64 n) rfl rfl) (hb2.alloc hb2.size (.cells #[.string s, .int .i64 n] 59))))
         clear hown1 hgrow1 hat1 hb2)
      | (refine step_append_src (P := Try.prog) _ (by rfl) (.tmp 36) (.tmp 40) 40 (by rfl) wa.heap.size 59 i0 (.agg #[.string ⟨#[]⟩, .int .i64 0]) 2 24 Try.underlying40 hi0 hz0 hz1 hz2 (by rfl) (by omega) (.slice (some ⟨wa.heap.size, 0, none⟩) 0 0) 0 [] (by rfl) (by exact HAC.out.2.1) (.slice lo nl lc) nl (lateCells T) (by rfl) (by exact HAC.out.2.2.1) HB.out.1 HB.out.2.1 (by exact HAC.out.1.size) ?_
         intro v1 w2 hown1 hgrow1 hat1
         have hb2 : Below wa.heap.size wa w2 := HAC.out.1.grown hgrow1 HAC.out.1.size (fun k hk => (HOw.out.1 k hk).1)
         simp only [Nat.zero_add, List.nil_append] at hown1
         obtain ⟨av, cv, hv1⟩ := shape_of hown1
         subst hv1
         have hc2 : w2.heap[wa.heap.size + 1]? = some (.cells #[.string s, .int .i64 n] 59 (0, 0)) := (hgrow1.block _ (lt_of_block HAC.out.2.2.2) (fun e => by have := (HOw.out.1 _ e.symm).2; omega)).trans HAC.out.2.2.2
         have HD := Lib.hid (And.intro hown1 (And.intro (src_block hc2 rfl rfl) hb2))
         clear hown1 hgrow1 hat1 hb2 hc2)
      | (refine step_append_src (P := Try.prog) _ (by rfl) (.tmp 36) (.tmp 40) 40 (by rfl) wa.heap.size 59 i0 (.agg #[.string ⟨#[]⟩, .int .i64 0]) 2 24 Try.underlying40 hi0 hz0 hz1 hz2 (by rfl) (by omega) (.slice (some ⟨wa.heap.size + 1, 0, none⟩) 0 0) 0 [] (by rfl) (by exact HCA.out.2.1) (.slice lo nl lc) nl (lateCells T) (by rfl) (by exact HCA.out.2.2.1) HB.out.1 HB.out.2.1 (by exact HCA.out.1.size) ?_
         intro v1 w2 hown1 hgrow1 hat1
         have hb2 : Below wa.heap.size wa w2 := HCA.out.1.grown hgrow1 HCA.out.1.size (fun k hk => (HOw.out.2 k hk).1)
         simp only [Nat.zero_add, List.nil_append] at hown1
         obtain ⟨av, cv, hv1⟩ := shape_of hown1
         subst hv1
         have hc2 : w2.heap[wa.heap.size]? = some (.cells #[.string s, .int .i64 n] 59 (0, 0)) := (hgrow1.block _ (lt_of_block HCA.out.2.2.2) (fun e => by have := (HOw.out.2 _ e.symm).2; omega)).trans HCA.out.2.2.2
         have HD := Lib.hid (And.intro hown1 (And.intro (src_block hc2 rfl rfl) hb2))
         clear hown1 hgrow1 hat1 hb2 hc2)
      | (refine step_append_src (P := Try.prog) _ (by rfl) (.tmp 41) (.tmp 46) 40 (by rfl) wa.heap.size 59 i0 (.agg #[.string ⟨#[]⟩, .int .i64 0]) 2 24 Try.underlying40 hi0 hz0 hz1 hz2 (by rfl) (by omega) (.slice av nl cv) nl (lateCells T) (by rfl) (by exact HD.out.1) _ 1 [.string s, .int .i64 n] (by rfl) (by exact HD.out.2.1) HB.out.2.2.1 HB.out.2.2.2 (by exact HD.out.2.2.size) ?_
         intro v3 w3 hown3 hgrow3 hat3
         have hb3 : Below wa.heap.size wa w3 := HD.out.2.2.grown hgrow3 HD.out.2.2.size (fun k hk => (HD.out.1.lt k hk).1)
         obtain ⟨aw, cw, hv3⟩ := shape_of hown3
         subst hv3
         have c3 : w3.cell? ⟨b, 2, none⟩ = some (.slice lo nl lc) := (hb3.cell (p := ⟨b, 2, none⟩) HLs.out.1).trans c2
         have f3 : w3.frozen? ⟨b, 2, none⟩ = false := (hb3.frozen (p := ⟨b, 2, none⟩) HLs.out.1).trans f2
         have HE := Lib.hid (And.intro hown3 hb3)
         clear hown3 hgrow3 hat3 hb3))
  all_goals
    clear ca ya cb
    go_wp2
    go_ret
    refine ⟨rfl, RefTurn.after (by rw [← HFB.out.1]; exact H.out.2.1) (RefTurn.storeL H.out.1 HE.out.2 ?_ ?_)⟩
    · have e : lateCells (T ++ [(s, n.toNat)]) = lateCells T ++ [.string s, .int .i64 n] := by
        rw [lateCells_append]
        simp only [lateCells, List.flatMap_cons, List.flatMap_nil, List.append_nil]
        rw [show ((n.toNat : Nat) : Int) = n by omega]
      rw [e, List.length_append, List.length_singleton, H.out.2.2.2.1]
      exact HE.out.1
    · rw [List.length_append, List.length_singleton, H.out.2.2.2.1]
      have := HTl.out
      omega

/-- Send. -/
theorem refSend (w : World) (b room : Nat) (own : List Nat) (C : List ByteArray) (T : List (ByteArray × Nat)) (s : ByteArray) (k n m : Int) (h : RefIs w b room own C T) (hT : T.length < 100000) :
    Calls Try.prog 13 #[.pointer (some ⟨b, 0, none⟩), .string s, fate k n m] w fun e w' => e = .returned (.int .i64 (if mayB k n then 0 else 180)) ∧
      RefTurn w w' b room own (if mayB k n then sendC room C s k n m else C) (if mayB k n then sendT T s k n else T) := by
  unfold sendC sendT
  by_cases h3 : k = 3
  · subst h3
    by_cases hb : 1 ≤ n ∧ n ≤ 8
    · have hm : mayB 3 n = true := by simp [mayB, hb]
      rw [hm]
      exact refSend_late w b room own C T s n m h hb.1 hb.2 hT
    · have hm : mayB 3 n = false := by simp [mayB]; omega
      rw [hm]
      exact refSend_lateNo w b room own C T s n m h hb
  · by_cases h4 : k = 4
    · subst h4
      by_cases hb : 0 ≤ n
      · have hm : mayB 4 n = true := by simp [mayB, hb]
        rw [hm]
        obtain ⟨N, rfl⟩ : ∃ N : Nat, n = N := ⟨n.toNat, by omega⟩
        by_cases hs : 0 < s.size
        · exact refSend_turnSome w b room own C T s N m h hs
        · exact refSend_turnEmpty w b room own C T s N m h (by omega)
      · have hm : mayB 4 n = false := by simp [mayB]; omega
        rw [hm]
        exact refSend_turnNo w b room own C T s n m h (by omega)
    · by_cases hb : 0 ≤ k ∧ k < 5
      · have hm : mayB k n = true := by simp [mayB, h3, h4, hb]
        rw [hm]
        rcases (show k = 0 ∨ k = 1 ∨ k = 2 by omega) with rfl | rfl | rfl
        · exact refSend_go w b room own C T s n m h
        · exact refSend_drop w b room own C T s n m h
        · exact refSend_twice w b room own C T s n m h
      · have hm : mayB k n = false := by
          unfold mayB
          rw [if_neg h3, if_neg h4, ← Bool.decide_and, decide_eq_false_iff_not]
          exact hb
        rw [hm]
        exact refSend_none w b room own C T s k n m h (by simp; omega) (by simp; omega) (by simp; omega) (by simpa using h3) (by simpa using h4)

end Go.Proofs.Yteolokckflckaaa
