/-
  The document's link: Step.
-/
import Derived.Test.YteolokckflckaaaRef3
import Derived.Deep.RegionHeld3
namespace Go.Proofs.Yteolokckflckaaa
open Go.RowKit Go.Conc

/-- A round's state. -/
def RefStepping (w wr : World) (b room : Nat) (vc vl : Value) (C : List ByteArray) (T : List (ByteArray × Nat)) (left : Value) (C' : List ByteArray) (T' : List (ByteArray × Nat)) : Prop :=
  ∃ vc', RefAt wr b room vc' vl C' T ∧ Kept (· = b) w wr ∧ (∀ g, vc'.ownBlock = some g → vc.ownBlock = some g ∨ w.heap.size ≤ g) ∧ wr.ownsRow w.heap.size 59 2 left T'.length (lateCells T') ∧ RefAt w b room vc vl C T

section
variable {w wr w2 : World} {b room : Nat} {vc vl left : Value} {C C' : List ByteArray} {T T' : List (ByteArray × Nat)}

theorem RefAt.kept {S : Nat → Prop} (h : RefAt w b room vc vl C T) (k : Kept S w w2) (h1 : ¬ S b) (h2 : ∀ g, vc.ownBlock = some g → ¬ S g) (h3 : ∀ g, vl.ownBlock = some g → ¬ S g) : RefAt w2 b room vc vl C T :=
  ⟨k.get h.1 h1, owns_kept h.2.1 k h2, owns_kept h.2.2.1 k h3, h.2.2.2⟩

theorem RefStepping.left_ne (h : RefStepping w wr b room vc vl C T left C' T') : ∀ g, left.ownBlock = some g → g ≠ b ∧ vl.ownBlock ≠ some g ∧ w.heap.size ≤ g ∧ ∀ vc', RefAt wr b room vc' vl C' T → vc'.ownBlock ≠ some g := by
  obtain ⟨vc', h1, h2, h3, h4, h5⟩ := h
  intro g hg
  obtain ⟨hb, cur, hc⟩ := owns_block h4 g hg
  refine ⟨fun e => ?_, fun e => ?_, hb, fun v h e => ?_⟩
  · rw [e, h1.1] at hc; simp at hc
  · obtain ⟨_, cur', hc'⟩ := owns_block h5.2.2.1 g e
    have := lt_of_block hc'
    omega
  · obtain ⟨_, cur', hc'⟩ := owns_block h.2.1 g e
    rw [hc'] at hc
    simp at hc
theorem RefStepping.below (h : RefStepping w wr b room vc vl C T left C' T') (hb : Below wr.heap.size wr w2) : RefStepping w w2 b room vc vl C T left C' T' := by
  obtain ⟨vc', h1, h2, h3, h4, h5⟩ := h
  have k : Kept (fun _ => False) wr w2 := Kept.of_below hb _
  exact ⟨vc', h1.kept k id (fun _ _ h => h) (fun _ _ h => h), h2.trans (k.mono fun _ _ e => e.elim), h3, owns_kept h4 k (fun _ _ h => h), h5⟩
theorem RefStepping.keeps (h : RefStepping w wr b room vc vl C T left C' T') {left2 : Value} {T2 : List (ByteArray × Nat)} (hg : wr.grownBy w2 left.ownBlock) (ho : w2.ownsRow w.heap.size 59 2 left2 T2.length (lateCells T2)) : RefStepping w w2 b room vc vl C T left2 C' T2 := by
  have hl := h.left_ne
  obtain ⟨vc', h1, h2, h3, h4, h5⟩ := h
  have k : Kept (fun g => left.ownBlock = some g) wr w2 := Kept.of_grown hg (fun _ e => e)
  exact ⟨vc', h1.kept k (fun e => (hl b e).1 rfl) (fun g hg e => (hl g e).2.2.2 vc' h1 hg) (fun g hg e => (hl g e).2.1 hg), h2.step k (fun g hg e => by have := (hl g e).2.2.1; omega), h3, ho, h5⟩

theorem RefStepping.comes (h : RefStepping w wr b room vc vl C T left C' T') (s : ByteArray) :
    Calls Try.prog 21 #[.pointer (some ⟨b, 0, none⟩), .string s] wr fun e w' => e = .returned (.tuple #[]) ∧ RefStepping w w' b room vc vl C T left (comesL room C' s) T' := by
  have hl := h.left_ne
  obtain ⟨vc', h1, h2, h3, h4, h5⟩ := h
  refine (refComesAt wr b room vc' vl C' T s h1).mono fun e w' ⟨he, v2, k1, k2, k3⟩ => ⟨he, v2, k1, h2.trans k2, fun g hg => ?_, owns_kept h4 k2 (fun g hg e => (hl g hg).1 e), h5⟩
  rcases k3 g hg with e | e
  · exact h3 g e
  · exact .inr (Nat.le_trans h2.size e)

/-- What is late is stored: the step is done. -/
theorem RefStepping.done (h : RefStepping w wr b room vc vl C T left C' T') (hl : T'.length ≤ 100000) : RefTurn w (wr.setCell ⟨b, 2, none⟩ left) b room (b :: (vc.ownBlock.toList ++ vl.ownBlock.toList)) C' T' := by
  have hne := h.left_ne
  obtain ⟨vc', h1, h2, h3, h4, h5⟩ := h
  have k3 : Kept (· = b) wr (wr.setCell ⟨b, 2, none⟩ left) := (Kept.refl _ wr).setCell _ _ (fun _ => rfl)
  refine ⟨_, ⟨vc', left, ⟨by simpa using setCell_at h1.1 2 left, owns_kept h1.2.1 k3 (fun g hg e => h1.ne_c g hg e), owns_mono (owns_kept h4 k3 (fun g hg e => (hne g hg).1 e)) (Nat.zero_le _), h1.2.2.2.1, h1.2.2.2.2.1, hl⟩, rfl⟩, fun q hq => ?_, h2.trans k3⟩
  rcases List.mem_cons.1 hq with rfl | hq
  · exact .inl (List.mem_cons_self ..)
  · rcases List.mem_append.1 hq with hq | hq
    · rcases h3 q (Option.mem_toList.1 hq) with e | e
      · exact .inl (List.mem_cons_of_mem _ (List.mem_append_left _ (Option.mem_toList.2 e)))
      · exact .inr e
    · exact .inr (hne q (Option.mem_toList.1 hq)).2.2.1

/-- Where a late message lies. -/
theorem RefStepping.cell (h : RefStepping w wr b room vc vl C T left C' T') {k : Nat} (hk : k < T.length) : ∃ g cap, vl = .slice (some ⟨g, 0, none⟩) T.length cap ∧ g < w.heap.size ∧ wr.cell? ⟨b, 2, none⟩ = some (.slice (some ⟨g, 0, none⟩) T.length cap) ∧ wr.cell? ⟨g, k * 2, none⟩ = some (.string (T[k]).1) ∧ wr.cell? ⟨g, k * 2 + 1, none⟩ = some (.int .i64 (T[k]).2) := by
  obtain ⟨vc', h1, h2, h3, h4, h5⟩ := h
  have hown := h1.2.2.1
  rcases h5.2.2.1.2 with ⟨_, h0⟩ | ⟨g, cap, cur, hv, _, hg, _⟩
  · omega
  · subst hv
    exact ⟨g, cap, rfl, lt_of_block hg, by rw [cell_of h1.1]; rfl, by rw [hown.cellAt (k * 2) (by omega)]; exact (lateCells_at T k hk).1, by rw [hown.cellAt (k * 2 + 1) (by omega)]; exact (lateCells_at T k hk).2⟩
theorem RefStepping.head (h : RefStepping w wr b room vc vl C T left C' T') : wr.cell? ⟨b, 2, none⟩ = some vl ∧ wr.frozen? ⟨b, 2, none⟩ = false := by
  obtain ⟨vc', h1, _⟩ := h
  exact ⟨by rw [cell_of h1.1]; rfl, free_of h1.1 2⟩
end

theorem lateAlloc {u : World} {b g j : Nat} {v x y : Value} (h : u.cell? ⟨b, 2, none⟩ = some v ∧ u.cell? ⟨g, j, none⟩ = some x ∧ u.cell? ⟨g, j + 1, none⟩ = some y) (o : Obj) :
    (u.alloc o).drew.cell? ⟨b, 2, none⟩ = some v ∧ (u.alloc o).drew.cell? ⟨g, j, none⟩ = some x ∧ (u.alloc o).drew.cell? ⟨g, j + 1, none⟩ = some y :=
  ⟨(World.cell?_alloc_lt _ _ _ (World.block_lt_of_cell? _ _ h.1)).trans h.1, (World.cell?_alloc_lt _ _ _ (World.block_lt_of_cell? _ _ h.2.1)).trans h.2.1, (World.cell?_alloc_lt _ _ _ (World.block_lt_of_cell? _ _ h.2.2)).trans h.2.2⟩
theorem lateGrown {u u' : World} {b g j : Nat} {v x y l : Value} (h : u.cell? ⟨b, 2, none⟩ = some v ∧ u.cell? ⟨g, j, none⟩ = some x ∧ u.cell? ⟨g, j + 1, none⟩ = some y) (hg : u.grownBy u' l.ownBlock) (hn : ∀ q, l.ownBlock = some q → q ≠ b ∧ q ≠ g) :
    u'.cell? ⟨b, 2, none⟩ = some v ∧ u'.cell? ⟨g, j, none⟩ = some x ∧ u'.cell? ⟨g, j + 1, none⟩ = some y :=
  ⟨hg.cell h.1 (fun e => (hn b e.symm).1 rfl), hg.cell h.2.1 (fun e => (hn g e.symm).2 rfl), hg.cell h.2.2 (fun e => (hn g e.symm).2 rfl)⟩

set_option maxHeartbeats 2000000 in
theorem refStep_walk (w : World) (b room : Nat) (own : List Nat) (C : List ByteArray) (T : List (ByteArray × Nat)) (h : RefIs w b room own C T) (hT : ∀ q ∈ T, 1 ≤ q.2 ∧ q.2 ≤ 8) :
    Calls Try.prog 14 #[.pointer (some ⟨b, 0, none⟩)] w fun e w' => e = .returned (.tuple #[]) ∧ RefTurn w w' b room own (stepC room C T) (stepT T) := by
  obtain ⟨i0, hi0, hz0, hz1, hz2⟩ := info_parts info59
  obtain ⟨vc, vl, h, rfl⟩ := h
  have hTl := h.2.2.2.2.2
  obtain ⟨bo, capl, hvl⟩ := shape_of h.2.2.1
  have hb0 : Below w.heap.size w (w.alloc (.cells #[] 59)) := (Below.refl _ _).alloc (Nat.le_refl _) _
  have HS0 : Hid (RefStepping w (w.alloc (.cells #[] 59)) b room vc vl C T (.slice (some ⟨w.heap.size, 0, none⟩) 0 0) (stepC room C (T.take 0)) (stepT (T.take 0))) := by
    refine Lib.hid ⟨vc, h.kept (Kept.of_below hb0 (fun _ => False)) id (fun _ _ h => h) (fun _ _ h => h), Kept.of_below hb0 _, fun _ e => .inl e, owns_new 2 (alloc_at w _) (Nat.le_refl _), h⟩
  obtain ⟨n, hn⟩ : ∃ n, T.length = n := ⟨_, rfl⟩
  rw [hn] at hvl hTl
  have HV := Lib.hid (And.intro hn (And.intro hvl hT))
  clear h hn hvl hT hb0
  go_enter Try.func14, Try.ntmps14
  go_wp2_with fail
  go_loopw [2, 3] (fun left si wr => ∃ k : Nat, k ≤ n ∧ si = .int .i64 k ∧ Hid (RefStepping w wr b room vc vl C T left (stepC room C (T.take k)) (stepT (T.take k)))) (fun _ si _ => n - (intOf si).toNat)
  case atStart => exact ⟨0, Nat.zero_le _, rfl, HS0⟩
  case round =>
    obtain ⟨k, hk, rfl, HR⟩ := hrel
    obtain ⟨wk, rfl⟩ : ∃ wk, wk = wr := ⟨_, rfl⟩
    obtain ⟨lo, lc, hleft⟩ := shape_of HR.out.choose_spec.2.2.2.1
    subst hleft
    have hhd := HR.out.head
    rw [HV.out.2.1] at hhd
    obtain ⟨c2, f2⟩ := hhd
    by_cases hlt : k < n
    · have hkl : k < T.length := by rw [HV.out.1]; exact hlt
      obtain ⟨g, cap, hv, hgl, _, x0, x1⟩ := HR.out.cell hkl
      obtain ⟨hq1, hq8⟩ := HV.out.2.2 _ (List.getElem_mem hkl)
      have hsc := stepC_snoc room C (T.take k) T[k]
      have hst := stepT_snoc (T.take k) T[k]
      rw [← List.take_succ_eq_append_getElem hkl] at hsc hst
      generalize (T[k]).1 = s at x0 hsc hst
      generalize (T[k]).2 = z at x1 hsc hst hq1 hq8
      have HC := Lib.hid (And.intro hsc (And.intro hst hgl))
      have hbo : bo = some ⟨g, 0, none⟩ := by
        have := HV.out.2.1.symm.trans hv
        simp only [Value.slice.injEq] at this
        exact this.1
      subst hbo
      clear hsc hst hv hgl
      have hz1' : (1 : Int) ≤ (z : Int) := by omega
      have hz8' : (z : Int) ≤ 8 := by omega
      have hkn : (k : Int) < (n : Int) := by omega
      have hk0 : (0 : Int) ≤ (k : Int) := by omega
      have HTk : Hid ((stepT (T.take k)).length + 1 ≤ 100001) := Lib.hid (by have := stepT_length (T.take k); rw [List.length_take] at this; omega)
      by_cases hz1 : z = 1
      · have HZ : Hid (z ≤ 1) := Lib.hid (by omega)
        have hzb : ((z : Int) == 1) = true := by simp; omega
        clear hz1
        go_wp2_with fail
        refine (HR.out.comes s).mono ?_
        rintro e w2 ⟨rfl, ht⟩
        have HT2 := Lib.hid ht
        clear ht
        go_wp2
        go_roundw
        case rel =>
          refine ⟨k + 1, by omega, by go_num, Lib.hid ?_⟩
          rw [HC.out.1, HC.out.2.1, if_pos HZ.out, if_neg (by have := HZ.out; omega)]
          exact HT2.out
        case measure => simp [intOf]; omega
      · have hzb : ((z : Int) == 1) = false := by simp; omega
        obtain ⟨r, hr⟩ : ∃ r : Nat, (z : Int) - 1 = (r : Int) := ⟨z - 1, by omega⟩
        have hwr : IntKind.i64.wrap (r : Int) = (r : Int) := by rw [IntKind.wrap_i64]; omega
        have HZ : Hid (1 < z ∧ z - 1 = r) := Lib.hid (by omega)
        clear hz1
        go_wp2_with fail
        obtain ⟨nl, hnl⟩ : ∃ nl, (stepT (T.take k)).length = nl := ⟨_, rfl⟩
        rw [hnl] at HTk ⊢
        have hbA : Below wk.heap.size wk (wk.alloc (.cells #[.string s, .int .i64 r] 59)).drew := ((Below.refl _ _).alloc (Nat.le_refl _) _).drew
        have hA := HR.out.below hbA
        have hne := HR.out.left_ne
        rw [hnl] at hA hne
        have HA := Lib.hid hA
        have HO : Hid ((wk.alloc (.cells #[.string s, .int .i64 r] 59)).drew.ownsRow w.heap.size 59 2 (.slice lo nl lc) nl (lateCells (stepT (T.take k)))) := Lib.hid (by
          have := hA.choose_spec.2.2.2.1
          rwa [hnl] at this)
        have HSr := Lib.hid (src_two wk 59 (.string s) (.int .i64 r) rfl rfl)
        have HSZ : Hid (w.heap.size ≤ (wk.alloc (.cells #[.string s, .int .i64 r] 59)).drew.heap.size) := Lib.hid hA.choose_spec.2.1.size
        have HB : Hid (nl + 1 ≤ maxLen ∧ (nl + 1) * 24 ≤ 140737488355328) := Lib.hid (by have := HTk.out; unfold maxLen; omega)
        have HNe : Hid (∀ q, Value.ownBlock (.slice lo nl lc) = some q → q ≠ b ∧ q ≠ g) := Lib.hid (fun q hq => ⟨(hne q hq).1, fun e => by have := (hne q hq).2.2.1; have := HC.out.2.2; omega⟩)
        have HNL := Lib.hid hnl
        have hS0 : wk.cell? ⟨b, 2, none⟩ = some (.slice (some ⟨g, 0, none⟩) n capl) ∧ wk.cell? ⟨g, k * 2, none⟩ = some (.string s) ∧ wk.cell? ⟨g, k * 2 + 1, none⟩ = some (.int .i64 z) := ⟨c2, x0, x1⟩
        have HS1 := Lib.hid (lateAlloc hS0 (.cells #[.string s, .int .i64 r] 59))
        clear hbA hA hne hnl
        go_region_held3 (fun u => u.cell? ⟨b, 2, none⟩ = some (.slice (some ⟨g, 0, none⟩) n capl) ∧ u.cell? ⟨g, k * 2, none⟩ = some (.string s) ∧ u.cell? ⟨g, k * 2 + 1, none⟩ = some (.int .i64 z))
          (first | exact hS0 | assumption | exact HS1.out | exact lateAlloc (by assumption) _)
          (first
            | (refine step_append_src (P := Try.prog) _ (by rfl) (.tmp 33) (.tmp 52) 40 (by rfl) w.heap.size 59 i0 (.agg #[.string ⟨#[]⟩, .int .i64 0]) 2 24 Try.underlying40 hi0 hz0 hz1 hz2 (by rfl) (by omega) (.slice lo nl lc) nl (lateCells (stepT (T.take k))) (by rfl) (by exact HO.out) (.slice (some ⟨wk.heap.size, 0, none⟩) 1 1) 1 [.string s, .int .i64 r] (by rfl) (by exact HSr.out.drew) HB.out.1 HB.out.2 HSZ.out ?_
               intro v2 w2 hown2 hg2 hat2
               have ys2 := lateGrown HS1.out (by exact hg2) HNe.out
               have HZ2 := Lib.hid (And.intro hown2 hg2)
               clear hown2 hg2 hat2))
        go_wp2
        go_roundw
        case rel =>
          refine ⟨k + 1, by omega, by go_num, Lib.hid ?_⟩
          rw [HC.out.1, HC.out.2.1, if_neg (by have := HZ.out; omega), if_pos HZ.out.1]
          refine HA.out.keeps HZ2.out.2 ?_
          rw [List.length_append, List.length_singleton, HNL.out, lateCells_append, HZ.out.2]
          exact HZ2.out.1
        case measure => simp [intOf]; omega
    · obtain rfl : k = n := by omega
      have HTl := Lib.hid hTl
      clear hTl
      go_wp2
      go_end0
      refine ⟨rfl, ?_⟩
      have := HR.out.done (by have := stepT_length (T.take k); rw [List.length_take] at this; have := HTl.out; omega)
      rw [← HV.out.1, List.take_length] at this ⊢
      exact this

end Go.Proofs.Yteolokckflckaaa
