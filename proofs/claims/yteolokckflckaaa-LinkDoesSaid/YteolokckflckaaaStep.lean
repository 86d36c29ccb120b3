/-
  The link: Step.
-/
import Derived.Test.YteolokckflckaaaLate
namespace Go.Proofs.Yteolokckflckaaa
open Go.RowKit Go.Conc

/-- What waits behind a step. -/
def stepC (room : Nat) (C : List ByteArray) (T : List (ByteArray × Nat)) : List ByteArray := T.foldl (fun C q => if q.2 ≤ 1 then comesL room C q.1 else C) C
/-- What is late behind a step. -/
def stepT (T : List (ByteArray × Nat)) : List (ByteArray × Nat) := (T.filter fun q => decide (1 < q.2)).map fun q => (q.1, q.2 - 1)
theorem stepC_snoc (room : Nat) (C : List ByteArray) (T : List (ByteArray × Nat)) (q : ByteArray × Nat) : stepC room C (T ++ [q]) = if q.2 ≤ 1 then comesL room (stepC room C T) q.1 else stepC room C T := by
  simp [stepC, List.foldl_append]
theorem stepT_snoc (T : List (ByteArray × Nat)) (q : ByteArray × Nat) : stepT (T ++ [q]) = if 1 < q.2 then stepT T ++ [(q.1, q.2 - 1)] else stepT T := by
  unfold stepT
  rw [List.filter_append, List.map_append]
  by_cases h : 1 < q.2
  · simp [h]
  · simp [h]
theorem stepT_length (T : List (ByteArray × Nat)) : (stepT T).length ≤ T.length := by
  unfold stepT
  rw [List.length_map]
  exact List.length_filter_le _ _
theorem lateCells_length (T : List (ByteArray × Nat)) : (lateCells T).length = T.length * 2 := by
  induction T with
  | nil => rfl
  | cons q T ih => simp only [lateCells, List.flatMap_cons, List.length_append, List.length_cons, List.length_nil] at ih ⊢; omega
theorem lateCells_append (T U : List (ByteArray × Nat)) : lateCells (T ++ U) = lateCells T ++ lateCells U := by simp [lateCells]
theorem lateCells_at (T : List (ByteArray × Nat)) (j : Nat) (h : j < T.length) : (lateCells T)[j * 2]? = some (.string (T[j]).1) ∧ (lateCells T)[j * 2 + 1]? = some (.int .i64 (T[j]).2) := by
  have e : T = T.take j ++ T[j] :: T.drop (j + 1) := by rw [List.getElem_cons_drop, List.take_append_drop]
  have e2 : lateCells T = lateCells (T.take j) ++ ([.string (T[j]).1, .int .i64 (T[j]).2] ++ lateCells (T.drop (j + 1))) := by
    conv => lhs; rw [e, lateCells_append]
    rfl
  have hl : (lateCells (T.take j)).length = j * 2 := by rw [lateCells_length, List.length_take, Nat.min_eq_left (by omega)]
  rw [e2]
  constructor
  · rw [List.getElem?_append_right (by omega), hl]; simp
  · rw [List.getElem?_append_right (by omega), hl]; simp

/-- A round's state. -/
def Stepping (w wr : World) (p room : Nat) (vc vl : Value) (C : List ByteArray) (T : List (ByteArray × Nat)) (left : Value) (C' : List ByteArray) (T' : List (ByteArray × Nat)) : Prop :=
  ∃ vc', LinkAt wr p room vc' vl C' T ∧ Kept (fun g => g = p ∨ vc.ownBlock = some g) w wr ∧ (∀ g, vc'.ownBlock = some g → vc.ownBlock = some g ∨ w.heap.size ≤ g) ∧ wr.ownsRow w.heap.size 56 2 left T'.length (lateCells T') ∧ LinkAt w p room vc vl C T

section
variable {w wr w2 : World} {p room : Nat} {vc vl left : Value} {C C' : List ByteArray} {T T' : List (ByteArray × Nat)}

theorem Stepping.alloc (h : Stepping w wr p room vc vl C T left C' T') (o : Obj) : Stepping w (wr.alloc o) p room vc vl C T left C' T' := by
  obtain ⟨vc', h1, h2, h3, h4, h5⟩ := h
  exact ⟨vc', h1.kept ((Kept.refl (fun _ => False) wr).alloc o) id (fun _ _ h => h) (fun _ _ h => h), h2.alloc o, h3, h4.alloc o, h5⟩

theorem Stepping.left_ne (h : Stepping w wr p room vc vl C T left C' T') : ∀ g, left.ownBlock = some g → g ≠ p ∧ vl.ownBlock ≠ some g ∧ w.heap.size ≤ g ∧ ∀ vc', LinkAt wr p room vc' vl C' T → vc'.ownBlock ≠ some g := by
  obtain ⟨vc', h1, h2, h3, h4, h5⟩ := h
  intro g hg
  obtain ⟨hb, cur, hc⟩ := owns_block h4 g hg
  refine ⟨fun e => ?_, fun e => ?_, hb, fun v h e => ?_⟩
  · rw [e, h1.1] at hc; simp at hc
  · obtain ⟨_, cur', hc'⟩ := owns_block h5.2.2.1 g e
    have := lt_of_block hc'
    omega
  · obtain ⟨_, cur', hc'⟩ := h.2.1.lt g e
    rw [hc'] at hc
    simp at hc

theorem Stepping.keeps (h : Stepping w wr p room vc vl C T left C' T') {left2 : Value} {T2 : List (ByteArray × Nat)} (hg : wr.grownBy w2 left.ownBlock) (ho : w2.ownsRow w.heap.size 56 2 left2 T2.length (lateCells T2)) : Stepping w w2 p room vc vl C T left2 C' T2 := by
  have hl := h.left_ne
  obtain ⟨vc', h1, h2, h3, h4, h5⟩ := h
  have k : Kept (fun g => left.ownBlock = some g) wr w2 := Kept.of_grown hg (fun _ e => e)
  exact ⟨vc', h1.kept k (fun e => (hl p e).1 rfl) (fun g hg e => (hl g e).2.2.2 vc' h1 hg) (fun g hg e => (hl g e).2.1 hg), h2.step k (fun g hg e => by have := (hl g e).2.2.1; omega), h3, ho, h5⟩

theorem Stepping.comes (h : Stepping w wr p room vc vl C T left C' T') (s : ByteArray) :
    Calls Try.prog 19 #[.pointer (some ⟨p, 0, none⟩), .string s] wr fun e w' => e = .returned (.tuple #[]) ∧ Stepping w w' p room vc vl C T left (comesL room C' s) T' := by
  have hl := h.left_ne
  obtain ⟨vc', h1, h2, h3, h4, h5⟩ := h
  refine (comesAt wr p room vc' vl C' T s h1).mono fun e w' ⟨he, v2, k1, k2, k3⟩ => ⟨he, v2, k1, h2.step k2 (fun g hg e => ?_), fun g hg => ?_, owns_kept h4 k2 (fun g hg e => ?_), h5⟩
  · rcases e with e | e
    · exact .inl e
    · rcases h3 g e with e | e
      · exact .inr e
      · omega
  · rcases k3 g hg with e | e
    · exact h3 g e
    · exact .inr (Nat.le_trans h2.size e)
  · rcases e with e | e
    · exact (hl g hg).1 e
    · exact (hl g hg).2.2.2 vc' h1 e

/-- What is late is stored: the step is done. -/
theorem Stepping.done (h : Stepping w wr p room vc vl C T left C' T') (hl : T'.length ≤ 100000) : LinkTurn w (wr.setCell ⟨p, 2, none⟩ left) p room (p :: (vc.ownBlock.toList ++ vl.ownBlock.toList)) C' T' := by
  have hne := h.left_ne
  obtain ⟨vc', h1, h2, h3, h4, h5⟩ := h
  have k3 : Kept (· = p) wr (wr.setCell ⟨p, 2, none⟩ left) := (Kept.refl _ wr).setCell _ _ (fun _ => rfl)
  refine ⟨_, ⟨vc', left, ⟨by simpa using setCell_at h1.1 2 left, h1.2.1.kept k3 (fun g hg e => h1.ne_c g hg e), owns_mono (owns_kept h4 k3 (fun g hg e => (hne g hg).1 e)) (Nat.zero_le _), h1.2.2.2.1, h1.2.2.2.2.1, hl⟩, rfl⟩, fun q hq => ?_, ?_⟩
  · rcases List.mem_cons.1 hq with rfl | hq
    · exact .inl (List.mem_cons_self ..)
    · rcases List.mem_append.1 hq with hq | hq
      · rcases h3 q (Option.mem_toList.1 hq) with e | e
        · exact .inl (List.mem_cons_of_mem _ (List.mem_append_left _ (Option.mem_toList.2 e)))
        · exact .inr e
      · exact .inr (hne q (Option.mem_toList.1 hq)).2.2.1
  · refine (h2.mono fun g _ e => ?_).trans (k3.mono fun g _ e => ?_)
    · rcases e with rfl | e
      · exact List.mem_cons_self ..
      · exact List.mem_cons_of_mem _ (List.mem_append_left _ (Option.mem_toList.2 e))
    · rw [e]; exact List.mem_cons_self ..

/-- Where a late message lies. -/
theorem Stepping.cell (h : Stepping w wr p room vc vl C T left C' T') {k : Nat} (hk : k < T.length) : ∃ g cap, vl = .slice (some ⟨g, 0, none⟩) T.length cap ∧ wr.cell? ⟨g, k * 2, none⟩ = some (.string (T[k]).1) ∧ wr.cell? ⟨g, k * 2 + 1, none⟩ = some (.int .i64 (T[k]).2) := by
  obtain ⟨vc', h1, h2, h3, h4, h5⟩ := h
  have hown := h1.2.2.1
  rcases hown.2 with ⟨_, h0⟩ | ⟨g, cap, cur, hv, _, hg, _⟩
  · omega
  · subst hv
    exact ⟨g, cap, rfl, by rw [hown.cellAt (k * 2) (by omega)]; exact (lateCells_at T k hk).1, by rw [hown.cellAt (k * 2 + 1) (by omega)]; exact (lateCells_at T k hk).2⟩
end

set_option maxHeartbeats 1000000 in
theorem step_walk (w : World) (p room : Nat) (own : List Nat) (C : List ByteArray) (T : List (ByteArray × Nat)) (h : LinkIs w p room own C T) (hT : ∀ q ∈ T, 1 ≤ q.2 ∧ q.2 ≤ 8) :
    Calls Try.prog 9 #[.pointer (some ⟨p, 0, none⟩)] w fun e w' => e = .returned (.tuple #[]) ∧ LinkTurn w w' p room own (stepC room C T) (stepT T) := by
  obtain ⟨i0, hi0, hz0, hz1, hz2⟩ := info_parts info56
  obtain ⟨vc, vl, h, rfl⟩ := h
  have hTl := h.2.2.2.2.2
  obtain ⟨bo, capl, hvl⟩ := shape_of h.2.2.1
  have c2 : w.cell? ⟨p, 2, none⟩ = some (.slice bo T.length capl) := by rw [cell_of h.1, ← hvl]; rfl
  have HS0 : Hid (Stepping w w p room vc vl C T (.slice none 0 0) (stepC room C (T.take 0)) (stepT (T.take 0))) :=
    Lib.hid ⟨vc, h, Kept.refl _ _, fun _ e => .inl e, World.ownsRow_nil _ _ _ _, h⟩
  obtain ⟨n, hn⟩ : ∃ n, T.length = n := ⟨_, rfl⟩
  rw [hn] at c2 hvl hTl
  have HV := Lib.hid (And.intro hn (And.intro hvl hT))
  clear h hn hvl hT
  go_enter Try.func9, Try.ntmps9
  go_wp2_with fail
  go_loopw [2, 10] (fun left si wr => ∃ k : Nat, k ≤ n ∧ si = .int .i64 k ∧ Hid (Stepping w wr p room vc vl C T left (stepC room C (T.take k)) (stepT (T.take k)))) (fun _ si _ => n - (intOf si).toNat)
  case atStart => exact ⟨0, Nat.zero_le _, rfl, HS0⟩
  case round =>
    obtain ⟨k, hk, rfl, HR⟩ := hrel
    obtain ⟨wk, rfl⟩ : ∃ wk, wk = wr := ⟨_, rfl⟩
    obtain ⟨lo, lc, hleft⟩ := shape_of HR.out.choose_spec.2.2.2.1
    subst hleft
    by_cases hlt : k < n
    · have hkl : k < T.length := by rw [HV.out.1]; exact hlt
      obtain ⟨g, cap, hv, x0, x1⟩ := HR.out.cell hkl
      obtain ⟨hq1, hq8⟩ := HV.out.2.2 _ (List.getElem_mem hkl)
      have hsc := stepC_snoc room C (T.take k) T[k]
      have hst := stepT_snoc (T.take k) T[k]
      rw [← List.take_succ_eq_append_getElem hkl] at hsc hst
      generalize (T[k]).1 = s at x0 hsc hst
      generalize (T[k]).2 = z at x1 hsc hst hq1 hq8
      obtain ⟨r, hr⟩ : ∃ r : Nat, (z : Int) - 1 = (r : Int) := ⟨z - 1, by omega⟩
      have HC := Lib.hid (And.intro hsc (And.intro hst hv))
      have hbo : bo = some ⟨g, 0, none⟩ := by
        have := HV.out.2.1.symm.trans hv
        simp only [Value.slice.injEq] at this
        exact this.1
      subst hbo
      clear hsc hst hv
      have hz1' : (1 : Int) ≤ (z : Int) := by omega
      have hz8' : (z : Int) ≤ 8 := by omega
      have hkn : (k : Int) < (n : Int) := by omega
      have HA := Lib.hid (HR.out.alloc (.cells #[.string s, .int .i64 r] 56))
      have HTk : Hid ((stepT (T.take k)).length + 1 ≤ 100001) := Lib.hid (by have := stepT_length (T.take k); rw [List.length_take] at this; omega)
      by_cases hr0 : 0 < r
      · have hr0' : (0 : Int) < (r : Int) := by omega
        have HZ : Hid (1 < z ∧ z - 1 = r) := Lib.hid (by omega)
        have HA2 := Lib.hid (HA.out.alloc (.cells #[.string s, .int .i64 r] 56))
        obtain ⟨nl, hnl⟩ : ∃ nl, (stepT (T.take k)).length = nl := ⟨_, rfl⟩
        rw [hnl] at HTk ⊢
        have HO : Hid (((wk.alloc (.cells #[.string s, .int .i64 r] 56)).alloc (.cells #[.string s, .int .i64 r] 56)).ownsRow w.heap.size 56 2 (.slice lo nl lc) nl (lateCells (stepT (T.take k)))) := Lib.hid (by
          have := HA2.out.choose_spec.2.2.2.1
          rwa [hnl] at this)
        have HSZ : Hid (w.heap.size ≤ wk.heap.size) := Lib.hid HR.out.choose_spec.2.1.size
        have HSr : Hid (SrcIs ((wk.alloc (.cells #[.string s, .int .i64 r] 56)).alloc (.cells #[.string s, .int .i64 r] 56)) 2 (.slice (some ⟨wk.heap.size + 1, 0, none⟩) 1 1) 1 [.string s, .int .i64 r]) := Lib.hid (by
          have := src_two (wk.alloc (.cells #[.string s, .int .i64 r] 56)) 56 (.string s) (.int .i64 r) rfl rfl
          simpa using this)
        have HNL := Lib.hid hnl
        clear hnl
        go_wp2_with (at_builtin; refine wpList_append_src _ rfl (.tmp 21) (.tmp 23) 50 rfl w.heap.size 56 i0 (.agg #[.string ⟨#[]⟩, .int .i64 0]) 2 24 Try.underlying50 hi0 hz0 hz1 hz2 rfl (by decide) (.slice lo nl lc) nl (lateCells (stepT (T.take k))) rfl HO.out (.slice (some ⟨wk.heap.size + 1, 0, none⟩) 1 1) 1 [.string s, .int .i64 r] rfl HSr.out (by have := HTk.out; unfold maxLen; omega) (by have := HTk.out; omega) (by have := HSZ.out; simp; omega) ?_)
        intro v2 w2 hown2 hg2 _
        have HZ2 := Lib.hid (And.intro hown2 hg2)
        clear hown2 hg2
        go_wp2
        go_roundw
        case rel =>
          refine ⟨k + 1, by omega, by go_num, Lib.hid ?_⟩
          rw [HC.out.1, HC.out.2.1, if_neg (by have := HZ.out; omega), if_pos HZ.out.1]
          refine HA2.out.keeps (by rw [← HNL.out] at HZ2; exact HZ2.out.2) ?_
          rw [List.length_append, List.length_singleton, HNL.out, lateCells_append, HZ.out.2]
          exact HZ2.out.1
        case measure => simp [intOf]; omega
      · obtain rfl : r = 0 := by omega
        have HZ : Hid (z ≤ 1) := Lib.hid (by omega)
        go_wp2_with fail
        refine (HA.out.comes s).mono ?_
        rintro e w2 ⟨rfl, ht⟩
        have HT2 := Lib.hid ht
        clear ht
        go_wp2
        go_roundw
        case rel =>
          refine ⟨k + 1, by omega, by go_num, Lib.hid ?_⟩
          rw [HC.out.1, HC.out.2.1, if_pos HZ.out, if_neg (by have := HZ.out; omega)]
          exact HT2.out
        case measure => simp [intOf]; omega
    · obtain rfl : k = n := by omega
      have hp : p < wk.heap.size := lt_of_block HR.out.choose_spec.1.1
      have c3 : wk.cell? ⟨p, 2, none⟩ = some (.slice bo k capl) := by
        rw [cell_of HR.out.choose_spec.1.1, ← HV.out.2.1]; rfl
      have f3 : wk.frozen? ⟨p, 2, none⟩ = false := free_of HR.out.choose_spec.1.1 2
      have HTl := Lib.hid hTl
      clear hTl hp
      go_wp2
      go_end0
      refine ⟨rfl, ?_⟩
      have := HR.out.done (by have := stepT_length (T.take k); rw [List.length_take] at this; have := HTl.out; omega)
      rw [← HV.out.1, List.take_length] at this ⊢
      exact this

end Go.Proofs.Yteolokckflckaaa
