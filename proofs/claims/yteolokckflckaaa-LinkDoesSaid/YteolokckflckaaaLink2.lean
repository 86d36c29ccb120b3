/-
  The link: comes, Take, New.
-/
import Derived.Test.YteolokckflckaaaLink
namespace Go.Proofs.Yteolokckflckaaa
open Go.RowKit Go.Conc

theorem infoStr : (Try.prog.info? 9).map (fun i => (i.zero, i.size, i.bytes)) = some (some (.string ⟨#[]⟩), 1, 16) := by kernel_rfl
theorem info56 : (Try.prog.info? 56).map (fun i => (i.zero, i.size, i.bytes)) = some (some (.agg #[.string ⟨#[]⟩, .int .i64 0]), 2, 24) := by kernel_rfl

theorem Kept.of_grown {S : Nat → Prop} {w w' : World} {row : Option Nat} (h : w.grownBy w' row) (hs : ∀ k, row = some k → S k) : Kept S w w' :=
  ⟨h.os, h.tape, h.output, h.size, fun i hi hn => h.block i hi (fun e => hn (hs i e.symm))⟩

/-- What came may have turned; what is late lies where it lay. -/
def CameTurn (w w' : World) (p room : Nat) (vc vl : Value) (C : List ByteArray) (T : List (ByteArray × Nat)) : Prop :=
  ∃ vc', LinkAt w' p room vc' vl C T ∧ Kept (fun g => g = p ∨ vc.ownBlock = some g) w w' ∧ ∀ g, vc'.ownBlock = some g → vc.ownBlock = some g ∨ w.heap.size ≤ g

theorem CameTurn.turn {w w' : World} {p room : Nat} {vc vl : Value} {C : List ByteArray} {T : List (ByteArray × Nat)} (h : CameTurn w w' p room vc vl C T) : LinkTurn w w' p room (p :: (vc.ownBlock.toList ++ vl.ownBlock.toList)) C T := by
  obtain ⟨vc', h1, h2, h3⟩ := h
  refine ⟨_, ⟨vc', vl, h1, rfl⟩, fun q hq => ?_, h2.mono fun g _ e => ?_⟩
  · rcases List.mem_cons.1 hq with rfl | hq
    · exact .inl (List.mem_cons_self ..)
    · rcases List.mem_append.1 hq with hq | hq
      · rcases h3 q (Option.mem_toList.1 hq) with e | e
        · exact .inl (List.mem_cons_of_mem _ (List.mem_append_left _ (Option.mem_toList.2 e)))
        · exact .inr e
      · exact .inl (List.mem_cons_of_mem _ (List.mem_append_right _ hq))
  · rcases e with rfl | e
    · exact List.mem_cons_self ..
    · exact List.mem_cons_of_mem _ (List.mem_append_left _ (Option.mem_toList.2 e))

theorem LinkAt.kept {w w' : World} {p room : Nat} {vc vl : Value} {C : List ByteArray} {T : List (ByteArray × Nat)} {S : Nat → Prop} (h : LinkAt w p room vc vl C T) (k : Kept S w w') (h1 : ¬ S p) (h2 : ∀ g, vc.ownBlock = some g → ¬ S g) (h3 : ∀ g, vl.ownBlock = some g → ¬ S g) : LinkAt w' p room vc vl C T :=
  ⟨k.get h.1 h1, h.2.1.kept k h2, owns_kept h.2.2.1 k h3, h.2.2.2⟩

/-- What came is stored anew. -/
theorem CameTurn.storeC {w w2 : World} {p room : Nat} {vc vl v' : Value} {C C' : List ByteArray} {T : List (ByteArray × Nat)} (h : LinkAt w p room vc vl C T) (k : Kept (fun g => vc.ownBlock = some g) w w2)
    (hs : Slid w2 0 9 1 v' C'.length (C'.map Value.string)) (hat : ∀ g, v'.ownBlock = some g → vc.ownBlock = some g ∨ w.heap.size ≤ g) (hl : C'.length ≤ room) :
    CameTurn w (w2.setCell ⟨p, 1, none⟩ v') p room vc vl C' T := by
  have hr2 := k.get h.1 (fun e => h.ne_c p e rfl)
  have k3 : Kept (· = p) w2 (w2.setCell ⟨p, 1, none⟩ v') := (Kept.refl _ w2).setCell _ _ (fun _ => rfl)
  have hl2 : w2.ownsRow 0 56 2 vl T.length (lateCells T) := owns_kept h.2.2.1 k (fun g hg e => h.ne_cl g g e hg rfl)
  refine ⟨v', ⟨by simpa using setCell_at hr2 1 v', hs.kept k3 (fun g hg e => ?_), owns_kept hl2 k3 (fun g hg e => h.ne_l g hg e), hl, h.2.2.2.2⟩, (k.mono fun _ _ e => .inr e).trans (k3.mono fun _ _ e => .inl e), hat⟩
  obtain ⟨_, cur, hc⟩ := hs.lt g hg
  rw [e, hr2] at hc
  simp at hc

set_option maxHeartbeats 1000000 in
theorem comes_full (w : World) (p room : Nat) (own : List Nat) (C : List ByteArray) (T : List (ByteArray × Nat)) (s : ByteArray) (h : LinkIs w p room own C T) (hf : room ≤ C.length) :
    Calls Try.prog 19 #[.pointer (some ⟨p, 0, none⟩), .string s] w fun e w' => e = .returned (.tuple #[]) ∧ ∃ n, w' = w.drewN n := by
  obtain ⟨vc, vl, ⟨hr, hc, hl, _⟩, _⟩ := h
  obtain ⟨ao, cap, rfl, _⟩ := hc.shape
  obtain ⟨n, hn⟩ : ∃ n, C.length = n := ⟨_, rfl⟩
  rw [hn] at hf hr
  have c0 : w.cell? ⟨p, 0, none⟩ = some (.int .i64 room) := by rw [cell_of hr]; rfl
  have c1 : w.cell? ⟨p, 1, none⟩ = some (.slice ao n cap) := by rw [cell_of hr]; rfl
  have hd : decide ((n : Int) < (room : Int)) = false := by rw [decide_eq_false_iff_not]; omega
  clear hr hc hl hn
  go_enter Try.func19, Try.ntmps19
  go_wp2
  go_quiet (fail)
  go_wp2
  go_end0
  exact ⟨rfl, _, rfl⟩

set_option maxHeartbeats 1000000 in
theorem comes_room (w : World) (p room : Nat) (vc vl : Value) (C : List ByteArray) (T : List (ByteArray × Nat)) (s : ByteArray) (h : LinkAt w p room vc vl C T) (hf : C.length < room) :
    Calls Try.prog 19 #[.pointer (some ⟨p, 0, none⟩), .string s] w fun e w' => e = .returned (.tuple #[]) ∧ CameTurn w w' p room vc vl (C ++ [s]) T := by
  obtain ⟨i0, hi0, hz0, hz1, hz2⟩ := info_parts infoStr
  have h' := h
  obtain ⟨hr, hc, hl, _, hroom, _⟩ := h'
  obtain ⟨ao, cap, rfl, _⟩ := hc.shape
  obtain ⟨n, hn⟩ : ∃ n, C.length = n := ⟨_, rfl⟩
  rw [hn] at hf hr hc h ⊢
  have c0 : w.cell? ⟨p, 0, none⟩ = some (.int .i64 room) := by rw [cell_of hr]; rfl
  have c1 : w.cell? ⟨p, 1, none⟩ = some (.slice ao n cap) := by rw [cell_of hr]; rfl
  have f1 : w.frozen? ⟨p, 1, none⟩ = false := free_of hr 1
  have hlt : (n : Int) < (room : Int) := by omega
  have H := Lib.hid (And.intro h (And.intro hn (And.intro hc (And.intro hf hroom))))
  clear h hr hc hl hn hroom
  go_enter Try.func19, Try.ntmps19
  go_wp2
  go_quiet (fail)
  have d1 : (w.drewN nq).cell? ⟨p, 1, none⟩ = some (.slice ao n cap) := c1
  have g1 : (w.drewN nq).frozen? ⟨p, 1, none⟩ = false := f1
  have HD : Hid (Below w.heap.size w (w.drewN nq) ∧ Slid (w.drewN nq) 0 9 1 (.slice ao n cap) n (C.map Value.string) ∧ (w.drewN nq).heap.size = w.heap.size) :=
    Lib.hid ⟨below_drewN (Below.refl _ _) _, H.out.2.2.1.kept (Kept.of_below (below_drewN (Below.refl _ _) _) (fun _ => False)) (fun _ _ h => h), rfl⟩
  generalize w.drewN nq = wd at d1 g1 HD ⊢
  have HS : Hid (Slid (wd.alloc (.cells #[.string s] 9)) 0 9 1 (.slice ao n cap) n (C.map Value.string)) := Lib.hid (HD.out.2.1.kept ((Kept.refl (fun _ => False) wd).alloc _) (fun _ _ h => h))
  go_wp2_with (at_builtin; refine wpList_append_slid _ rfl (.tmp 18) (.tmp 20) 39 rfl 0 9 i0 (.string ⟨#[]⟩) 1 16 Try.underlying39 hi0 hz0 hz1 hz2 rfl (by decide) (.slice ao n cap) n (C.map Value.string) rfl HS.out ⟨wd.heap.size, 0, none⟩ 1 1 [.string s] rfl rfl (cell_one_new _ _ _) (by intro u hu; simp at hu; subst hu; rfl) (by have := H.out.2.2.2; unfold maxLen; omega) (by have := H.out.2.2.2; omega) (Nat.zero_le _) ?_)
  intro v' w2 hs2 hg2 hat2
  obtain ⟨ao', cap', rfl, _⟩ := hs2.shape
  have hk2 : Kept (fun g => (Value.slice ao n cap).ownBlock = some g) wd w2 := ((Kept.refl _ wd).alloc _).trans (Kept.of_grown hg2 (fun k e => e))
  have hpd := World.block_lt_of_cell? _ _ d1
  have hpn : ¬ (Value.slice ao n cap).ownBlock = some p := fun e => H.out.1.ne_c p e rfl
  have c2 : w2.cell? ⟨p, 1, none⟩ = some (.slice ao n cap) := (World.cell?_of_block (a := ⟨p, 1, none⟩) (hk2.block p hpd hpn)).trans d1
  have f2 : w2.frozen? ⟨p, 1, none⟩ = false := (World.frozen?_of_block (a := ⟨p, 1, none⟩) (hk2.block p hpd hpn)).trans g1
  have HH := Lib.hid (And.intro hs2 (And.intro hk2 hat2))
  clear hs2 hk2 hat2 hg2 hpd hpn
  go_wp2
  go_end0
  have hn := H.out.2.1
  refine ⟨rfl, CameTurn.storeC H.out.1 ((Kept.of_below HD.out.1 _).trans HH.out.2.1) ?_ (fun g hg => ?_) ?_⟩
  · rw [List.length_append, List.length_singleton, hn, List.map_append]
    exact HH.out.1
  · rcases HH.out.2.2 g hg with e | e
    · exact .inl e
    · refine .inr ?_
      have := HD.out.2.2
      omega
  · have := H.out.2.2.2.1
    rw [List.length_append, List.length_singleton, hn]; omega

/-- A message comes. -/
theorem comesAt (w : World) (p room : Nat) (vc vl : Value) (C : List ByteArray) (T : List (ByteArray × Nat)) (s : ByteArray) (h : LinkAt w p room vc vl C T) :
    Calls Try.prog 19 #[.pointer (some ⟨p, 0, none⟩), .string s] w fun e w' => e = .returned (.tuple #[]) ∧ CameTurn w w' p room vc vl (comesL room C s) T := by
  unfold comesL
  by_cases hf : C.length < room
  · rw [if_pos hf]
    exact comes_room w p room vc vl C T s h hf
  · rw [if_neg hf]
    refine (comes_full w p room _ C T s ⟨vc, vl, h, rfl⟩ (by omega)).mono fun e w' ⟨he, n, hw⟩ => ⟨he, ?_⟩
    subst hw
    exact ⟨vc, h.kept ((Kept.refl (fun _ => False) w).drewN n) id (fun _ _ h => h) (fun _ _ h => h), (Kept.refl _ w).drewN n, fun _ e => .inl e⟩
theorem comes (w : World) (p room : Nat) (own : List Nat) (C : List ByteArray) (T : List (ByteArray × Nat)) (s : ByteArray) (h : LinkIs w p room own C T) :
    Calls Try.prog 19 #[.pointer (some ⟨p, 0, none⟩), .string s] w fun e w' => e = .returned (.tuple #[]) ∧ LinkTurn w w' p room own (comesL room C s) T := by
  obtain ⟨vc, vl, h, rfl⟩ := h
  exact (comesAt w p room vc vl C T s h).mono fun _ _ ⟨he, ht⟩ => ⟨he, ht.turn⟩

theorem take_nil (w : World) (p room : Nat) (own : List Nat) (T : List (ByteArray × Nat)) (h : LinkIs w p room own [] T) :
    Calls Try.prog 10 #[.pointer (some ⟨p, 0, none⟩)] w fun e w' => e = .returned (.tuple #[.string ⟨#[]⟩, .bool false]) ∧ w' = w := by
  obtain ⟨vc, vl, ⟨hr, hc, hl, _⟩, _⟩ := h
  obtain ⟨ao, cap, rfl, _⟩ := hc.shape
  have c1 : w.cell? ⟨p, 1, none⟩ = some (.slice ao 0 cap) := by rw [cell_of hr]; rfl
  clear hr hc hl
  go_enter Try.func10, Try.ntmps10
  go_wp2
  go_ret2
  exact ⟨rfl, rfl⟩

theorem Slid.cut1 {w : World} {base g off cap n : Nat} {e : TypeId} {x : Value} {xs : List Value} (h : Slid w base e 1 (.slice (some ⟨g, off, none⟩) n cap) n (x :: xs)) :
    Slid w base e 1 (sliced (some ⟨g, off, none⟩) 1 n cap 1) (n - 1) xs := by
  obtain ⟨h1, h2⟩ := h
  rw [List.length_cons] at h1
  refine ⟨by omega, .inr ?_⟩
  rcases h2 with ⟨h2, _⟩ | ⟨g', off', cap', hv, hb, hnc, hcm, ⟨cur, hg, hcs⟩, hcell⟩
  · cases h2
  · simp only [Value.slice.injEq, Option.some.injEq, Addr.mk.injEq, true_and, and_true] at hv
    obtain ⟨⟨rfl, rfl⟩, rfl⟩ := hv
    by_cases hc : cap = 1
    · subst hc
      refine ⟨g, off, 0, by simp [sliced], hb, by omega, by omega, ⟨cur, hg, by omega⟩, fun j u hu => ?_⟩
      have : xs = [] := List.eq_nil_of_length_eq_zero (by omega)
      subst this
      simp at hu
    · refine ⟨g, off + 1, cap - 1, by simp [sliced, hc, Addr.add], hb, by omega, by omega, ⟨cur, hg, by omega⟩, fun j u hu => ?_⟩
      have := hcell (j + 1) u (by simpa using hu)
      rwa [show off + 1 + j = off + (j + 1) by omega]

set_option maxHeartbeats 1000000 in
theorem take_cons (w : World) (p room : Nat) (own : List Nat) (x : ByteArray) (C : List ByteArray) (T : List (ByteArray × Nat)) (h : LinkIs w p room own (x :: C) T) :
    Calls Try.prog 10 #[.pointer (some ⟨p, 0, none⟩)] w fun e w' => e = .returned (.tuple #[.string x, .bool true]) ∧ LinkTurn w w' p room own C T := by
  obtain ⟨i0, hi0, hz0, hz1, hz2⟩ := info_parts infoStr
  obtain ⟨vc, vl, h, rfl⟩ := h
  have h' := h
  obtain ⟨hr, hc, hl, hroom, _⟩ := h'
  obtain ⟨n, hn⟩ : ∃ n, (x :: C).length = n := ⟨_, rfl⟩
  have hn1 : 1 ≤ n := by rw [← hn, List.length_cons]; omega
  have hc0 : C.length = n - 1 := by rw [← hn]; rfl
  rw [hn] at hc hroom
  have hc' := hc
  rcases hc.2 with ⟨_, h0⟩ | ⟨g, off, cap, rfl, _, hnc, _, ⟨cur, hg, hcs⟩, hcell⟩
  · omega
  have c1 : w.cell? ⟨p, 1, none⟩ = some (.slice (some ⟨g, off, none⟩) n cap) := by rw [cell_of hr]; rfl
  have f1 : w.frozen? ⟨p, 1, none⟩ = false := free_of hr 1
  have x0 : w.cell? ⟨g, off, none⟩ = some (.string x) := hcell 0 _ rfl
  have hu : Try.prog.elem 39 = 9 := by kernel_rfl
  have hsz : ∀ u : World, (sizeOf 9).run Try.prog u = .ok 1 u := fun u => by simp [sizeOf, typeInfo, hi0, hz1]
  have hul : Try.prog.underlying 39 = some (.slice (Try.prog.elem 39)) := by rw [hu]; exact Try.underlying39
  have hsl := hc'.cut1 (x := .string x) (xs := C.map Value.string)
  obtain ⟨y2, hy2⟩ : ∃ y2, y2 = sliced (some ⟨g, off, none⟩) 1 n cap 1 := ⟨_, rfl⟩
  have hs2 : ∀ u, (Instr.slice 39 (.slice (some ⟨g, off, none⟩) n cap) (some (.int .i64 1)) none none).run Try.prog u = .ok y2 u := fun u => by
    have := run_slice_l (P := Try.prog) u 39 (some ⟨g, off, none⟩) n cap hul .i64 1 (by omega) (by omega)
    rw [hu, hsz] at this
    simpa [Result.andThen, hy2] using this
  rw [← hy2] at hsl
  have hob : ∀ k, y2.ownBlock = some k → (Value.slice (some ⟨g, off, none⟩) n cap).ownBlock = some k := by
    intro k hk
    rw [hy2] at hk
    by_cases hc : cap = 1
    · subst hc; simpa [sliced, Value.ownBlock] using hk
    · simpa [sliced, hc, Addr.add, Value.ownBlock] using hk
  have i1 : (0 : Int) < (n : Int) := by omega
  have hn0 : ((n : Int) == 0) = false := by simp; omega
  obtain ⟨ao', cap', hy3, _⟩ := hsl.shape
  clear hy2
  subst hy3
  have H := Lib.hid (And.intro h (And.intro hc0 (And.intro hsl (And.intro hob (And.intro hroom hn1)))))
  clear h hr hc hc' hl hg hcs hcell hn hc0 hu hsz hul hsl hob hroom
  go_enter Try.func10, Try.ntmps10
  go_wp2
  go_ret2
  refine ⟨rfl, CameTurn.turn (CameTurn.storeC H.out.1 (Kept.refl _ w) ?_ (fun k hk => .inl (H.out.2.2.2.1 k hk)) ?_)⟩
  · rw [H.out.2.1]; exact H.out.2.2.1
  · have := H.out.2.1
    have := H.out.2.2.2.2
    omega

/-- The first of what waits. -/
def headS : List ByteArray → ByteArray
  | [] => ⟨#[]⟩
  | x :: _ => x
theorem take (w : World) (p room : Nat) (own : List Nat) (C : List ByteArray) (T : List (ByteArray × Nat)) (h : LinkIs w p room own C T) :
    Calls Try.prog 10 #[.pointer (some ⟨p, 0, none⟩)] w fun e w' => e = .returned (.tuple #[.string (headS C), .bool (!C.isEmpty)]) ∧ LinkTurn w w' p room own C.tail T := by
  cases C with
  | nil =>
    refine (take_nil w p room own T h).mono fun e w' ⟨he, hw⟩ => ⟨he, ?_⟩
    subst hw
    exact .same h 0
  | cons x C => exact take_cons w p room own x C T h

theorem new_yes (n : Int) (h1 : 1 ≤ n) (h2 : n ≤ 4096) (w : World) :
    Calls Try.prog 7 #[.int .i64 n] w fun e w' => e = .returned (.tuple #[.pointer (some ⟨w.heap.size, 0, none⟩), .int .i64 0]) ∧ LinkIs w' w.heap.size n.toNat [w.heap.size] [] [] ∧ Below w.heap.size w w' ∧ w'.heap.size = w.heap.size + 1 := by
  go_enter Try.func7, Try.ntmps7
  go_wp2
  go_ret2
  refine ⟨rfl, ⟨.slice none 0 0, .slice none 0 0, ⟨?_, Slid.nil _ _ _ _, World.ownsRow_nil _ _ _ _, Nat.zero_le _, by omega, Nat.zero_le _⟩, rfl⟩, (Below.refl _ _).alloc (Nat.le_refl _) _, by simp⟩
  rw [show ((n.toNat : Nat) : Int) = n by omega]
  exact alloc_at _ _

theorem new_no (n : Int) (h : n < 1 ∨ 4096 < n) (w : World) :
    Calls Try.prog 7 #[.int .i64 n] w fun e w' => e = .returned (.tuple #[.pointer none, .int .i64 50]) ∧ w' = w := by
  rcases h with h | h
  · go_enter Try.func7, Try.ntmps7
    go_wp2
    go_ret2
    exact ⟨rfl, rfl⟩
  · have h' : ¬ n < 1 := by omega
    go_enter Try.func7, Try.ntmps7
    go_wp2
    go_ret2
    exact ⟨rfl, rfl⟩

end Go.Proofs.Yteolokckflckaaa
