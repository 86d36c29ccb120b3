/-
  The document's link (stillageref18) in memory; comes, Take.
-/
import Derived.Test.YteolokckflckaaaWith
namespace Go.Proofs.Yteolokckflckaaa
open Go.RowKit Go.Conc

theorem SrcIs.of_owns {w : World} {base : Nat} {e : TypeId} {size : Nat} {v : Value} {n : Nat} {xs : List Value} (h : w.ownsRow base e size v n xs) (h1 : ∀ u ∈ xs, u.oneCell' = true) : SrcIs w size v n xs := by
  rcases h.2 with ⟨rfl, rfl⟩ | ⟨g, cap, cur, rfl, _⟩
  · exact ⟨⟨none, 0, rfl, fun _ => ⟨rfl, rfl⟩, fun _ h => by cases h⟩, h.1, h1⟩
  · refine ⟨⟨_, cap, rfl, (fun h => by cases h), fun ad had j u hu => ?_⟩, h.1, h1⟩
    simp only [Option.some.injEq] at had
    subst had
    exact h.cells (g := g) rfl j u hu
theorem texts_one (l : List ByteArray) : ∀ u ∈ l.map Value.string, u.oneCell' = true := by
  intro u hu
  obtain ⟨z, _, rfl⟩ := List.mem_map.1 hu
  rfl
theorem lates_one (T : List (ByteArray × Nat)) : ∀ u ∈ lateCells T, u.oneCell' = true := by
  intro u hu
  obtain ⟨p, _, hu⟩ := List.mem_flatMap.1 hu
  simp only [List.mem_cons, List.not_mem_nil, or_false] at hu
  rcases hu with rfl | rfl <;> rfl

/-- The document's link. -/
def RefAt (w : World) (b room : Nat) (vc vl : Value) (C : List ByteArray) (T : List (ByteArray × Nat)) : Prop :=
  w.heap[b]? = some (.cells #[.int .i64 room, vc, vl] 42 (0, 0)) ∧ w.ownsRow 0 9 1 vc C.length (C.map Value.string) ∧ w.ownsRow 0 59 2 vl T.length (lateCells T) ∧ C.length ≤ room ∧ room ≤ 4096 ∧ T.length ≤ 100000
def RefIs (w : World) (b room : Nat) (own : List Nat) (C : List ByteArray) (T : List (ByteArray × Nat)) : Prop :=
  ∃ vc vl, RefAt w b room vc vl C T ∧ own = b :: (vc.ownBlock.toList ++ vl.ownBlock.toList)
def RefTurn (w w' : World) (b room : Nat) (own : List Nat) (C : List ByteArray) (T : List (ByteArray × Nat)) : Prop :=
  ∃ own', RefIs w' b room own' C T ∧ (∀ k ∈ own', k ∈ own ∨ w.heap.size ≤ k) ∧ Kept (· = b) w w'

section
variable {w w' w1 : World} {b room : Nat} {own : List Nat} {C C' : List ByteArray} {T T' : List (ByteArray × Nat)} {vc vl v' : Value}

theorem RefAt.ne_c (h : RefAt w b room vc vl C T) : ∀ g, vc.ownBlock = some g → g ≠ b := by
  rintro g hg rfl
  obtain ⟨_, cur, hc⟩ := owns_block h.2.1 g hg
  rw [h.1] at hc
  simp at hc
theorem RefAt.ne_l (h : RefAt w b room vc vl C T) : ∀ g, vl.ownBlock = some g → g ≠ b := by
  rintro g hg rfl
  obtain ⟨_, cur, hc⟩ := owns_block h.2.2.1 g hg
  rw [h.1] at hc
  simp at hc
theorem RefIs.lt (h : RefIs w b room own C T) : ∀ k ∈ own, k < w.heap.size := by
  obtain ⟨vc, vl, ⟨hr, hc, hl, _⟩, rfl⟩ := h
  intro k hk
  rcases List.mem_cons.1 hk with rfl | hk
  · exact lt_of_block hr
  · rcases List.mem_append.1 hk with hk | hk
    · obtain ⟨_, _, h⟩ := owns_block hc k (Option.mem_toList.1 hk); exact lt_of_block h
    · obtain ⟨_, _, h⟩ := owns_block hl k (Option.mem_toList.1 hk); exact lt_of_block h
theorem RefIs.mem (h : RefIs w b room own C T) : b ∈ own := by
  obtain ⟨_, _, _, rfl⟩ := h
  exact List.mem_cons_self ..
theorem RefIs.kept {S : Nat → Prop} (h : RefIs w b room own C T) (k : Kept S w w') (hs : ∀ i ∈ own, ¬ S i) : RefIs w' b room own C T := by
  obtain ⟨vc, vl, ⟨hr, hc, hl, hm⟩, rfl⟩ := h
  exact ⟨vc, vl, ⟨k.get hr (hs b (List.mem_cons_self ..)), owns_kept hc k (fun g hg => hs g (List.mem_cons_of_mem _ (List.mem_append_left _ (Option.mem_toList.2 hg)))),
    owns_kept hl k (fun g hg => hs g (List.mem_cons_of_mem _ (List.mem_append_right _ (Option.mem_toList.2 hg)))), hm⟩, rfl⟩
theorem RefIs.below (h : RefIs w b room own C T) (hb : Below w.heap.size w w') : RefIs w' b room own C T := h.kept (Kept.of_below hb (fun _ => False)) (fun _ _ h => h)
theorem RefTurn.below (h : RefIs w b room own C T) (hb : Below w.heap.size w w') : RefTurn w w' b room own C T :=
  ⟨own, h.below hb, fun _ h => .inl h, Kept.of_below hb _⟩
theorem RefTurn.step {w2 w3 : World} {own2 : List Nat} (h2 : ∀ k ∈ own2, k ∈ own ∨ w.heap.size ≤ k) (k : Kept (· = b) w w2) (ht : RefTurn w2 w3 b room own2 C T) : RefTurn w w3 b room own C T := by
  obtain ⟨own3, k1, k2, k3⟩ := ht
  refine ⟨own3, k1, fun q hq => ?_, k.trans k3⟩
  rcases k2 q hq with hq | hq
  · exact h2 q hq
  · exact .inr (Nat.le_trans k.size hq)
theorem RefTurn.after (hb : Below w.heap.size w w1) (ht : RefTurn w1 w' b room own C T) : RefTurn w w' b room own C T :=
  .step (fun _ h => .inl h) (Kept.of_below hb _) ht

/-- What came may have turned; what is late lies where it lay. -/
def RefCame (w w' : World) (b room : Nat) (vc vl : Value) (C : List ByteArray) (T : List (ByteArray × Nat)) : Prop :=
  ∃ vc', RefAt w' b room vc' vl C T ∧ Kept (· = b) w w' ∧ ∀ g, vc'.ownBlock = some g → vc.ownBlock = some g ∨ w.heap.size ≤ g
theorem RefCame.turn (h : RefCame w w' b room vc vl C T) : RefTurn w w' b room (b :: (vc.ownBlock.toList ++ vl.ownBlock.toList)) C T := by
  obtain ⟨vc', h1, h2, h3⟩ := h
  refine ⟨_, ⟨vc', vl, h1, rfl⟩, fun q hq => ?_, h2⟩
  rcases List.mem_cons.1 hq with rfl | hq
  · exact .inl (List.mem_cons_self ..)
  · rcases List.mem_append.1 hq with hq | hq
    · rcases h3 q (Option.mem_toList.1 hq) with e | e
      · exact .inl (List.mem_cons_of_mem _ (List.mem_append_left _ (Option.mem_toList.2 e)))
      · exact .inr e
    · exact .inl (List.mem_cons_of_mem _ (List.mem_append_right _ hq))
theorem RefCame.storeC (h : RefAt w b room vc vl C T) (hb : Below w.heap.size w w1) (hown : w1.ownsRow w.heap.size 9 1 v' C'.length (C'.map Value.string)) (hl : C'.length ≤ room) :
    RefCame w (w1.setCell ⟨b, 1, none⟩ v') b room vc vl C' T := by
  have hlt := lt_of_block h.1
  have k0 : Kept (fun _ => False) w w1 := Kept.of_below hb _
  have hr1 := k0.get h.1 id
  have hk : Kept (· = b) w1 (w1.setCell ⟨b, 1, none⟩ v') := (Kept.refl _ w1).setCell _ _ (fun _ => rfl)
  refine ⟨v', ⟨by simpa using setCell_at hr1 1 v', owns_kept (owns_mono hown (Nat.zero_le _)) hk (fun g hg e => ?_), owns_kept (owns_kept h.2.2.1 k0 (fun _ _ h => h)) hk (fun g hg e => h.ne_l g hg e), hl, h.2.2.2.2⟩, (Kept.of_below hb _).trans hk, fun g hg => .inr (owns_block hown g hg).1⟩
  have := (owns_block hown g hg).1
  omega
theorem RefTurn.storeL (h : RefAt w b room vc vl C T) (hb : Below w.heap.size w w1) (hown : w1.ownsRow w.heap.size 59 2 v' T'.length (lateCells T')) (hl : T'.length ≤ 100000) :
    RefTurn w (w1.setCell ⟨b, 2, none⟩ v') b room (b :: (vc.ownBlock.toList ++ vl.ownBlock.toList)) C T' := by
  have hlt := lt_of_block h.1
  have k0 : Kept (fun _ => False) w w1 := Kept.of_below hb _
  have hr1 := k0.get h.1 id
  have hk : Kept (· = b) w1 (w1.setCell ⟨b, 2, none⟩ v') := (Kept.refl _ w1).setCell _ _ (fun _ => rfl)
  refine ⟨_, ⟨vc, v', ⟨by simpa using setCell_at hr1 2 v', owns_kept (owns_kept h.2.1 k0 (fun _ _ h => h)) hk (fun g hg e => h.ne_c g hg e), owns_kept (owns_mono hown (Nat.zero_le _)) hk (fun g hg e => ?_), h.2.2.2.1, h.2.2.2.2.1, hl⟩, rfl⟩, fun k hk' => ?_, (Kept.of_below hb _).trans hk⟩
  · have := (owns_block hown g hg).1
    omega
  · rcases List.mem_cons.1 hk' with rfl | hk'
    · exact .inl (List.mem_cons_self ..)
    · rcases List.mem_append.1 hk' with hk' | hk'
      · exact .inl (List.mem_cons_of_mem _ (List.mem_append_left _ hk'))
      · exact .inr (owns_block hown k (Option.mem_toList.1 hk')).1
end

set_option maxHeartbeats 1000000 in
theorem refComes_full (w : World) (b room : Nat) (own : List Nat) (C : List ByteArray) (T : List (ByteArray × Nat)) (s : ByteArray) (h : RefIs w b room own C T) (hf : room ≤ C.length) :
    Calls Try.prog 21 #[.pointer (some ⟨b, 0, none⟩), .string s] w fun e w' => e = .returned (.tuple #[]) ∧ ∃ n, w' = w.drewN n := by
  obtain ⟨vc, vl, ⟨hr, hc, hl, _⟩, _⟩ := h
  obtain ⟨ao, cap, rfl⟩ := shape_of hc
  obtain ⟨n, hn⟩ : ∃ n, C.length = n := ⟨_, rfl⟩
  rw [hn] at hf hr
  have c0 : w.cell? ⟨b, 0, none⟩ = some (.int .i64 room) := by rw [cell_of hr]; rfl
  have c1 : w.cell? ⟨b, 1, none⟩ = some (.slice ao n cap) := by rw [cell_of hr]; rfl
  have hd : decide ((n : Int) < (room : Int)) = false := by rw [decide_eq_false_iff_not]; omega
  clear hr hc hl hn
  go_enter Try.func21, Try.ntmps21
  go_wp2
  go_quiet (fail)
  go_wp2
  go_end0
  exact ⟨rfl, _, rfl⟩

set_option maxHeartbeats 2000000 in
theorem refComes_room (w : World) (b room : Nat) (vc vl : Value) (C : List ByteArray) (T : List (ByteArray × Nat)) (s : ByteArray) (h : RefAt w b room vc vl C T) (hf : C.length < room) :
    Calls Try.prog 21 #[.pointer (some ⟨b, 0, none⟩), .string s] w fun e w' => e = .returned (.tuple #[]) ∧ RefCame w w' b room vc vl (C ++ [s]) T := by
  obtain ⟨i0, hi0, hz0, hz1, hz2⟩ := info_parts infoStr
  have h' := h
  obtain ⟨hr, hown, _, _, hroom, _⟩ := h'
  obtain ⟨n, hn⟩ : ∃ n, C.length = n := ⟨_, rfl⟩
  rw [hn] at hown hf
  obtain ⟨ao, cap, rfl⟩ := shape_of hown
  have c0 : w.cell? ⟨b, 0, none⟩ = some (.int .i64 room) := by rw [cell_of hr]; rfl
  have c1 : w.cell? ⟨b, 1, none⟩ = some (.slice ao n cap) := by rw [cell_of hr]; rfl
  have f1 : w.frozen? ⟨b, 1, none⟩ = false := free_of hr 1
  have hrl : b < w.heap.size := lt_of_block hr
  have hlt : (n : Int) < (room : Int) := by omega
  have H := Lib.hid (And.intro h (And.intro hn (And.intro hown (And.intro hf hroom))))
  have HB := Lib.hid hrl
  clear h hr hown hn hroom hrl
  go_enter Try.func21, Try.ntmps21
  go_wp2
  go_quiet (fail)
  have d1 : (w.drewN nq).cell? ⟨b, 1, none⟩ = some (.slice ao n cap) := c1
  have g1 : (w.drewN nq).frozen? ⟨b, 1, none⟩ = false := f1
  have HD : Hid (Below w.heap.size w (w.drewN nq) ∧ (w.drewN nq).ownsRow 0 9 1 (.slice ao n cap) n (C.map Value.string)) :=
    Lib.hid ⟨below_drewN (Below.refl _ _) _, owns_kept H.out.2.2.1 (Kept.of_below (below_drewN (Below.refl _ _) _) (fun _ => False)) (fun _ _ h => h)⟩
  generalize w.drewN nq = wd at d1 g1 HD ⊢
  have hbd : b < wd.heap.size := World.block_lt_of_cell? _ _ d1
  have hsrc : SrcIs (wd.alloc (.cells #[] 9)) 1 (.slice ao n cap) n (C.map Value.string) := SrcIs.of_owns (HD.out.2.alloc _) (texts_one C)
  have hown0 : (wd.alloc (.cells #[] 9)).ownsRow wd.heap.size 9 1 (.slice (some ⟨wd.heap.size, 0, none⟩) 0 0) 0 [] :=
    ⟨rfl, .inr ⟨wd.heap.size, 0, #[], rfl, Nat.le_refl _, alloc_at wd _, Nat.le_refl _, Nat.zero_le _, rfl, rfl⟩⟩
  have HH := Lib.hid (And.intro hsrc hown0)
  clear hsrc hown0
  go_wp2_with (at_builtin; refine wpList_append_src _ rfl (.tmp 15) (.tmp 19) 39 rfl wd.heap.size 9 i0 (.string ⟨#[]⟩) 1 16 Try.underlying39 hi0 hz0 hz1 hz2 rfl (by decide) (.slice (some ⟨wd.heap.size, 0, none⟩) 0 0) 0 [] rfl HH.out.2 (.slice ao n cap) n (C.map Value.string) rfl HH.out.1 ?c1 ?c2 ?c3 ?_)
  case c1 => have := H.out.2.2.2; unfold maxLen; omega
  case c2 => have := H.out.2.2.2; omega
  case c3 => simp
  · intro v' w2 hown' hgrow' _
    obtain ⟨ao', cap', rfl⟩ := shape_of hown'
    have hb2 : Below wd.heap.size wd w2 := ((Below.refl _ _).alloc (Nat.le_refl _) _).grown hgrow' (by simp) (by intro k hk; cases hk; exact Nat.le_refl _)
    have hsrc : SrcIs (w2.alloc (.cells #[.string s] 9)) 1 (.slice (some ⟨w2.heap.size, 0, none⟩) 1 1) 1 [.string s] :=
      SrcIs.of_owns (base := 0) (e := 9) ⟨rfl, .inr ⟨w2.heap.size, 1, #[.string s], rfl, Nat.zero_le _, alloc_at w2 _, Nat.le_refl _, by unfold maxLen; omega, rfl, rfl⟩⟩ (by intro u hu; simp at hu; subst hu; rfl)
    have HO := Lib.hid (And.intro (hown'.alloc (.cells #[.string s] 9)) (And.intro hb2 hsrc))
    clear hown' hgrow' hb2 hsrc
    go_wp2_with (at_builtin; refine wpList_append_src _ rfl (.tmp 20) (.tmp 22) 39 rfl wd.heap.size 9 i0 (.string ⟨#[]⟩) 1 16 Try.underlying39 hi0 hz0 hz1 hz2 rfl (by decide) (.slice ao' n cap') n _ rfl HO.out.1 (.slice (some ⟨w2.heap.size, 0, none⟩) 1 1) 1 [.string s] rfl HO.out.2.2 ?k1 ?k2 ?k3 ?_)
    case k1 => have := H.out.2.2.2; unfold maxLen; omega
    case k2 => have := H.out.2.2.2; omega
    case k3 => have := HO.out.2.1.size; simp; omega
    · intro v'' w3 hown'' hgrow'' _
      obtain ⟨ao'', cap'', rfl⟩ := shape_of hown''
      have hb3 : Below wd.heap.size wd w3 := (HO.out.2.1.alloc HO.out.2.1.size _).grown hgrow'' (by have := HO.out.2.1.size; simp; omega) (by intro k hk; exact (HO.out.1.lt k hk).1)
      have hbs := HD.out.1.size
      have hbl := HB.out
      have c3 : w3.cell? ⟨b, 1, none⟩ = some (.slice ao n cap) := (hb3.cell (p := ⟨b, 1, none⟩) (show b < _ by omega)).trans d1
      have f3 : w3.frozen? ⟨b, 1, none⟩ = false := (hb3.frozen (p := ⟨b, 1, none⟩) (show b < _ by omega)).trans g1
      have HP := Lib.hid (And.intro hown'' (HD.out.1.trans (hb3.mono hbs)))
      have HS := Lib.hid hbs
      clear hown'' hgrow'' hb3 hbs hbl
      go_wp2
      go_end0
      refine ⟨rfl, RefCame.storeC H.out.1 HP.out.2 ?_ ?_⟩
      · have := owns_mono HP.out.1 HS.out
        rw [List.length_append, List.length_singleton, H.out.2.1, List.map_append]
        simpa using this
      · rw [List.length_append, List.length_singleton, H.out.2.1]; have := H.out.2.2.2.1; omega

/-- A message comes. -/
theorem refComesAt (w : World) (b room : Nat) (vc vl : Value) (C : List ByteArray) (T : List (ByteArray × Nat)) (s : ByteArray) (h : RefAt w b room vc vl C T) :
    Calls Try.prog 21 #[.pointer (some ⟨b, 0, none⟩), .string s] w fun e w' => e = .returned (.tuple #[]) ∧ RefCame w w' b room vc vl (comesL room C s) T := by
  unfold comesL
  by_cases hf : C.length < room
  · rw [if_pos hf]
    exact refComes_room w b room vc vl C T s h hf
  · rw [if_neg hf]
    refine (refComes_full w b room _ C T s ⟨vc, vl, h, rfl⟩ (by omega)).mono fun e w' ⟨he, n, hw⟩ => ⟨he, ?_⟩
    subst hw
    have k : Kept (fun _ => False) w (w.drewN n) := (Kept.refl _ w).drewN n
    exact ⟨vc, ⟨k.get h.1 id, owns_kept h.2.1 k (fun _ _ h => h), owns_kept h.2.2.1 k (fun _ _ h => h), h.2.2.2⟩, (Kept.refl _ w).drewN n, fun _ e => .inl e⟩
theorem refComes (w : World) (b room : Nat) (own : List Nat) (C : List ByteArray) (T : List (ByteArray × Nat)) (s : ByteArray) (h : RefIs w b room own C T) :
    Calls Try.prog 21 #[.pointer (some ⟨b, 0, none⟩), .string s] w fun e w' => e = .returned (.tuple #[]) ∧ RefTurn w w' b room own (comesL room C s) T := by
  obtain ⟨vc, vl, h, rfl⟩ := h
  exact (refComesAt w b room vc vl C T s h).mono fun _ _ ⟨he, ht⟩ => ⟨he, ht.turn⟩

theorem refTake_nil (w : World) (b room : Nat) (own : List Nat) (T : List (ByteArray × Nat)) (h : RefIs w b room own [] T) :
    Calls Try.prog 15 #[.pointer (some ⟨b, 0, none⟩)] w fun e w' => e = .returned (.tuple #[.string ⟨#[]⟩, .bool false]) ∧ w' = w := by
  obtain ⟨vc, vl, ⟨hr, hown, _⟩, _⟩ := h
  obtain ⟨ao, cap, rfl⟩ := shape_of hown
  have c1 : w.cell? ⟨b, 1, none⟩ = some (.slice ao 0 cap) := by rw [cell_of hr]; rfl
  clear hr hown
  go_enter Try.func15, Try.ntmps15
  go_wp2
  go_ret2
  exact ⟨rfl, rfl⟩

set_option maxHeartbeats 1000000 in
theorem refTake_cons (w : World) (b room : Nat) (own : List Nat) (x : ByteArray) (C : List ByteArray) (T : List (ByteArray × Nat)) (h : RefIs w b room own (x :: C) T) :
    Calls Try.prog 15 #[.pointer (some ⟨b, 0, none⟩)] w fun e w' => e = .returned (.tuple #[.string x, .bool true]) ∧ RefTurn w w' b room own C T := by
  obtain ⟨i0, hi0, hz0, hz1, hz2⟩ := info_parts infoStr
  obtain ⟨vc, vl, h, rfl⟩ := h
  have h' := h
  obtain ⟨hr, hown, _, hl, hroom, _⟩ := h'
  obtain ⟨n, hn⟩ : ∃ n, (x :: C).length = n := ⟨_, rfl⟩
  have hl0 : C.length = n - 1 := by rw [← hn]; rfl
  have hn1 : 1 ≤ n := by rw [← hn, List.length_cons]; omega
  rw [hn] at hown hl
  rcases hown.2 with ⟨_, h0⟩ | ⟨g, cap, cur, rfl, _, hg, hnc, _, hcs, htake⟩
  · omega
  have c1 : w.cell? ⟨b, 1, none⟩ = some (.slice (some ⟨g, 0, none⟩) n cap) := by rw [cell_of hr]; rfl
  have f1 : w.frozen? ⟨b, 1, none⟩ = false := free_of hr 1
  have x0 : w.cell? ⟨g, 0, none⟩ = some (.string x) := by rw [hown.cellAt 0 (by omega)]; rfl
  have hu : Try.prog.elem 39 = 9 := by kernel_rfl
  have hsz : ∀ u : World, (sizeOf 9).run Try.prog u = .ok 1 u := fun u => by simp [sizeOf, typeInfo, hi0, hz1]
  have hul : Try.prog.underlying 39 = some (.slice (Try.prog.elem 39)) := by rw [hu]; exact Try.underlying39
  obtain ⟨y2, hy2⟩ : ∃ y2, y2 = sliced (some ⟨g, 0, none⟩) 1 n cap 1 := ⟨_, rfl⟩
  have hs2 : ∀ u, (Instr.slice 39 (.slice (some ⟨g, 0, none⟩) n cap) (some (.int .i64 1)) none none).run Try.prog u = .ok y2 u := fun u => by
    have := run_slice_l (P := Try.prog) u 39 (some ⟨g, 0, none⟩) n cap hul .i64 1 (by omega) (by omega)
    rw [hu, hsz] at this
    simpa [Result.andThen, hy2] using this
  have hgl : g < w.heap.size := lt_of_block hg
  have hrl : b < w.heap.size := lt_of_block hr
  have hsrc : SrcIs (w.alloc (.cells #[] 9)) 1 y2 (n - 1) (C.map Value.string) := by
    have e1 : (cur.toList.take (n * 1)).drop (1 * 1) = C.map Value.string := by rw [htake]; rfl
    rw [hy2, ← e1]
    refine SrcIs.cut ((alloc_old _ _ hgl).trans hg) hn1 hnc (by omega) (fun u hu => ?_)
    rw [htake] at hu
    exact texts_one _ u hu
  have hown0 : (w.alloc (.cells #[] 9)).ownsRow w.heap.size 9 1 (.slice (some ⟨w.heap.size, 0, none⟩) 0 0) 0 [] :=
    ⟨rfl, .inr ⟨w.heap.size, 0, #[], rfl, Nat.le_refl _, alloc_at w _, Nat.le_refl _, Nat.zero_le _, rfl, rfl⟩⟩
  have i1 : (0 : Int) < (n : Int) := by omega
  have hn0 : ((n : Int) == 0) = false := by simp; omega
  have H := Lib.hid (And.intro h (And.intro hl0 hl))
  have HH := Lib.hid (And.intro hsrc hown0)
  have HB := Lib.hid (And.intro hroom (And.intro hgl hrl))
  clear h hr hown hg hnc hcs htake hsrc hown0 hn hl0 hl hy2 hu hsz hul hroom hgl
  go_enter Try.func15, Try.ntmps15
  go_wp2_with (at_builtin; refine wpList_append_src _ rfl (.tmp 18) (.tmp 23) 39 rfl w.heap.size 9 i0 (.string ⟨#[]⟩) 1 16 Try.underlying39 hi0 hz0 hz1 hz2 rfl (by decide) (.slice (some ⟨w.heap.size, 0, none⟩) 0 0) 0 [] rfl HH.out.2 y2 (n - 1) (C.map Value.string) rfl HH.out.1 ?c1 ?c2 ?c3 ?_)
  case c1 => have := HB.out.1; have := H.out.2.2; unfold maxLen; omega
  case c2 => have := HB.out.1; have := H.out.2.2; omega
  case c3 => simp
  · intro v' w2 hown' hgrow' _
    obtain ⟨ao', cap', rfl⟩ := shape_of hown'
    have hb2 : Below w.heap.size w w2 := ((Below.refl _ _).alloc (Nat.le_refl _) _).grown hgrow' (by simp) (by intro k hk; cases hk; exact Nat.le_refl _)
    have c2 : w2.cell? ⟨b, 1, none⟩ = some (.slice (some ⟨g, 0, none⟩) n cap) := (hb2.cell (p := ⟨b, 1, none⟩) hrl).trans c1
    have f2 : w2.frozen? ⟨b, 1, none⟩ = false := (hb2.frozen (p := ⟨b, 1, none⟩) hrl).trans f1
    have HO := Lib.hid (And.intro hown' hb2)
    clear hown' hgrow' hb2
    go_wp2
    go_ret2
    refine ⟨rfl, (RefCame.storeC H.out.1 HO.out.2 ?_ (by have := H.out.2; omega)).turn⟩
    rw [H.out.2.1]
    have := HO.out.1
    simpa using this

theorem refTake (w : World) (b room : Nat) (own : List Nat) (C : List ByteArray) (T : List (ByteArray × Nat)) (h : RefIs w b room own C T) :
    Calls Try.prog 15 #[.pointer (some ⟨b, 0, none⟩)] w fun e w' => e = .returned (.tuple #[.string (headS C), .bool (!C.isEmpty)]) ∧ RefTurn w w' b room own C.tail T := by
  cases C with
  | nil =>
    refine (refTake_nil w b room own T h).mono fun e w' ⟨he, hw⟩ => ⟨he, ?_⟩
    subst hw
    exact .below h (Below.refl _ _)
  | cons x C => exact refTake_cons w b room own x C T h

end Go.Proofs.Yteolokckflckaaa
