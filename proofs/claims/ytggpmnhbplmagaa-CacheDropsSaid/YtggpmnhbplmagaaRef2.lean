/-
  The document's cache (stillageref04): Drop, Put, Get, Keys, in the words of the plain model.
-/
import Derived.Test.YtggpmnhbplmagaaRef
namespace Go.Proofs.Ytggpmnhbplmagaa
open Go.RowKit Go.Conc

theorem owns_mono {w : World} {base base' : Nat} {e : TypeId} {size : Nat} {v : Value} {n : Nat} {xs : List Value} (h : w.ownsRow base e size v n xs) (hb : base' ≤ base) : w.ownsRow base' e size v n xs := by
  obtain ⟨h1, h2⟩ := h
  refine ⟨h1, ?_⟩
  rcases h2 with h2 | ⟨g, cap, cur, hv, hg, rest⟩
  · exact .inl h2
  · exact .inr ⟨g, cap, cur, hv, Nat.le_trans hb hg, rest⟩

theorem owns_kept {w w' : World} {base : Nat} {e : TypeId} {size : Nat} {v : Value} {n : Nat} {xs : List Value} {S : Nat → Prop} (h : w.ownsRow base e size v n xs) (k : Kept S w w') (hs : ∀ g, v.ownBlock = some g → ¬ S g) : w'.ownsRow base e size v n xs := by
  obtain ⟨h1, h2⟩ := h
  refine ⟨h1, ?_⟩
  rcases h2 with h2 | ⟨g, cap, cur, rfl, hg, hb, rest⟩
  · exact .inl h2
  · exact .inr ⟨g, cap, cur, rfl, hg, k.get hb (hs g rfl), rest⟩

theorem owns_form {w : World} {base : Nat} {e : TypeId} {size : Nat} {v : Value} {n : Nat} {xs : List Value} (h : w.ownsRow base e size v n xs) (hn : 0 < n) :
    ∃ g cap, v = .slice (some ⟨g, 0, none⟩) n cap ∧ base ≤ g ∧ g < w.heap.size := by
  rcases h.2 with ⟨_, h0⟩ | ⟨g, cap, cur, hv, hb, hg, _⟩
  · omega
  · exact ⟨g, cap, hv, hb, lt_of_block hg⟩

theorem without_at (B : Nat) (w : World) (rb room : Nat) (v : Value) (i : Nat) (L : List (Int × ByteArray)) (h : RefAt B w rb room v L) (hi : i < L.length) :
    Calls Try.prog 28 #[.pointer (some ⟨rb, 0, none⟩), .int .i64 i] w fun e w' => ∃ v', e = .returned v' ∧ w'.ownsRow w.heap.size 64 2 v' (L.eraseIdx i).length (cellsOf (L.eraseIdx i)) ∧ Below w.heap.size w w' := by
  obtain ⟨hr, hown, hm⟩ := h
  rcases hown.2 with ⟨rfl, h0⟩ | ⟨g, cap, cur, rfl, _, hg, hnc, _, hcs, htake⟩
  · omega
  · exact without_walk w rb g cap _ room i L hr cur hg hnc hcs htake rfl hm hi

/-- The document's cache, its blocks. -/
def RefIs (w : World) (rb room : Nat) (own : List Nat) (L : List (Int × ByteArray)) : Prop :=
  ∃ v, RefAt 0 w rb room v L ∧ own = rb :: v.ownBlock.toList
/-- What a call on it may do: its own block, and new ones. -/
def RefTurn (w w' : World) (rb room : Nat) (own : List Nat) (L : List (Int × ByteArray)) : Prop :=
  ∃ own', RefIs w' rb room own' L ∧ (∀ b ∈ own', b ∈ own ∨ w.heap.size ≤ b) ∧ Kept (· = rb) w w'

theorem RefTurn.refl {w : World} {rb room : Nat} {own : List Nat} {L : List (Int × ByteArray)} (h : RefIs w rb room own L) : RefTurn w w rb room own L := ⟨own, h, fun _ h => .inl h, Kept.refl _ _⟩

theorem RefIs.lt {w : World} {rb room : Nat} {own : List Nat} {L : List (Int × ByteArray)} (h : RefIs w rb room own L) : ∀ b ∈ own, b < w.heap.size := by
  obtain ⟨v, ⟨hr, hown, _⟩, rfl⟩ := h
  intro b hb
  rcases List.mem_cons.1 hb with rfl | hb
  · exact lt_of_block hr
  · exact (hown.lt b (Option.mem_toList.1 hb)).2

theorem RefIs.kept {w w' : World} {rb room : Nat} {own : List Nat} {L : List (Int × ByteArray)} {S : Nat → Prop} (h : RefIs w rb room own L) (k : Kept S w w') (hs : ∀ b ∈ own, ¬ S b) : RefIs w' rb room own L := by
  obtain ⟨v, ⟨hr, hown, hm⟩, rfl⟩ := h
  exact ⟨v, ⟨k.get hr (hs rb (List.mem_cons_self ..)), owns_kept hown k (fun g hg => hs g (List.mem_cons_of_mem _ (Option.mem_toList.2 hg))), hm⟩, rfl⟩

/-- The store of a new row. -/
theorem RefTurn.store {w w1 : World} {rb room : Nat} {v v' : Value} {L L' : List (Int × ByteArray)} {own : List Nat} (h : RefAt 0 w rb room v L) (hb : Below w.heap.size w w1) (hown : w1.ownsRow w.heap.size 64 2 v' L'.length (cellsOf L')) (hl : L'.length ≤ 100000) (ho : rb ∈ own) :
    RefTurn w (w1.setCell ⟨rb, 1, none⟩ v') rb room own L' := by
  have hlt := lt_of_block h.1
  have hr1 : w1.heap[rb]? = some (.cells #[.int .i64 room, v] 34 (0, 0)) := (hb.block rb hlt).trans h.1
  have hk : Kept (· = rb) w1 (w1.setCell ⟨rb, 1, none⟩ v') := (Kept.refl _ w1).setCell _ _ (fun _ => rfl)
  refine ⟨rb :: v'.ownBlock.toList, ⟨v', ⟨by simpa using setCell_at hr1 1 v', owns_kept (owns_mono hown (Nat.zero_le _)) hk (fun g hg e => ?_), hl⟩, rfl⟩, fun b hb' => ?_, (Kept.of_below hb _).trans hk⟩
  · have := (hown.lt g hg).1
    omega
  · rcases List.mem_cons.1 hb' with rfl | hb'
    · exact .inl ho
    · exact .inr (hown.lt b (Option.mem_toList.1 hb')).1

theorem RefTurn.trans {w w1 w2 : World} {rb room : Nat} {own own1 : List Nat} {L : List (Int × ByteArray)} (hk : Kept (· = rb) w w1) (hsub : ∀ b ∈ own1, b ∈ own ∨ w.heap.size ≤ b) (h : RefTurn w1 w2 rb room own1 L) : RefTurn w w2 rb room own L := by
  obtain ⟨own', hc, hs, hk'⟩ := h
  refine ⟨own', hc, fun b hb => ?_, hk.trans hk'⟩
  rcases hs b hb with hb | hb
  · exact hsub b hb
  · exact .inr (Nat.le_trans hk.size hb)
theorem RefTurn.drewN {w w' : World} {rb room : Nat} {own : List Nat} {L : List (Int × ByteArray)} (h : RefTurn w w' rb room own L) (n : Nat) : RefTurn w (w'.drewN n) rb room own L := by
  obtain ⟨own', hc, hs, hk'⟩ := h
  exact ⟨own', hc.kept ((Kept.refl (fun _ => False) _).drewN n) (fun _ _ h => h), hs, hk'.drewN n⟩

theorem eraseIdx_split {α : Type} (L1 L2 : List α) (x : α) : (L1 ++ x :: L2).eraseIdx L1.length = L1 ++ L2 := by
  rw [List.eraseIdx_append_of_length_le (Nat.le_refl _)]
  simp

set_option maxHeartbeats 1000000 in
theorem refDrop_yes (w : World) (rb room : Nat) (own : List Nat) (L1 L2 : List (Int × ByteArray)) (k : Int) (s : ByteArray) (h : RefIs w rb room own (L1 ++ (k, s) :: L2)) (hno : ∀ p ∈ L1, p.1 ≠ k) :
    Calls Try.prog 17 #[.pointer (some ⟨rb, 0, none⟩), .int .i64 k] w fun e w' => e = .returned (.bool true) ∧ RefTurn w w' rb room own (L1 ++ L2) := by
  obtain ⟨v, h, rfl⟩ := h
  obtain ⟨n, hn⟩ : ∃ n, n = L1.length := ⟨_, rfl⟩
  have ha : atI k (L1 ++ (k, s) :: L2) = (n : Int) := by
    rw [hn, atI, atFrom_split 0 hno, Nat.zero_add]
  have hat := refAt 0 w rb room v k _ h
  rw [ha] at hat
  have hwo := without_at 0 w rb room v n _ h (by simp [hn])
  rw [hn, eraseIdx_split, ← hn] at hwo
  have H := Lib.hid h
  have HA := Lib.hid hat
  have HW := Lib.hid hwo
  have h1 : w.cell? ⟨rb, 1, none⟩ = some v := by rw [cell_of h.1]; rfl
  have f1 : w.frozen? ⟨rb, 1, none⟩ = false := free_of h.1 1
  have hlt := lt_of_block h.1
  clear h hat hwo ha hn
  go_enter Try.func17, Try.ntmps17
  go_wp2_with fail
  refine HA.out.mono ?_
  rintro e w0 ⟨rfl, rfl⟩
  go_wp2_with fail
  refine HW.out.mono ?_
  rintro e w1 ⟨v', rfl, hown, hb⟩
  obtain ⟨m, hm⟩ : ∃ m, (L1 ++ L2).length = m := ⟨_, rfl⟩
  rw [hm] at hown
  obtain ⟨ao, cap, rfl⟩ := shape_of hown
  have HM := Lib.hid hm
  clear hm
  have h1' : w1.cell? ⟨rb, 1, none⟩ = some v := by rw [hb.cell (p := ⟨rb, 1, none⟩) hlt]; exact h1
  have f1' : w1.frozen? ⟨rb, 1, none⟩ = false := by rw [hb.frozen (p := ⟨rb, 1, none⟩) hlt]; exact f1
  have HO := Lib.hid (And.intro hown hb)
  clear hown hb
  go_wp2
  go_ret
  obtain ⟨hown, hb⟩ := HO.out
  rw [← HM.out] at hown ⊢
  refine ⟨rfl, .store H.out hb hown ?_ (List.mem_cons_self ..)⟩
  have := H.out.2.2
  simp only [List.length_append, List.length_cons] at this ⊢
  omega

set_option maxHeartbeats 400000 in
theorem refDrop_no (w : World) (rb room : Nat) (own : List Nat) (L : List (Int × ByteArray)) (k : Int) (h : RefIs w rb room own L) (hno : ∀ p ∈ L, p.1 ≠ k) :
    Calls Try.prog 17 #[.pointer (some ⟨rb, 0, none⟩), .int .i64 k] w fun e w' => e = .returned (.bool false) ∧ w' = w := by
  obtain ⟨v, h, rfl⟩ := h
  have hat := refAt 0 w rb room v k _ h
  rw [atI, atFrom_none 0 hno] at hat
  have HA := Lib.hid hat
  clear hat hno h
  go_enter Try.func17, Try.ntmps17
  go_wp2_with fail
  refine HA.out.mono ?_
  rintro e w0 ⟨rfl, rfl⟩
  go_wp2_with fail
  go_ret
  exact ⟨rfl, rfl⟩

theorem refDrop (w : World) (rb room : Nat) (own : List Nat) (L : List (Int × ByteArray)) (k : Int) (h : RefIs w rb room own L) (hnd : (L.map (·.1)).Nodup) :
    Calls Try.prog 17 #[.pointer (some ⟨rb, 0, none⟩), .int .i64 k] w fun e w' => e = .returned (.bool (look k L).isSome) ∧ RefTurn w w' rb room own (without k L) := by
  cases hk : look k L with
  | none =>
    have hno := look_none hk
    rw [without_none hno]
    refine (refDrop_no w rb room own L k h hno).mono fun e w' ⟨he, hw⟩ => ?_
    subst hw
    exact ⟨he, .refl h⟩
  | some s =>
    obtain ⟨L1, L2, rfl, hno⟩ := look_some hk
    obtain ⟨n1, n2⟩ := nodup_split hnd
    rw [without_split n1 n2]
    exact refDrop_yes w rb room own L1 L2 k s h hno

end Go.Proofs.Ytggpmnhbplmagaa
