/-
  The document's cache (stillageref04): Get, in the words of the plain model.
-/
import Derived.Test.YtggpmnhbplmagaaRef3
namespace Go.Proofs.Ytggpmnhbplmagaa
open Go.RowKit Go.Conc

theorem keepX_alloc {u : World} {xb : Nat} {a b : Value} (h : u.cell? ⟨xb, 0, none⟩ = some a ∧ u.cell? ⟨xb, 1, none⟩ = some b) (o : Obj) : (u.alloc o).cell? ⟨xb, 0, none⟩ = some a ∧ (u.alloc o).cell? ⟨xb, 1, none⟩ = some b :=
  ⟨by rw [World.cell?_alloc_lt _ _ _ (World.block_lt_of_cell? _ _ h.1)]; exact h.1, by rw [World.cell?_alloc_lt _ _ _ (World.block_lt_of_cell? _ _ h.2)]; exact h.2⟩
theorem keepX_store {u : World} {xb rb : Nat} {a b : Value} (hne : rb ≠ xb) (h : u.cell? ⟨xb, 0, none⟩ = some a ∧ u.cell? ⟨xb, 1, none⟩ = some b) (i : Nat) (x : Value) : (u.setCell ⟨rb, i, none⟩ x).cell? ⟨xb, 0, none⟩ = some a ∧ (u.setCell ⟨rb, i, none⟩ x).cell? ⟨xb, 1, none⟩ = some b :=
  ⟨by rw [cell_set_ne _ _ (.inl hne)]; exact h.1, by rw [cell_set_ne _ _ (.inl hne)]; exact h.2⟩
theorem keepX_below {B : Nat} {u u' : World} {xb : Nat} {a b : Value} (h : u.cell? ⟨xb, 0, none⟩ = some a ∧ u.cell? ⟨xb, 1, none⟩ = some b) (hb : Below B u u') (hx : xb < B) : u'.cell? ⟨xb, 0, none⟩ = some a ∧ u'.cell? ⟨xb, 1, none⟩ = some b :=
  ⟨by rw [hb.cell (p := ⟨xb, 0, none⟩) hx]; exact h.1, by rw [hb.cell (p := ⟨xb, 1, none⟩) hx]; exact h.2⟩
/-- What stands behind the append, in either order. -/
theorem behindAppend {W u w2 : World} {base n : Nat} {row : Option Nat} {v2 : Value} {xs : List Value} {rb xb : Nat} {r a b : Value} (hb : Below W.heap.size W u) (hown : w2.ownsRow base 64 2 v2 n xs) (hbase : W.heap.size ≤ base) (hg : u.grownBy w2 row) (hr : ∀ k, row = some k → W.heap.size ≤ k) (hn : 0 < n)
    (hrb : rb < W.heap.size) (hxb : xb < W.heap.size) (r1 : W.cell? ⟨rb, 1, none⟩ = some r) (rf : W.frozen? ⟨rb, 1, none⟩ = false) (hx : W.cell? ⟨xb, 0, none⟩ = some a ∧ W.cell? ⟨xb, 1, none⟩ = some b) :
    (∃ g cap, v2 = .slice (some ⟨g, 0, none⟩) n cap) ∧ (Below W.heap.size W w2 ∧ w2.ownsRow W.heap.size 64 2 v2 n xs) ∧ w2.cell? ⟨rb, 1, none⟩ = some r ∧ w2.frozen? ⟨rb, 1, none⟩ = false ∧ w2.cell? ⟨xb, 0, none⟩ = some a ∧ w2.cell? ⟨xb, 1, none⟩ = some b := by
  have h2 : Below W.heap.size W w2 := hb.grown hg hb.size hr
  obtain ⟨g, cap, hv, _⟩ := owns_form hown hn
  exact ⟨⟨g, cap, hv⟩, ⟨h2, owns_mono hown hbase⟩, (h2.cell (p := ⟨rb, 1, none⟩) hrb).trans r1, (h2.frozen (p := ⟨rb, 1, none⟩) hrb).trans rf, (keepX_below hx h2 hxb)⟩

set_option maxHeartbeats 2000000 in
theorem refGet_yes (w : World) (rb room : Nat) (own : List Nat) (L1 L2 : List (Int × ByteArray)) (k : Int) (s : ByteArray) (h : RefIs w rb room own (L1 ++ (k, s) :: L2)) (hno : ∀ p ∈ L1, p.1 ≠ k) :
    Calls Try.prog 13 #[.pointer (some ⟨rb, 0, none⟩), .int .i64 k] w fun e w' => e = .returned (.tuple #[.string s, .bool true]) ∧ RefTurn w w' rb room own ((k, s) :: (L1 ++ L2)) := by
  obtain ⟨i0, hi0, hz0, hz1, hz2⟩ := info_parts info64
  obtain ⟨v, h, rfl⟩ := h
  obtain ⟨n, hn⟩ : ∃ n, n = L1.length := ⟨_, rfl⟩
  have ha : atI k (L1 ++ (k, s) :: L2) = (n : Int) := by
    rw [hn, atI, atFrom_split 0 hno, Nat.zero_add]
  have hat := refAt 0 w rb room v k _ h
  rw [ha] at hat
  obtain ⟨len, hlen⟩ : ∃ len, (L1 ++ (k, s) :: L2).length = len := ⟨_, rfl⟩
  have hnl : n < len := by rw [← hlen, hn]; simp
  have h' := h
  obtain ⟨hr, hown, hm⟩ := h'
  rw [hlen] at hown hm
  obtain ⟨g, cap, rfl, _, hgl⟩ := owns_form hown (by omega)
  have hrl := lt_of_block hr
  have c1 : w.cell? ⟨rb, 1, none⟩ = some (.slice (some ⟨g, 0, none⟩) len cap) := by rw [cell_of hr]; rfl
  have hge : (L1 ++ (k, s) :: L2)[n]'(by rw [hlen]; exact hnl) = (k, s) := by subst hn; simp
  have x0 : w.cell? ⟨g, n * 2, none⟩ = some (.int .i64 k) := by
    rw [hown.cellAt (n * 2) (by omega), (cellsOf_key _ n (by rw [hlen]; exact hnl)).1, hge]
  have x1 : w.cell? ⟨g, n * 2 + 1, none⟩ = some (.string s) := by
    rw [hown.cellAt (n * 2 + 1) (by omega), (cellsOf_key _ n (by rw [hlen]; exact hnl)).2, hge]
  have HA := Lib.hid hat
  have H := Lib.hid (And.intro h (And.intro hn hlen))
  have HO := Lib.hid (And.intro hr hown)
  clear hat h hr hown ha hno hge hn hlen
  go_enter Try.func13, Try.ntmps13
  go_wp2_with fail
  refine HA.out.mono ?_
  rintro e w0 ⟨rfl, rfl⟩
  go_wp2_with fail
  have hW0 : RefAt 0 (w0.alloc (.cells #[.int .i64 k, .string s] 64)) rb room (.slice (some ⟨g, 0, none⟩) len cap) (L1 ++ (k, s) :: L2) := by
    obtain ⟨hr, hown, hm⟩ := H.out.1
    have hb : Below w0.heap.size w0 (w0.alloc (.cells #[.int .i64 k, .string s] 64)) := (Below.refl _ _).alloc (Nat.le_refl _) _
    exact ⟨(hb.block rb (lt_of_block hr)).trans hr, owns_kept hown (Kept.of_below hb (fun _ => False)) (fun _ _ h => h), hm⟩
  have hX0 : (w0.alloc (.cells #[.int .i64 k, .string s] 64)).cell? ⟨w0.heap.size, 0, none⟩ = some (.int .i64 k) ∧ (w0.alloc (.cells #[.int .i64 k, .string s] 64)).cell? ⟨w0.heap.size, 1, none⟩ = some (.string s) :=
    ⟨by rw [cell_of (alloc_at w0 _)]; rfl, by rw [cell_of (alloc_at w0 _)]; rfl⟩
  obtain ⟨xb, hxb⟩ : ∃ xb, w0.heap.size = xb := ⟨_, rfl⟩
  have hbW : Below w0.heap.size w0 (w0.alloc (.cells #[.int .i64 k, .string s] 64)) := (Below.refl _ _).alloc (Nat.le_refl _) _
  have hxW : w0.heap.size < (w0.alloc (.cells #[.int .i64 k, .string s] 64)).heap.size := by simp
  rw [hxb] at hX0 hxW
  have hrx : rb ≠ xb := by omega
  rw [hxb]
  have HB := Lib.hid (And.intro hbW hxb)
  clear hbW hxb
  generalize w0.alloc (.cells #[.int .i64 k, .string s] 64) = W at *
  obtain ⟨L, hL⟩ : ∃ L, L1 ++ (k, s) :: L2 = L := ⟨_, rfl⟩
  have hrW : rb < W.heap.size := lt_of_block hW0.1
  have hnl' : n < L.length := by rw [← hL, H.out.2.2]; exact hnl
  rw [hL] at hW0
  have hA : RefAt 0 (W.alloc (.cells #[.int .i64 k, .string s] 64)).drew rb room (.slice (some ⟨g, 0, none⟩) len cap) L := by
    obtain ⟨hr, hown, hm⟩ := hW0
    have hb : Below W.heap.size W (W.alloc (.cells #[.int .i64 k, .string s] 64)).drew := ((Below.refl _ _).alloc (Nat.le_refl _) _).drew
    exact ⟨(hb.block rb (lt_of_block hr)).trans hr, owns_kept hown (Kept.of_below hb (fun _ => False)) (fun _ _ h => h), hm⟩
  have hXA : (W.alloc (.cells #[.int .i64 k, .string s] 64)).drew.cell? ⟨xb, 0, none⟩ = some (.int .i64 k) ∧ (W.alloc (.cells #[.int .i64 k, .string s] 64)).drew.cell? ⟨xb, 1, none⟩ = some (.string s) := keepX_alloc hX0 (.cells #[.int .i64 k, .string s] 64)
  have r1 : W.cell? ⟨rb, 1, none⟩ = some (.slice (some ⟨g, 0, none⟩) len cap) := by rw [cell_of hW0.1]; rfl
  have rf : W.frozen? ⟨rb, 1, none⟩ = false := free_of hW0.1 1
  have hdA : (W.alloc (.cells #[.int .i64 k, .string s] 64)).drew.ownsRow W.heap.size 64 2 (.slice (some ⟨W.heap.size, 0, none⟩) 1 1) 1 [.int .i64 k, .string s] :=
    ⟨rfl, .inr ⟨W.heap.size, 1, #[.int .i64 k, .string s], rfl, Nat.le_refl _, alloc_at W _, Nat.le_refl _, by unfold maxLen; omega, rfl, rfl⟩⟩
  obtain ⟨m, hml⟩ : ∃ m, (L.eraseIdx n).length = m := ⟨_, rfl⟩
  have hmb : 1 + m ≤ maxLen ∧ (1 + m) * 24 ≤ 140737488355328 := by
    have : m ≤ 100000 := by rw [← hml, List.length_eraseIdx_of_lt hnl']; have := hW0.2.2; omega
    unfold maxLen; omega
  have HL := Lib.hid (And.intro hL hml)
  have HM := Lib.hid hmb
  have HAA := Lib.hid (And.intro hA (And.intro hdA (And.intro hXA hW0)))
  clear hL hml hmb hA hdA hXA hW0
  go_region_held3 (fun u => u.cell? ⟨xb, 0, none⟩ = some (.int .i64 k) ∧ u.cell? ⟨xb, 1, none⟩ = some (.string s))
    (first | exact hX0 | assumption | exact keepX_alloc (by assumption) _ | exact keepX_store hrx (by assumption) _ _)
    (first
      | (go_at_call 28
         refine (without_at 0 (W.alloc (.cells #[.int .i64 k, .string s] 64)).drew rb room (.slice (some ⟨g, 0, none⟩) len cap) n L HAA.out.1 hnl').mono ?_
         rintro e w1 ⟨v1, rfl, hown1, hb1⟩
         have hd1 : w1.ownsRow W.heap.size 64 2 (.slice (some ⟨W.heap.size, 0, none⟩) 1 1) 1 [.int .i64 k, .string s] := owns_kept HAA.out.2.1 (Kept.of_below hb1 (fun _ => False)) (fun _ _ h => h)
         have kx1 := keepX_below HAA.out.2.2.1 hb1 (by simp; omega)
         rw [HL.out.2] at hown1
         obtain ⟨ao1, cap1, rfl⟩ := shape_of hown1
         have hbB : Below W.heap.size W w1 := ((Below.refl _ _).alloc (Nat.le_refl _) _).drew.trans (hb1.mono (by simp)))
      | (go_at_call 28
         refine (without_at 0 W.drew rb room (.slice (some ⟨g, 0, none⟩) len cap) n L HAA.out.2.2.2 hnl').mono ?_
         rintro e w1 ⟨v1, rfl, hown1, hb1⟩
         have kx1 := keepX_below (u := W.drew) hX0 hb1 hxW
         rw [HL.out.2] at hown1
         obtain ⟨ao1, cap1, rfl⟩ := shape_of hown1
         have hbB : Below W.heap.size W w1 := (Below.refl _ _).drew.trans (hb1.mono (Nat.le_refl _)))
      | (refine step_append_src _ rfl (.tmp 22) (.tmp 25) 32 rfl W.heap.size 64 i0 _ 2 24 Try.underlying32 hi0 hz0 hz1 hz2 rfl (by decide) (.slice (some ⟨W.heap.size, 0, none⟩) 1 1) 1 [.int .i64 k, .string s] rfl hd1 (.slice ao1 m cap1) m (cellsOf (L.eraseIdx n)) rfl (SrcIs.of_owns hown1 (cellsOf_one _)) HM.out.1 HM.out.2 hbB.size ?_
         intro v2 w2 hown2 hgrow2 hat2
         obtain ⟨⟨g2, cap2, rfl⟩, ho2, k1, k2, k3⟩ := behindAppend hbB hown2 (Nat.le_refl _) hgrow2 (by intro k hk; cases hk; exact Nat.le_refl _) (by omega) hrW hxW r1 rf hX0)
      | (refine step_append_src _ rfl (.tmp 22) (.tmp 25) 32 rfl w1.heap.size 64 i0 _ 2 24 Try.underlying32 hi0 hz0 hz1 hz2 rfl (by decide) (.slice (some ⟨w1.heap.size, 0, none⟩) 1 1) 1 [.int .i64 k, .string s] rfl ⟨rfl, .inr ⟨w1.heap.size, 1, #[.int .i64 k, .string s], rfl, Nat.le_refl _, alloc_at w1 _, Nat.le_refl _, by unfold maxLen; omega, rfl, rfl⟩⟩ (.slice ao1 m cap1) m (cellsOf (L.eraseIdx n)) rfl (SrcIs.of_owns (hown1.alloc _) (cellsOf_one _)) HM.out.1 HM.out.2 (by simp) ?_
         intro v2 w2 hown2 hgrow2 hat2
         obtain ⟨⟨g2, cap2, rfl⟩, ho2, k1, k2, k3⟩ := behindAppend (hbB.alloc hbB.size _) hown2 hbB.size hgrow2 (by intro k hk; cases hk; exact hbB.size) (by omega) hrW hxW r1 rf hX0)
      | fail)
  all_goals
    have HO2 := Lib.hid ho2
    clear ho2
    go_wp2
    go_ret2
    obtain ⟨h2, hown2⟩ := HO2.out
    refine ⟨rfl, .store H.out.1 (HB.out.1.trans (h2.mono HB.out.1.size)) (owns_mono ?_ HB.out.1.size) ?_ (List.mem_cons_self ..)⟩
    · have e1 : L1 ++ L2 = L.eraseIdx n := by rw [← HL.out.1, H.out.2.1, eraseIdx_split]
      rw [e1, List.length_cons, HL.out.2, show m + 1 = 1 + m from Nat.add_comm _ _, show cellsOf ((k, s) :: L.eraseIdx n) = [Value.int .i64 k, .string s] ++ cellsOf (L.eraseIdx n) from cellsOf_append [(k, s)] _]
      exact hown2
    · have := H.out.1.2.2
      simp only [List.length_append, List.length_cons] at this ⊢
      omega

set_option maxHeartbeats 400000 in
theorem refGet_no (w : World) (rb room : Nat) (own : List Nat) (L : List (Int × ByteArray)) (k : Int) (h : RefIs w rb room own L) (hno : ∀ p ∈ L, p.1 ≠ k) :
    Calls Try.prog 13 #[.pointer (some ⟨rb, 0, none⟩), .int .i64 k] w fun e w' => e = .returned (.tuple #[.string ⟨#[]⟩, .bool false]) ∧ w' = w := by
  obtain ⟨v, h, rfl⟩ := h
  have hat := refAt 0 w rb room v k _ h
  rw [atI, atFrom_none 0 hno] at hat
  have HA := Lib.hid hat
  clear hat hno h
  go_enter Try.func13, Try.ntmps13
  go_wp2_with fail
  refine HA.out.mono ?_
  rintro e w1 ⟨rfl, rfl⟩
  go_wp2
  go_ret2
  exact ⟨rfl, rfl⟩

theorem refGet (w : World) (rb room : Nat) (own : List Nat) (L : List (Int × ByteArray)) (k : Int) (h : RefIs w rb room own L) (hnd : (L.map (·.1)).Nodup) :
    Calls Try.prog 13 #[.pointer (some ⟨rb, 0, none⟩), .int .i64 k] w fun e w' => e = .returned (.tuple #[.string ((look k L).getD ⟨#[]⟩), .bool (look k L).isSome]) ∧ RefTurn w w' rb room own (used k L) := by
  unfold used
  cases hk : look k L with
  | none =>
    have hno := look_none hk
    refine (refGet_no w rb room own L k h hno).mono fun e w' ⟨he, hw⟩ => ?_
    subst hw
    exact ⟨he, .refl h⟩
  | some s =>
    obtain ⟨L1, L2, rfl, hno⟩ := look_some hk
    obtain ⟨n1, n2⟩ := nodup_split hnd
    dsimp only
    rw [without_split n1 n2]
    exact refGet_yes w rb room own L1 L2 k s h hno

end Go.Proofs.Ytggpmnhbplmagaa
