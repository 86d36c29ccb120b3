/-
  The link: Send.
-/
import Derived.Test.YteolokckflckaaaFate
namespace Go.Proofs.Yteolokckflckaaa
open Go.RowKit Go.Conc

/-- What waits behind Send. -/
def sendC (room : Nat) (C : List ByteArray) (s : ByteArray) (k n m : Int) : List ByteArray :=
  if k = 0 then comesL room C s else if k = 2 then comesL room (comesL room C s) s else if k = 4 then comesL room C (turnS s n m) else C
/-- What is late behind Send. -/
def sendT (T : List (ByteArray × Nat)) (s : ByteArray) (k n : Int) : List (ByteArray × Nat) := if k = 3 then T ++ [(s, n.toNat)] else T

theorem LinkTurn.below {w w' : World} {p room : Nat} {own : List Nat} {C : List ByteArray} {T : List (ByteArray × Nat)} (h : LinkIs w p room own C T) (hb : Below w.heap.size w w') : LinkTurn w w' p room own C T :=
  ⟨own, h.kept (Kept.of_below hb (fun _ => False)) (fun _ _ h => h), fun _ h => .inl h, Kept.of_below hb _⟩

/-- A fate that may not be. -/
theorem send_no (w : World) (p room : Nat) (own : List Nat) (C : List ByteArray) (T : List (ByteArray × Nat)) (s : ByteArray) (k n m : Int) (h : LinkIs w p room own C T) (hm : mayB k n = false) :
    Calls Try.prog 8 #[.pointer (some ⟨p, 0, none⟩), .string s, fate k n m] w fun e w' => e = .returned (.int .i64 180) ∧ LinkTurn w w' p room own C T := by
  have H := Lib.hid h
  have HM := Lib.hid hm
  clear h hm
  go_enter Try.func8, Try.ntmps8
  go_wp2_with fail
  refine (may k n m _).mono ?_
  rintro e w1 ⟨rfl, hb⟩
  rw [HM.out]
  have HB := Lib.hid (((Below.refl _ w).alloc (Nat.le_refl _) _).trans (hb.mono (by simp)))
  clear hb
  go_wp2
  go_ret
  exact ⟨rfl, .below H.out HB.out⟩

theorem fate_cells {w w1 : World} {k n m : Int} (hb : Below (w.alloc (.cells #[.int .i64 k, .int .i64 n, .int .u8 m] 30)).heap.size (w.alloc (.cells #[.int .i64 k, .int .i64 n, .int .u8 m] 30)) w1) :
    Below w.heap.size w w1 ∧ w1.heap[w.heap.size]? = some (.cells #[.int .i64 k, .int .i64 n, .int .u8 m] 30 (0, 0)) :=
  ⟨((Below.refl _ w).alloc (Nat.le_refl _) _).trans (hb.mono (by simp)), (hb.block _ (by simp)).trans (alloc_at w _)⟩

theorem LinkTurn.step {w w2 w3 : World} {p room : Nat} {own own2 : List Nat} {C : List ByteArray} {T : List (ByteArray × Nat)} (h2 : ∀ k ∈ own2, k ∈ own ∨ w.heap.size ≤ k) (k : Kept (· ∈ own) w w2) (ht : LinkTurn w2 w3 p room own2 C T) : LinkTurn w w3 p room own C T := by
  obtain ⟨own3, k1, k2, k3⟩ := ht
  refine ⟨own3, k1, fun q hq => ?_, k.step k3 (fun q hq hm => ?_)⟩
  · rcases k2 q hq with hq | hq
    · exact h2 q hq
    · exact .inr (Nat.le_trans k.size hq)
  · rcases h2 q hm with hm | hm
    · exact hm
    · omega
theorem LinkTurn.after {w w1 w2 : World} {p room : Nat} {own : List Nat} {C : List ByteArray} {T : List (ByteArray × Nat)} (hb : Below w.heap.size w w1) (ht : LinkTurn w1 w2 p room own C T) : LinkTurn w w2 p room own C T :=
  .step (fun _ h => .inl h) (Kept.of_below hb _) ht
theorem LinkIs.below {w w' : World} {p room : Nat} {own : List Nat} {C : List ByteArray} {T : List (ByteArray × Nat)} (h : LinkIs w p room own C T) (hb : Below w.heap.size w w') : LinkIs w' p room own C T :=
  h.kept (Kept.of_below hb (fun _ => False)) (fun _ _ h => h)

set_option maxHeartbeats 1000000 in
theorem send_go (w : World) (p room : Nat) (own : List Nat) (C : List ByteArray) (T : List (ByteArray × Nat)) (s : ByteArray) (n m : Int) (h : LinkIs w p room own C T) :
    Calls Try.prog 8 #[.pointer (some ⟨p, 0, none⟩), .string s, fate 0 n m] w fun e w' => e = .returned (.int .i64 0) ∧ LinkTurn w w' p room own (comesL room C s) T := by
  have hmf : ∀ (fn : Fn) (first cap : Array Value) (w : World), (Instr.makeFunc fn first cap).run Try.prog w = .ok (.func fn first cap) w := fun _ _ _ _ => rfl
  have H := Lib.hid h
  clear h
  have HM : Hid (mayB 0 n = true) := Lib.hid (rfl)
  go_enter Try.func8, Try.ntmps8
  go_wp2_with fail
  refine (may 0 n m _).mono ?_
  rintro e w1 ⟨rfl, hb⟩
  rw [HM.out]
  have hf := fate_cells hb
  have y0 : w1.cell? ⟨w.heap.size, 0, none⟩ = some (.int .i64 0) := by rw [cell_of hf.2]; rfl
  have y1 : w1.cell? ⟨w.heap.size, 1, none⟩ = some (.int .i64 n) := by rw [cell_of hf.2]; rfl
  have y2 : w1.cell? ⟨w.heap.size, 2, none⟩ = some (.int .u8 m) := by rw [cell_of hf.2]; rfl
  have HL := Lib.hid (And.intro (H.out.below hf.1) hf.1)
  clear hb hf
  go_wp2_with fail
  refine (comes w1 p room own C T s HL.out.1).mono ?_
  rintro e w2 ⟨rfl, ht⟩
  have HT := Lib.hid (LinkTurn.after HL.out.2 ht)
  clear ht
  go_wp2
  go_ret
  exact ⟨rfl, HT.out⟩

set_option maxHeartbeats 1000000 in
theorem send_drop (w : World) (p room : Nat) (own : List Nat) (C : List ByteArray) (T : List (ByteArray × Nat)) (s : ByteArray) (n m : Int) (h : LinkIs w p room own C T) :
    Calls Try.prog 8 #[.pointer (some ⟨p, 0, none⟩), .string s, fate 1 n m] w fun e w' => e = .returned (.int .i64 0) ∧ LinkTurn w w' p room own C T := by
  have hmf : ∀ (fn : Fn) (first cap : Array Value) (w : World), (Instr.makeFunc fn first cap).run Try.prog w = .ok (.func fn first cap) w := fun _ _ _ _ => rfl
  have H := Lib.hid h
  clear h
  have HM : Hid (mayB 1 n = true) := Lib.hid (rfl)
  go_enter Try.func8, Try.ntmps8
  go_wp2_with fail
  refine (may 1 n m _).mono ?_
  rintro e w1 ⟨rfl, hb⟩
  rw [HM.out]
  have hf := fate_cells hb
  have y0 : w1.cell? ⟨w.heap.size, 0, none⟩ = some (.int .i64 1) := by rw [cell_of hf.2]; rfl
  have y1 : w1.cell? ⟨w.heap.size, 1, none⟩ = some (.int .i64 n) := by rw [cell_of hf.2]; rfl
  have y2 : w1.cell? ⟨w.heap.size, 2, none⟩ = some (.int .u8 m) := by rw [cell_of hf.2]; rfl
  have HL := Lib.hid (And.intro (H.out.below hf.1) hf.1)
  clear hb hf
  go_wp2
  go_ret
  exact ⟨rfl, .below H.out HL.out.2⟩

set_option maxHeartbeats 1000000 in
theorem send_twice (w : World) (p room : Nat) (own : List Nat) (C : List ByteArray) (T : List (ByteArray × Nat)) (s : ByteArray) (n m : Int) (h : LinkIs w p room own C T) :
    Calls Try.prog 8 #[.pointer (some ⟨p, 0, none⟩), .string s, fate 2 n m] w fun e w' => e = .returned (.int .i64 0) ∧ LinkTurn w w' p room own (comesL room (comesL room C s) s) T := by
  have hmf : ∀ (fn : Fn) (first cap : Array Value) (w : World), (Instr.makeFunc fn first cap).run Try.prog w = .ok (.func fn first cap) w := fun _ _ _ _ => rfl
  have H := Lib.hid h
  clear h
  have HM : Hid (mayB 2 n = true) := Lib.hid (rfl)
  go_enter Try.func8, Try.ntmps8
  go_wp2_with fail
  refine (may 2 n m _).mono ?_
  rintro e w1 ⟨rfl, hb⟩
  rw [HM.out]
  have hf := fate_cells hb
  have y0 : w1.cell? ⟨w.heap.size, 0, none⟩ = some (.int .i64 2) := by rw [cell_of hf.2]; rfl
  have y1 : w1.cell? ⟨w.heap.size, 1, none⟩ = some (.int .i64 n) := by rw [cell_of hf.2]; rfl
  have y2 : w1.cell? ⟨w.heap.size, 2, none⟩ = some (.int .u8 m) := by rw [cell_of hf.2]; rfl
  have HL := Lib.hid (And.intro (H.out.below hf.1) hf.1)
  clear hb hf
  go_wp2_with fail
  refine (comes w1 p room own C T s HL.out.1).mono ?_
  rintro e w2 ⟨rfl, ht⟩
  obtain ⟨own2, k1, k2, k3⟩ := ht
  have HT := Lib.hid (And.intro k1 (And.intro k2 k3))
  clear k1 k2 k3
  go_wp2_with fail
  refine (comes w2 p room own2 (comesL room C s) T s HT.out.1).mono ?_
  rintro e w3 ⟨rfl, ht⟩
  have HT2 := Lib.hid (LinkTurn.after HL.out.2 (LinkTurn.step HT.out.2.1 HT.out.2.2 ht))
  clear ht
  go_wp2
  go_ret
  exact ⟨rfl, HT2.out⟩

set_option maxHeartbeats 1000000 in
theorem send_turn (w : World) (p room : Nat) (own : List Nat) (C : List ByteArray) (T : List (ByteArray × Nat)) (s : ByteArray) (n m : Int) (h : LinkIs w p room own C T) (hn : 0 ≤ n) :
    Calls Try.prog 8 #[.pointer (some ⟨p, 0, none⟩), .string s, fate 4 n m] w fun e w' => e = .returned (.int .i64 0) ∧ LinkTurn w w' p room own (comesL room C (turnS s n m)) T := by
  have hmf : ∀ (fn : Fn) (first cap : Array Value) (w : World), (Instr.makeFunc fn first cap).run Try.prog w = .ok (.func fn first cap) w := fun _ _ _ _ => rfl
  have H := Lib.hid h
  clear h
  have HM : Hid (mayB 4 n = true) := Lib.hid (by simpa [mayB] using hn)
  go_enter Try.func8, Try.ntmps8
  go_wp2_with fail
  refine (may 4 n m _).mono ?_
  rintro e w1 ⟨rfl, hb⟩
  rw [HM.out]
  have hf := fate_cells hb
  have y0 : w1.cell? ⟨w.heap.size, 0, none⟩ = some (.int .i64 4) := by rw [cell_of hf.2]; rfl
  have y1 : w1.cell? ⟨w.heap.size, 1, none⟩ = some (.int .i64 n) := by rw [cell_of hf.2]; rfl
  have y2 : w1.cell? ⟨w.heap.size, 2, none⟩ = some (.int .u8 m) := by rw [cell_of hf.2]; rfl
  have HL := Lib.hid (And.intro (H.out.below hf.1) hf.1)
  clear hb hf
  go_wp2_with fail
  refine (turned s 4 n m w1 hn).mono ?_
  rintro e w2 ⟨rfl, hb⟩
  have HL2 := Lib.hid (And.intro (HL.out.1.below hb) (HL.out.2.trans (hb.mono HL.out.2.size)))
  clear hb
  go_wp2_with fail
  refine (comes w2 p room own C T (turnS s n m) HL2.out.1).mono ?_
  rintro e w3 ⟨rfl, ht⟩
  have HT := Lib.hid (LinkTurn.after HL2.out.2 ht)
  clear ht
  go_wp2
  go_ret
  exact ⟨rfl, HT.out⟩

/-- What cell 2 of a block holds. -/
def cell2 (p : Nat) (u : World) : Value := (u.cell? ⟨p, 2, none⟩).getD undef
/-- The link's block and the fate's lie there. -/
def Lies (p fb : Nat) (k n m : Int) (u : World) : Prop := (∃ c : Array Value, u.heap[p]? = some (.cells c 52 (0, 0)) ∧ c.size = 3) ∧ u.heap[fb]? = some (.cells #[.int .i64 k, .int .i64 n, .int .u8 m] 30 (0, 0))

theorem Lies.ne {p fb : Nat} {k n m : Int} {u : World} (h : Lies p fb k n m u) : p ≠ fb := by
  obtain ⟨⟨c, h1, _⟩, h2⟩ := h
  rintro rfl
  rw [h1] at h2
  simp at h2
theorem Lies.cells {p fb : Nat} {k n m : Int} {u : World} (h : Lies p fb k n m u) :
    u.cell? ⟨p, 2, none⟩ = some (cell2 p u) ∧ u.frozen? ⟨p, 2, none⟩ = false ∧ u.cell? ⟨fb, 1, none⟩ = some (.int .i64 n) ∧ Lies p fb k n m u := by
  have h' := h
  obtain ⟨⟨c, h1, hs⟩, h2⟩ := h
  refine ⟨?_, free_of h1 2, by rw [cell_of h2]; rfl, h'⟩
  unfold cell2
  rw [cell_of h1, Array.getElem?_eq_getElem (by omega)]
  rfl
theorem Lies.alloc {p fb : Nat} {k n m : Int} {u : World} (h : u.cell? ⟨p, 2, none⟩ = some (cell2 p u) ∧ u.frozen? ⟨p, 2, none⟩ = false ∧ u.cell? ⟨fb, 1, none⟩ = some (.int .i64 n) ∧ Lies p fb k n m u) (o : Obj) :
    (u.alloc o).cell? ⟨p, 2, none⟩ = some (cell2 p (u.alloc o)) ∧ (u.alloc o).frozen? ⟨p, 2, none⟩ = false ∧ (u.alloc o).cell? ⟨fb, 1, none⟩ = some (.int .i64 n) ∧ Lies p fb k n m (u.alloc o) := by
  obtain ⟨_, _, _, ⟨c, h1, hs⟩, h2⟩ := h
  exact Lies.cells ⟨⟨c, (alloc_old u o (lt_of_block h1)).trans h1, hs⟩, (alloc_old u o (lt_of_block h2)).trans h2⟩
theorem Lies.store {p fb : Nat} {k n m : Int} {u : World} (h : u.cell? ⟨p, 2, none⟩ = some (cell2 p u) ∧ u.frozen? ⟨p, 2, none⟩ = false ∧ u.cell? ⟨fb, 1, none⟩ = some (.int .i64 n) ∧ Lies p fb k n m u) (v : Value) :
    (u.setCell ⟨p, 2, none⟩ v).cell? ⟨p, 2, none⟩ = some (cell2 p (u.setCell ⟨p, 2, none⟩ v)) ∧ (u.setCell ⟨p, 2, none⟩ v).frozen? ⟨p, 2, none⟩ = false ∧ (u.setCell ⟨p, 2, none⟩ v).cell? ⟨fb, 1, none⟩ = some (.int .i64 n) ∧ Lies p fb k n m (u.setCell ⟨p, 2, none⟩ v) := by
  have hne := h.2.2.2.ne
  obtain ⟨_, _, _, ⟨c, h1, hs⟩, h2⟩ := h
  exact Lies.cells ⟨⟨_, setCell_at h1 2 v, by simpa using hs⟩, by rw [setCell_ne _ _ _ (Ne.symm hne)]; exact h2⟩
theorem Lies.grown {p fb : Nat} {k n m : Int} {u u' : World} {row : Option Nat} (h : u.cell? ⟨p, 2, none⟩ = some (cell2 p u) ∧ u.frozen? ⟨p, 2, none⟩ = false ∧ u.cell? ⟨fb, 1, none⟩ = some (.int .i64 n) ∧ Lies p fb k n m u) (hg : u.grownBy u' row)
    (hr : ∀ q, row = some q → ∃ cur : Array Value, u.heap[q]? = some (.cells cur 56 (0, 0))) :
    u'.cell? ⟨p, 2, none⟩ = some (cell2 p u') ∧ u'.frozen? ⟨p, 2, none⟩ = false ∧ u'.cell? ⟨fb, 1, none⟩ = some (.int .i64 n) ∧ Lies p fb k n m u' := by
  obtain ⟨_, _, _, ⟨c, h1, hs⟩, h2⟩ := h
  refine Lies.cells ⟨⟨c, (hg.block p (lt_of_block h1) (fun e => ?_)).trans h1, hs⟩, (hg.block fb (lt_of_block h2) (fun e => ?_)).trans h2⟩
  · obtain ⟨cur, hc⟩ := hr p e.symm
    rw [h1] at hc
    simp at hc
  · obtain ⟨cur, hc⟩ := hr fb e.symm
    rw [h2] at hc
    simp at hc

theorem src_two (w : World) (e : TypeId) (a b : Value) (ha : a.oneCell' = true) (hb : b.oneCell' = true) : SrcIs (w.alloc (.cells #[a, b] e)) 2 (.slice (some ⟨w.heap.size, 0, none⟩) 1 1) 1 [a, b] := by
  refine ⟨⟨_, _, rfl, (fun h => by cases h), fun ad had j u hu => ?_⟩, rfl, fun u hu => ?_⟩
  · simp only [Option.some.injEq] at had
    subst had
    rw [Addr.add_lit, cell_of (alloc_at w _)]
    simpa using hu
  · simp only [List.mem_cons, List.not_mem_nil, or_false] at hu
    rcases hu with rfl | rfl <;> assumption

/-- What is late is stored anew. -/
theorem LinkTurn.storeL {w w2 : World} {p room : Nat} {vc vl v' : Value} {C : List ByteArray} {T T' : List (ByteArray × Nat)} (h : LinkAt w p room vc vl C T) (k : Kept (fun g => vl.ownBlock = some g) w w2)
    (hs : w2.ownsRow 0 56 2 v' T'.length (lateCells T')) (hat : ∀ g, v'.ownBlock = some g → vl.ownBlock = some g ∨ w.heap.size ≤ g) (hl : T'.length ≤ 100000) :
    LinkTurn w (w2.setCell ⟨p, 2, none⟩ v') p room (p :: (vc.ownBlock.toList ++ vl.ownBlock.toList)) C T' := by
  have hr2 := k.get h.1 (fun e => h.ne_l p e rfl)
  have k3 : Kept (· = p) w2 (w2.setCell ⟨p, 2, none⟩ v') := (Kept.refl _ w2).setCell _ _ (fun _ => rfl)
  have hc2 : Slid w2 0 9 1 vc C.length (C.map Value.string) := h.2.1.kept k (fun g hg e => h.ne_cl g g hg e rfl)
  refine ⟨p :: (vc.ownBlock.toList ++ v'.ownBlock.toList), ⟨vc, v', ⟨by simpa using setCell_at hr2 2 v', hc2.kept k3 (fun g hg e => h.ne_c g hg e), owns_kept hs k3 (fun g hg e => ?_), h.2.2.2.1, h.2.2.2.2.1, hl⟩, rfl⟩, fun q hq => ?_, ?_⟩
  · obtain ⟨_, cur, hc⟩ := owns_block hs g hg
    rw [e, hr2] at hc
    simp at hc
  · rcases List.mem_cons.1 hq with rfl | hq
    · exact .inl (List.mem_cons_self ..)
    · rcases List.mem_append.1 hq with hq | hq
      · exact .inl (List.mem_cons_of_mem _ (List.mem_append_left _ hq))
      · rcases hat q (Option.mem_toList.1 hq) with e | e
        · exact .inl (List.mem_cons_of_mem _ (List.mem_append_right _ (Option.mem_toList.2 e)))
        · exact .inr e
  · refine (k.mono fun g _ e => List.mem_cons_of_mem _ (List.mem_append_right _ (Option.mem_toList.2 e))).trans (k3.mono fun g _ e => ?_)
    rw [e]; exact List.mem_cons_self ..

end Go.Proofs.Yteolokckflckaaa
