/-
  The link in memory; New, Waits, Cut, comes, Take.
-/
import Derived.Test.YteolokckflckaaaSlid
namespace Go.Proofs.Yteolokckflckaaa
open Go.RowKit Go.Conc

theorem below_drewN {B : Nat} {a w : World} (h : Below B a w) (n : Nat) : Below B a (w.drewN n) := ⟨h.os, h.tape, h.output, h.size, h.block⟩
theorem Kept.drewN {S : Nat → Prop} {a b : World} (h : Kept S a b) (n : Nat) : Kept S a (b.drewN n) := ⟨h.os, h.tape, h.output, h.size, h.block⟩
theorem owns_kept {w w' : World} {base : Nat} {e : TypeId} {size : Nat} {v : Value} {n : Nat} {xs : List Value} {S : Nat → Prop} (h : w.ownsRow base e size v n xs) (k : Kept S w w') (hs : ∀ g, v.ownBlock = some g → ¬ S g) : w'.ownsRow base e size v n xs := by
  obtain ⟨h1, h2⟩ := h
  refine ⟨h1, ?_⟩
  rcases h2 with h2 | ⟨g, cap, cur, hv, hg, hc, rest⟩
  · exact .inl h2
  · exact .inr ⟨g, cap, cur, hv, hg, k.get hc (hs g (by subst hv; rfl)), rest⟩
theorem owns_mono {w : World} {base base' : Nat} {e : TypeId} {size : Nat} {v : Value} {n : Nat} {xs : List Value} (h : w.ownsRow base e size v n xs) (hb : base' ≤ base) : w.ownsRow base' e size v n xs := by
  obtain ⟨h1, h2⟩ := h
  refine ⟨h1, ?_⟩
  rcases h2 with h2 | ⟨g, cap, cur, hv, hg, rest⟩
  · exact .inl h2
  · exact .inr ⟨g, cap, cur, hv, Nat.le_trans hb hg, rest⟩
theorem owns_block {w : World} {base : Nat} {e : TypeId} {size : Nat} {v : Value} {n : Nat} {xs : List Value} (h : w.ownsRow base e size v n xs) : ∀ k, v.ownBlock = some k → base ≤ k ∧ ∃ cur : Array Value, w.heap[k]? = some (.cells cur e (0, 0)) := by
  intro k hk
  rcases h.2 with ⟨rfl, _⟩ | ⟨g, cap, cur, rfl, hb, hg, _⟩
  · simp [Value.ownBlock] at hk
  · simp [Value.ownBlock] at hk
    subst hk
    exact ⟨hb, cur, hg⟩
theorem shape_of {w : World} {base e size n : Nat} {v : Value} {xs : List Value} (h : w.ownsRow base e size v n xs) : ∃ ao cap, v = .slice ao n cap := by
  rcases h.2 with ⟨rfl, rfl⟩ | ⟨g, cap, cur, rfl, _⟩
  · exact ⟨_, _, rfl⟩
  · exact ⟨_, _, rfl⟩

/-- The cells of the messages that are late. -/
def lateCells (T : List (ByteArray × Nat)) : List Value := T.flatMap fun p => [.string p.1, .int .i64 p.2]

/-- The link: its room, what came, what is late. -/
def LinkAt (w : World) (p room : Nat) (vc vl : Value) (C : List ByteArray) (T : List (ByteArray × Nat)) : Prop :=
  w.heap[p]? = some (.cells #[.int .i64 room, vc, vl] 52 (0, 0)) ∧ Slid w 0 9 1 vc C.length (C.map Value.string) ∧ w.ownsRow 0 56 2 vl T.length (lateCells T) ∧ C.length ≤ room ∧ room ≤ 4096 ∧ T.length ≤ 100000
def LinkIs (w : World) (p room : Nat) (own : List Nat) (C : List ByteArray) (T : List (ByteArray × Nat)) : Prop :=
  ∃ vc vl, LinkAt w p room vc vl C T ∧ own = p :: (vc.ownBlock.toList ++ vl.ownBlock.toList)
def LinkTurn (w w' : World) (p room : Nat) (own : List Nat) (C : List ByteArray) (T : List (ByteArray × Nat)) : Prop :=
  ∃ own', LinkIs w' p room own' C T ∧ (∀ k ∈ own', k ∈ own ∨ w.heap.size ≤ k) ∧ Kept (· ∈ own) w w'
/-- What waits behind one that comes. -/
def comesL (room : Nat) (C : List ByteArray) (s : ByteArray) : List ByteArray := if C.length < room then C ++ [s] else C

section
variable {w w' : World} {p room : Nat} {own : List Nat} {C : List ByteArray} {T : List (ByteArray × Nat)} {vc vl : Value}

theorem LinkAt.ne_c (h : LinkAt w p room vc vl C T) : ∀ g, vc.ownBlock = some g → g ≠ p := by
  rintro g hg rfl
  obtain ⟨_, cur, hc⟩ := h.2.1.lt g hg
  rw [h.1] at hc
  simp at hc
theorem LinkAt.ne_l (h : LinkAt w p room vc vl C T) : ∀ g, vl.ownBlock = some g → g ≠ p := by
  rintro g hg rfl
  obtain ⟨_, cur, hc⟩ := owns_block h.2.2.1 g hg
  rw [h.1] at hc
  simp at hc
theorem LinkAt.ne_cl (h : LinkAt w p room vc vl C T) : ∀ g k, vc.ownBlock = some g → vl.ownBlock = some k → g ≠ k := by
  rintro g k hg hk rfl
  obtain ⟨_, cur, hc⟩ := h.2.1.lt g hg
  obtain ⟨_, cur', hc'⟩ := owns_block h.2.2.1 g hk
  rw [hc] at hc'
  simp at hc'
theorem LinkIs.lt (h : LinkIs w p room own C T) : ∀ k ∈ own, k < w.heap.size := by
  obtain ⟨vc, vl, ⟨hr, hc, hl, _⟩, rfl⟩ := h
  intro k hk
  rcases List.mem_cons.1 hk with rfl | hk
  · exact lt_of_block hr
  · rcases List.mem_append.1 hk with hk | hk
    · obtain ⟨_, _, h⟩ := hc.lt k (Option.mem_toList.1 hk); exact lt_of_block h
    · obtain ⟨_, _, h⟩ := owns_block hl k (Option.mem_toList.1 hk); exact lt_of_block h
theorem LinkIs.kept {S : Nat → Prop} (h : LinkIs w p room own C T) (k : Kept S w w') (hs : ∀ i ∈ own, ¬ S i) : LinkIs w' p room own C T := by
  obtain ⟨vc, vl, ⟨hr, hc, hl, hm⟩, rfl⟩ := h
  exact ⟨vc, vl, ⟨k.get hr (hs p (List.mem_cons_self ..)), hc.kept k (fun g hg => hs g (List.mem_cons_of_mem _ (List.mem_append_left _ (Option.mem_toList.2 hg)))),
    owns_kept hl k (fun g hg => hs g (List.mem_cons_of_mem _ (List.mem_append_right _ (Option.mem_toList.2 hg)))), hm⟩, rfl⟩
theorem LinkIs.mem (h : LinkIs w p room own C T) : p ∈ own := by
  obtain ⟨_, _, _, rfl⟩ := h
  exact List.mem_cons_self ..
theorem LinkTurn.same (h : LinkIs w p room own C T) (n : Nat) : LinkTurn w (w.drewN n) p room own C T :=
  ⟨own, h.kept ((Kept.refl (fun _ => False) w).drewN n) (fun _ _ h => h), fun _ h => .inl h, (Kept.refl _ w).drewN n⟩
theorem LinkTurn.trans {w1 w2 : World} {C' : List ByteArray} {T' : List (ByteArray × Nat)} (h : LinkTurn w w1 p room own C T) (h' : ∀ own1, LinkIs w1 p room own1 C T → LinkTurn w1 w2 p room own1 C' T') : LinkTurn w w2 p room own C' T' := by
  obtain ⟨own1, h1, h2, h3⟩ := h
  obtain ⟨own2, k1, k2, k3⟩ := h' own1 h1
  refine ⟨own2, k1, fun k hk => ?_, h3.step k3 (fun k hk hm => ?_)⟩
  · rcases k2 k hk with hk | hk
    · exact h2 k hk
    · exact .inr (Nat.le_trans h3.size hk)
  · rcases h2 k hm with hm | hm
    · exact hm
    · omega
end

theorem waits (w : World) (p room : Nat) (own : List Nat) (C : List ByteArray) (T : List (ByteArray × Nat)) (h : LinkIs w p room own C T) :
    Calls Try.prog 11 #[.pointer (some ⟨p, 0, none⟩)] w fun e w' => e = .returned (.tuple #[.int .i64 C.length, .int .i64 T.length]) ∧ ∃ n, w' = w.drewN n := by
  obtain ⟨vc, vl, ⟨hr, hc, hl, _⟩, _⟩ := h
  obtain ⟨ao, cap, rfl, _⟩ := hc.shape
  obtain ⟨bo, cap', rfl⟩ := shape_of hl
  have c1 : w.cell? ⟨p, 1, none⟩ = some (.slice ao C.length cap) := by rw [cell_of hr]; rfl
  have c2 : w.cell? ⟨p, 2, none⟩ = some (.slice bo T.length cap') := by rw [cell_of hr]; rfl
  clear hr hc hl
  go_enter Try.func11, Try.ntmps11
  go_wp2
  go_quiet (fail)
  go_wp2
  go_ret2
  exact ⟨rfl, _, rfl⟩

theorem cut (w : World) (p room : Nat) (own : List Nat) (C : List ByteArray) (T : List (ByteArray × Nat)) (h : LinkIs w p room own C T) :
    Calls Try.prog 16 #[.pointer (some ⟨p, 0, none⟩)] w fun e w' => e = .returned (.tuple #[]) ∧ LinkTurn w w' p room own [] [] := by
  obtain ⟨vc, vl, ⟨hr, hc, hl, hm⟩, rfl⟩ := h
  have c1 : w.cell? ⟨p, 1, none⟩ = some vc := by rw [cell_of hr]; rfl
  have c2 : w.cell? ⟨p, 2, none⟩ = some vl := by rw [cell_of hr]; rfl
  have f1 : w.frozen? ⟨p, 1, none⟩ = false := free_of hr 1
  have f2 : w.frozen? ⟨p, 2, none⟩ = false := free_of hr 2
  have H := Lib.hid (And.intro hr hm)
  clear hr hc hl hm
  go_enter Try.func16, Try.ntmps16
  go_wp2
  go_end0
  refine ⟨rfl, [p], ⟨.slice none 0 0, .slice none 0 0, ⟨?_, Slid.nil _ _ _ _, World.ownsRow_nil _ _ _ _, Nat.zero_le _, H.out.2.2.1, Nat.zero_le _⟩, rfl⟩, fun k hk => .inl ?_, ((Kept.refl _ w).setCell _ _ (fun _ => ?_)).setCell _ _ (fun _ => ?_)⟩
  · simpa using setCell_at (setCell_at H.out.1 1 (.slice none 0 0)) 2 (.slice none 0 0)
  · rw [List.mem_singleton] at hk; subst hk; exact List.mem_cons_self ..
  · exact List.mem_cons_self ..
  · exact List.mem_cons_self ..

end Go.Proofs.Yteolokckflckaaa
