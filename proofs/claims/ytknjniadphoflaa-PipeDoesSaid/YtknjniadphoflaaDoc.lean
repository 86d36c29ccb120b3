/-
  The document's pipe (stillageref05): its calls.
-/
import Derived.Test.YtknjniadphoflaaApp
import Derived.Test.YtknjniadphoflaaMoves
namespace Go.Proofs.Ytknjniadphoflaa
open Go.RowKit Go.Conc

theorem infoInt : (Try.prog.info? 3).map (fun i => (i.zero, i.size, i.bytes)) = some (some (.int .i64 0), 1, 8) := by kernel_rfl
theorem owns_mono {w : World} {base base' : Nat} {e : TypeId} {size : Nat} {v : Value} {n : Nat} {xs : List Value} (h : w.ownsRow base e size v n xs) (hb : base' ≤ base) : w.ownsRow base' e size v n xs := by
  obtain ⟨h1, h2⟩ := h
  refine ⟨h1, ?_⟩
  rcases h2 with h2 | ⟨g, cap, cur, hv, hg, rest⟩
  · exact .inl h2
  · exact .inr ⟨g, cap, cur, hv, Nat.le_trans hb hg, rest⟩
theorem owns_kept {w w' : World} {base : Nat} {e : TypeId} {size : Nat} {v : Value} {n : Nat} {xs : List Value} {S : Nat → Prop} (h : w.ownsRow base e size v n xs) (k : Kept S w w') (hs : ∀ g, v.ownBlock = some g → ¬ S g) : w'.ownsRow base e size v n xs := by
  obtain ⟨h1, h2⟩ := h
  refine ⟨h1, ?_⟩
  rcases h2 with h2 | ⟨g, cap, cur, hv, hg, hc, rest⟩
  · exact .inl h2
  · exact .inr ⟨g, cap, cur, hv, hg, k.get hc (hs g (by subst hv; rfl)), rest⟩
theorem owns_form {w : World} {base : Nat} {e : TypeId} {size : Nat} {v : Value} {n : Nat} {xs : List Value} (h : w.ownsRow base e size v n xs) (hn : 0 < n) :
    ∃ g cap, v = .slice (some ⟨g, 0, none⟩) n cap ∧ base ≤ g ∧ g < w.heap.size := by
  rcases h.2 with ⟨_, h0⟩ | ⟨g, cap, cur, hv, hb, hg, _⟩
  · omega
  · exact ⟨g, cap, hv, hb, lt_of_block hg⟩
theorem shape_of {w : World} {base e size n : Nat} {v : Value} {xs : List Value} (h : w.ownsRow base e size v n xs) : ∃ ao cap, v = .slice ao n cap := by
  rcases h.2 with ⟨rfl, rfl⟩ | ⟨g, cap, cur, rfl, _⟩
  · exact ⟨_, _, rfl⟩
  · exact ⟨_, _, rfl⟩
theorem SrcIs.of_owns {w : World} {base : Nat} {e : TypeId} {size : Nat} {v : Value} {n : Nat} {xs : List Value} (h : w.ownsRow base e size v n xs) (h1 : ∀ u ∈ xs, u.oneCell' = true) : SrcIs w size v n xs := by
  rcases h.2 with ⟨rfl, rfl⟩ | ⟨g, cap, cur, rfl, _⟩
  · exact ⟨⟨none, 0, rfl, fun _ => ⟨rfl, rfl⟩, fun _ h => by cases h⟩, h.1, h1⟩
  · refine ⟨⟨_, cap, rfl, (fun h => by cases h), fun ad had j u hu => ?_⟩, h.1, h1⟩
    simp only [Option.some.injEq] at had
    subst had
    exact h.cells (g := g) rfl j u hu

/-- The document's pipe, its slice named. -/
def DocAt (w : World) (b room : Nat) (v : Value) (l : List Int) (cl : Bool) : Prop :=
  w.heap[b]? = some (.cells #[.int .i64 room, v, .bool cl] 38 (0, 0)) ∧ w.ownsRow 0 3 1 v l.length (l.map (Value.int .i64)) ∧ l.length ≤ room ∧ room ≤ 4096
def DocIs (w : World) (b room : Nat) (own : List Nat) (l : List Int) (cl : Bool) : Prop := ∃ v, DocAt w b room v l cl ∧ own = b :: v.ownBlock.toList
def DocTurn (w w' : World) (b room : Nat) (own : List Nat) (l : List Int) (cl : Bool) : Prop :=
  ∃ own', DocIs w' b room own' l cl ∧ (∀ k ∈ own', k ∈ own ∨ w.heap.size ≤ k) ∧ Kept (· = b) w w'

theorem DocIs.lt {w : World} {b room : Nat} {own : List Nat} {l : List Int} {cl : Bool} (h : DocIs w b room own l cl) : ∀ k ∈ own, k < w.heap.size := by
  obtain ⟨v, ⟨hr, hown, _⟩, rfl⟩ := h
  intro k hk
  rcases List.mem_cons.1 hk with rfl | hk
  · exact lt_of_block hr
  · exact (hown.lt k (Option.mem_toList.1 hk)).2
theorem DocIs.kept {w w' : World} {b room : Nat} {own : List Nat} {l : List Int} {cl : Bool} {S : Nat → Prop} (h : DocIs w b room own l cl) (k : Kept S w w') (hs : ∀ i ∈ own, ¬ S i) : DocIs w' b room own l cl := by
  obtain ⟨v, ⟨hr, hown, hm⟩, rfl⟩ := h
  exact ⟨v, ⟨k.get hr (hs b (List.mem_cons_self ..)), owns_kept hown k (fun g hg => hs g (List.mem_cons_of_mem _ (Option.mem_toList.2 hg))), hm⟩, rfl⟩
theorem DocTurn.same {w : World} {b room : Nat} {own : List Nat} {l : List Int} {cl : Bool} (h : DocIs w b room own l cl) (n : Nat) : DocTurn w (w.drewN n) b room own l cl :=
  ⟨own, h.kept ((Kept.refl (fun _ => False) w).drewN n) (fun _ _ h => h), fun _ h => .inl h, (Kept.refl _ w).drewN n⟩
theorem DocTurn.store {w w1 : World} {b room : Nat} {v v' : Value} {l l' : List Int} {cl : Bool} {own : List Nat} (h : DocAt w b room v l cl) (hb : Below w.heap.size w w1) (hown : w1.ownsRow w.heap.size 3 1 v' l'.length (l'.map (Value.int .i64))) (hl : l'.length ≤ room) (ho : b ∈ own) :
    DocTurn w (w1.setCell ⟨b, 1, none⟩ v') b room own l' cl := by
  have hlt := lt_of_block h.1
  have hr1 : w1.heap[b]? = some (.cells #[.int .i64 room, v, .bool cl] 38 (0, 0)) := (hb.block b hlt).trans h.1
  have hk : Kept (· = b) w1 (w1.setCell ⟨b, 1, none⟩ v') := (Kept.refl _ w1).setCell _ _ (fun _ => rfl)
  refine ⟨b :: v'.ownBlock.toList, ⟨v', ⟨by simpa using setCell_at hr1 1 v', owns_kept (owns_mono hown (Nat.zero_le _)) hk (fun g hg e => ?_), hl, h.2.2.2⟩, rfl⟩, fun k hk' => ?_, (Kept.of_below hb _).trans hk⟩
  · have := (hown.lt g hg).1
    omega
  · rcases List.mem_cons.1 hk' with rfl | hk'
    · exact .inl ho
    · exact .inr (hown.lt k (Option.mem_toList.1 hk')).1

theorem docClose (w : World) (b room : Nat) (own : List Nat) (l : List Int) (cl : Bool) (h : DocIs w b room own l cl) :
    Calls Try.prog 17 #[.pointer (some ⟨b, 0, none⟩)] w fun e w' => e = .returned (.bool (!cl)) ∧ DocTurn w w' b room own l true := by
  have H := Lib.hid h
  obtain ⟨v, ⟨hr, hown, hm⟩, _⟩ := h
  have c1 : w.cell? ⟨b, 2, none⟩ = some (.bool cl) := by rw [cell_of hr]; rfl
  have f1 : w.frozen? ⟨b, 2, none⟩ = false := free_of hr 2
  clear hr hown hm
  go_enter Try.func17, Try.ntmps17
  go_wp2
  go_ret
  obtain ⟨v, ⟨hr, hown, hm⟩, rfl⟩ := H.out
  refine ⟨rfl, _, ⟨v, ⟨by simpa using setCell_at hr 2 (.bool true), owns_kept hown ((Kept.refl (· = b) w).setCell _ _ (fun _ => rfl)) (fun g hg e => ?_), hm⟩, rfl⟩, fun _ h => .inl h, (Kept.refl _ w).setCell _ _ (fun _ => rfl)⟩
  subst e
  rcases hown.2 with ⟨rfl, _⟩ | ⟨g', cap, cur, rfl, _, hg', _⟩
  · cases hg
  · simp only [Value.ownBlock, Option.some.injEq] at hg
    subst hg
    rw [hr] at hg'
    simp at hg'

end Go.Proofs.Ytknjniadphoflaa
