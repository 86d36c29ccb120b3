/-
  What the law of the last keys gathers: the keys and the things that it wants, two slices that it makes.
-/
import Derived.Test.YtggpmnhbplmagaaSole
import Derived.Test.YtggpmnhbplmagaaBytes
namespace Go.Proofs.Ytggpmnhbplmagaa
open Go.RowKit Go.Conc

/-- The i-th key, and the thing that is put with it. -/
def thing (i : Nat) : ByteArray := byteStr [(i : Int) % 256, (i : Int) / 256]
def pr (xs : List Int) (i : Nat) : Int × ByteArray := (xs.getD i 0, thing i)

theorem owns_grown {w w' : World} {base : Nat} {e : TypeId} {size : Nat} {v : Value} {n : Nat} {xs : List Value} {row : Option Nat} (h : w.ownsRow base e size v n xs) (hg : w.grownBy w' row) (hne : ∀ g, v.ownBlock = some g → row ≠ some g) : w'.ownsRow base e size v n xs := by
  obtain ⟨h1, h2⟩ := h
  refine ⟨h1, ?_⟩
  rcases h2 with h2 | ⟨g, cap, cur, hv, hb, hgc, rest⟩
  · exact .inl h2
  · refine .inr ⟨g, cap, cur, hv, hb, ?_, rest⟩
    rw [hg.block g (lt_of_block hgc) (fun e => hne g (by subst hv; rfl) e.symm)]
    exact hgc

def Found (wk wr : World) (xs : List Int) (n room q : Nat) (P : List (Int × ByteArray)) (v t : Value) : Prop :=
  lastOf (pr xs) n = P ++ lastOf (pr xs) q ∧ (once P).length ≤ room ∧ wr.ownsRow wk.heap.size 3 1 v (once P).length ((once P).map fun p => .int .i64 p.1) ∧
    wr.ownsRow wk.heap.size 9 1 t (once P).length ((once P).map fun p => .string p.2) ∧ (∀ a b, v.ownBlock = some a → t.ownBlock = some b → a ≠ b) ∧ Below wk.heap.size wk wr

/-- Between the two appends. -/
def Mid (wk wr : World) (P : List (Int × ByteArray)) (x : Int) (v t : Value) : Prop :=
  wr.ownsRow wk.heap.size 3 1 v ((once P).length + 1) (((once P).map fun p => .int .i64 p.1) ++ [.int .i64 x]) ∧
    wr.ownsRow wk.heap.size 9 1 t (once P).length ((once P).map fun p => .string p.2) ∧ (∀ a b, v.ownBlock = some a → t.ownBlock = some b → a ≠ b) ∧ Below wk.heap.size wk wr

theorem Found.start (wk : World) (xs : List Int) (n room : Nat) : Found wk ((wk.alloc (.cells #[] 3)).alloc (.cells #[] 9)) xs n room n [] (.slice (some ⟨wk.heap.size, 0, none⟩) 0 0) (.slice (some ⟨wk.heap.size + 1, 0, none⟩) 0 0) := by
  refine ⟨rfl, Nat.zero_le _, ⟨rfl, .inr ⟨wk.heap.size, 0, #[], rfl, Nat.le_refl _, ?_, Nat.le_refl _, Nat.zero_le _, rfl, rfl⟩⟩, ⟨rfl, .inr ⟨wk.heap.size + 1, 0, #[], rfl, by omega, ?_, Nat.le_refl _, Nat.zero_le _, rfl, rfl⟩⟩, ?_, ?_⟩
  · rw [alloc_old _ _ (by simp)]; exact alloc_at wk _
  · have := alloc_at (wk.alloc (.cells #[] 3)) (.cells #[] 9); simpa using this
  · intro a b ha hb
    simp only [Value.ownBlock, Option.some.injEq] at ha hb
    omega
  · exact ((Below.refl _ _).alloc (Nat.le_refl _) _).alloc (by simp) _

theorem Found.skip {wk wr : World} {xs : List Int} {n room q : Nat} {P : List (Int × ByteArray)} {v t : Value} (h : Found wk wr xs n room (q + 1) P v t) (hl : (look (pr xs q).1 (once P)).isSome = true) : Found wk wr xs n room q (P ++ [pr xs q]) v t := by
  obtain ⟨h1, h2, h3, h4, h5, h6⟩ := h
  have e : once (P ++ [pr xs q]) = once P := by rw [once_snoc, if_pos hl]
  rw [Found, e]
  exact ⟨by rw [h1]; simp [lastOf], h2, h3, h4, h5, h6⟩

theorem Found.kept {wk wr w' : World} {xs : List Int} {n room q : Nat} {P : List (Int × ByteArray)} {v t : Value} (h : Found wk wr xs n room q P v t) (hb : Below wr.heap.size wr w') : Found wk w' xs n room q P v t := by
  obtain ⟨h1, h2, h3, h4, h5, h6⟩ := h
  exact ⟨h1, h2, owns_kept h3 (Kept.of_below hb (fun _ => False)) (fun _ _ h => h), owns_kept h4 (Kept.of_below hb (fun _ => False)) (fun _ _ h => h), h5, h6.trans (hb.mono h6.size)⟩
theorem Mid.kept {wk wr w' : World} {P : List (Int × ByteArray)} {x : Int} {v t : Value} (h : Mid wk wr P x v t) (hb : Below wr.heap.size wr w') : Mid wk w' P x v t := by
  obtain ⟨h3, h4, h5, h6⟩ := h
  exact ⟨owns_kept h3 (Kept.of_below hb (fun _ => False)) (fun _ _ h => h), owns_kept h4 (Kept.of_below hb (fun _ => False)) (fun _ _ h => h), h5, h6.trans (hb.mono h6.size)⟩

theorem Found.push {wk u w1 : World} {xs : List Int} {n room q : Nat} {P : List (Int × ByteArray)} {v t v' : Value} {x : Int} (h : Found wk u xs n room q P v t)
    (hown : w1.ownsRow wk.heap.size 3 1 v' ((once P).length + 1) (((once P).map fun p => .int .i64 p.1) ++ [.int .i64 x])) (hgrow : u.grownBy w1 v.ownBlock) (hat : v'.ownBlock = v.ownBlock ∨ v'.ownBlock = some u.heap.size) : Mid wk w1 P x v' t := by
  obtain ⟨h1, h2, h3, h4, h5, h6⟩ := h
  refine ⟨hown, owns_grown h4 hgrow (fun g hg e => h5 g g e hg rfl), fun a b ha hb => ?_, h6.grown hgrow h6.size (fun k hk => (h3.lt k hk).1)⟩
  rcases hat with hat | hat
  · exact h5 a b (hat ▸ ha) hb
  · rw [hat, Option.some.injEq] at ha
    have := (h4.lt b hb).2
    omega

theorem Mid.push {wk u w1 : World} {xs : List Int} {n room q : Nat} {P : List (Int × ByteArray)} {v t t' : Value} {s : ByteArray} (h0 : lastOf (pr xs) n = P ++ lastOf (pr xs) (q + 1)) (hroom : (once P).length < room) (hl : (look (pr xs q).1 (once P)).isSome = false) (hs : (pr xs q).2 = s) (h : Mid wk u P (pr xs q).1 v t)
    (hown : w1.ownsRow wk.heap.size 9 1 t' ((once P).length + 1) (((once P).map fun p => .string p.2) ++ [.string s])) (hgrow : u.grownBy w1 t.ownBlock) (hat : t'.ownBlock = t.ownBlock ∨ t'.ownBlock = some u.heap.size) : Found wk w1 xs n room q (P ++ [pr xs q]) v t' := by
  obtain ⟨h3, h4, h5, h6⟩ := h
  have e : once (P ++ [pr xs q]) = once P ++ [pr xs q] := by rw [once_snoc, if_neg (by simp [hl])]
  subst hs
  rw [Found, e, List.length_append, List.map_append, List.map_append]
  refine ⟨by rw [h0]; simp [lastOf], by simp only [List.length_singleton]; omega, owns_grown h3 hgrow (fun g hg e => h5 g g hg e rfl), hown, fun a b ha hb => ?_, h6.grown hgrow h6.size (fun k hk => (h4.lt k hk).1)⟩
  rcases hat with hat | hat
  · exact h5 a b ha (hat ▸ hb)
  · rw [hat, Option.some.injEq] at hb
    have := (h3.lt a ha).2
    omega

/-- At the end of the search what was found is what the cache has. -/
theorem Found.done {wk wr : World} {xs : List Int} {n room q : Nat} {P : List (Int × ByteArray)} {v t : Value} (h : Found wk wr xs n room q P v t) (hq : q = 0 ∨ (once P).length = room) : (once (lastOf (pr xs) n)).take room = once P := by
  obtain ⟨h1, h2, _⟩ := h
  rw [h1]
  rcases hq with rfl | hq
  · rw [show P ++ lastOf (pr xs) 0 = P by simp [lastOf], List.take_of_length_le h2]
  · exact once_enough hq

end Go.Proofs.Ytggpmnhbplmagaa
