/-
  A ring of linked entries in memory, told as a list: what taking one out, or putting one in at the front, does to it. No program is named here.
-/
import Derived.Test.YtggpmnhbplmagaaBase
namespace Go.Proofs.Ytggpmnhbplmagaa
open Go.RowKit Go.Conc

abbrev ptr (b : Nat) : Value := .pointer (some ⟨b, 0, none⟩)

/-- a is linked to b, and back. -/
def Lk (w : World) (a b : Nat) : Prop := w.cell? ⟨a, 3, none⟩ = some (ptr b) ∧ w.cell? ⟨b, 2, none⟩ = some (ptr a)

def Chain (w : World) : List Nat → Prop
  | [] => True
  | [_] => True
  | a :: b :: l => Lk w a b ∧ Chain w (b :: l)

theorem Chain.tail {w : World} {a : Nat} {l : List Nat} (h : Chain w (a :: l)) : Chain w l := by
  cases l with
  | nil => trivial
  | cons b l => exact h.2

theorem chain_split {w : World} {x : Nat} {Q : List Nat} : ∀ {P : List Nat}, Chain w (P ++ x :: Q) ↔ Chain w (P ++ [x]) ∧ Chain w (x :: Q)
  | [] => by simp [Chain]
  | [a] => by simp [Chain]
  | a :: b :: P => by
    have ih := chain_split (w := w) (x := x) (Q := Q) (P := b :: P)
    simp only [List.cons_append] at ih ⊢
    simp only [Chain, ih, and_assoc]

theorem chain_frame {w w' : World} : ∀ {l : List Nat}, (∀ a ∈ l.dropLast, w'.cell? ⟨a, 3, none⟩ = w.cell? ⟨a, 3, none⟩) → (∀ b ∈ l.tail, w'.cell? ⟨b, 2, none⟩ = w.cell? ⟨b, 2, none⟩) → Chain w l → Chain w' l
  | [], _, _, _ => trivial
  | [_], _, _, _ => trivial
  | a :: b :: l, h1, h2, h => by
    refine ⟨⟨?_, ?_⟩, chain_frame (l := b :: l) (fun c hc => h1 c ?_) (fun c hc => h2 c ?_) h.2⟩
    · rw [h1 a (by simp [List.dropLast])]; exact h.1.1
    · rw [h2 b (by simp)]; exact h.1.2
    · simp only [List.dropLast] at hc ⊢; exact List.mem_cons_of_mem _ hc
    · simp only [List.tail_cons] at hc ⊢; exact List.mem_cons_of_mem _ hc

theorem cell_set_ne (w : World) {a b i j : Nat} (v : Value) (h : a ≠ b ∨ i ≠ j) : (w.setCell ⟨a, i, none⟩ v).cell? ⟨b, j, none⟩ = w.cell? ⟨b, j, none⟩ :=
  World.cell?_setCell_other _ _ _ _ (by intro e; simp only [Addr.mk.injEq, and_true] at e; omega)

/-- The block of an entry: key, thing, two links. -/
def Nd (T : TypeId) (w : World) (a : Nat) (k v : Value) : Prop := ∃ p n, w.heap[a]? = some (.cells #[k, v, p, n] T (0, 0))

theorem Nd.cell0 {T : TypeId} {w : World} {a : Nat} {k v : Value} (h : Nd T w a k v) : w.cell? ⟨a, 0, none⟩ = some k := by obtain ⟨p, n, h⟩ := h; rw [cell_of h]; rfl
theorem Nd.cell1 {T : TypeId} {w : World} {a : Nat} {k v : Value} (h : Nd T w a k v) : w.cell? ⟨a, 1, none⟩ = some v := by obtain ⟨p, n, h⟩ := h; rw [cell_of h]; rfl
theorem Nd.cell2 {T : TypeId} {w : World} {a : Nat} {k v : Value} (h : Nd T w a k v) : ∃ p, w.cell? ⟨a, 2, none⟩ = some p := by obtain ⟨p, n, h⟩ := h; exact ⟨p, by rw [cell_of h]; rfl⟩
theorem Nd.cell3 {T : TypeId} {w : World} {a : Nat} {k v : Value} (h : Nd T w a k v) : ∃ p, w.cell? ⟨a, 3, none⟩ = some p := by obtain ⟨p, n, h⟩ := h; exact ⟨n, by rw [cell_of h]; rfl⟩
theorem Nd.free {T : TypeId} {w : World} {a : Nat} {k v : Value} (h : Nd T w a k v) (i : Nat) : w.frozen? ⟨a, i, none⟩ = false := by obtain ⟨p, n, h⟩ := h; exact free_of h i
theorem Nd.lt {T : TypeId} {w : World} {a : Nat} {k v : Value} (h : Nd T w a k v) : a < w.heap.size := by obtain ⟨p, n, h⟩ := h; exact lt_of_block h
theorem Nd.kept {T : TypeId} {w w' : World} {a : Nat} {k v : Value} {S : Nat → Prop} (h : Nd T w a k v) (hk : Kept S w w') (hs : ¬ S a) : Nd T w' a k v := by
  obtain ⟨p, n, h⟩ := h
  exact ⟨p, n, hk.get h hs⟩
theorem Nd.set2 {T : TypeId} {w : World} {a : Nat} {k v : Value} (h : Nd T w a k v) (b : Nat) (u : Value) : Nd T (w.setCell ⟨b, 2, none⟩ u) a k v := by
  obtain ⟨p, n, h⟩ := h
  by_cases e : a = b
  · subst e; exact ⟨u, n, by simpa using setCell_at h 2 u⟩
  · exact ⟨p, n, by rw [setCell_ne _ _ _ e]; exact h⟩
theorem Nd.set3 {T : TypeId} {w : World} {a : Nat} {k v : Value} (h : Nd T w a k v) (b : Nat) (u : Value) : Nd T (w.setCell ⟨b, 3, none⟩ u) a k v := by
  obtain ⟨p, n, h⟩ := h
  by_cases e : a = b
  · subst e; exact ⟨p, u, by simpa using setCell_at h 3 u⟩
  · exact ⟨p, n, by rw [setCell_ne _ _ _ e]; exact h⟩
theorem Nd.set1 {T : TypeId} {w : World} {a : Nat} {k v : Value} (h : Nd T w a k v) (u : Value) : Nd T (w.setCell ⟨a, 1, none⟩ u) a k u := by
  obtain ⟨p, n, h⟩ := h
  exact ⟨p, n, by simpa using setCell_at h 1 u⟩

structure Ent (K V : Type) where
  key : K
  val : V
  blk : Nat

section
variable {K V : Type}

/-- The ring of a cache: its root, its entries in order. -/
structure RingAt (T : TypeId) (mkK : K → Value) (mkV : V → Value) (zK zV : Value) (w : World) (r : Nat) (l : List (Ent K V)) : Prop where
  root : Nd T w r zK zV
  nodes : ∀ e ∈ l, Nd T w e.blk (mkK e.key) (mkV e.val)
  chain : Chain w (r :: (l.map (·.blk) ++ [r]))
  nodup : (r :: l.map (·.blk)).Nodup

variable {T : TypeId} {mkK : K → Value} {mkV : V → Value} {zK zV : Value} {w w' : World} {r : Nat} {l : List (Ent K V)}

theorem RingAt.kept {S : Nat → Prop} (h : RingAt T mkK mkV zK zV w r l) (k : Kept S w w') (hr : ¬ S r) (hl : ∀ e ∈ l, ¬ S e.blk) : RingAt T mkK mkV zK zV w' r l := by
  have hcell : ∀ b ∈ r :: l.map (·.blk), ∀ i, w'.cell? ⟨b, i, none⟩ = w.cell? ⟨b, i, none⟩ := by
    intro b hb i
    refine World.cell?_of_block (w := w) ?_
    rcases List.mem_cons.1 hb with rfl | hb
    · exact k.block _ h.root.lt hr
    · obtain ⟨e, he, rfl⟩ := List.mem_map.1 hb
      exact k.block _ (h.nodes e he).lt (hl e he)
  refine ⟨h.root.kept k hr, fun e he => (h.nodes e he).kept k (hl e he), chain_frame (fun a ha => hcell a ?_ 3) (fun b hb => hcell b ?_ 2) h.chain, h.nodup⟩
  · have : (r :: (l.map (·.blk) ++ [r])).dropLast = r :: l.map (·.blk) := by
      rw [← List.cons_append, List.dropLast_concat]
    rwa [this] at ha
  · simp only [List.tail_cons, List.mem_append, List.mem_singleton] at hb
    rcases hb with hb | rfl
    · exact List.mem_cons_of_mem _ hb
    · exact List.mem_cons_self ..

/-- The block of the entry ahead of a place, and of the one behind it. -/
theorem RingAt.around {l1 l2 : List (Ent K V)} {e : Ent K V} (h : RingAt T mkK mkV zK zV w r (l1 ++ e :: l2)) :
    ∃ P a b Q, r :: l1.map (·.blk) = P ++ [a] ∧ l2.map (·.blk) ++ [r] = b :: Q ∧ Chain w (P ++ [a]) ∧ Lk w a e.blk ∧ Lk w e.blk b ∧ Chain w (b :: Q) := by
  obtain ⟨P, a, hPa⟩ : ∃ P a, r :: l1.map (·.blk) = P ++ [a] := ⟨_, _, (List.dropLast_concat_getLast (List.cons_ne_nil _ _)).symm⟩
  obtain ⟨b, Q, hbQ⟩ : ∃ b Q, l2.map (·.blk) ++ [r] = b :: Q := by
    cases hl2 : l2.map (·.blk) with
    | nil => exact ⟨r, [], rfl⟩
    | cons b t => exact ⟨b, t ++ [r], rfl⟩
  refine ⟨P, a, b, Q, hPa, hbQ, ?_⟩
  have hc := h.chain
  have e1 : r :: ((l1 ++ e :: l2).map (·.blk) ++ [r]) = P ++ a :: (e.blk :: b :: Q) := by
    rw [← hbQ]
    have : r :: ((l1 ++ e :: l2).map (·.blk) ++ [r]) = (r :: l1.map (·.blk)) ++ (e.blk :: (l2.map (·.blk) ++ [r])) := by simp
    rw [this, hPa]
    simp
  rw [e1] at hc
  obtain ⟨h1, h2⟩ := chain_split.1 hc
  exact ⟨h1, h2.1, h2.2.1, h2.2.2⟩

theorem blk_ne {l1 l2 : List (Ent K V)} {e : Ent K V} (hn : (r :: (l1 ++ e :: l2).map (·.blk)).Nodup) {a : Nat} (ha : a ∈ r :: l1.map (·.blk) ∨ a ∈ l2.map (·.blk) ++ [r]) : a ≠ e.blk := by
  rintro rfl
  simp only [List.map_append, List.map_cons, List.nodup_cons, List.mem_append, List.mem_cons, List.nodup_append] at hn
  rcases ha with ha | ha
  · rcases List.mem_cons.1 ha with ha | ha
    · exact hn.1 (.inr (.inl ha.symm))
    · exact hn.2.2.2 _ ha _ (.inl rfl) rfl
  · rcases List.mem_append.1 ha with ha | ha
    · exact hn.2.2.1.1 ha
    · exact hn.1 (.inr (.inl (List.mem_singleton.1 ha).symm))

/-- TAKING AN ENTRY OUT. -/
theorem RingAt.out {l1 l2 : List (Ent K V)} {e : Ent K V} (h : RingAt T mkK mkV zK zV w r (l1 ++ e :: l2)) :
    ∃ a b, Lk w a e.blk ∧ Lk w e.blk b ∧ a ≠ e.blk ∧ b ≠ e.blk ∧ (∃ va : Value × Value, Nd T w a va.1 va.2) ∧ (∃ vb : Value × Value, Nd T w b vb.1 vb.2) ∧ (a ∈ r :: (l1 ++ l2).map (·.blk)) ∧ (b ∈ r :: (l1 ++ l2).map (·.blk)) ∧
      RingAt T mkK mkV zK zV ((w.setCell ⟨a, 3, none⟩ (ptr b)).setCell ⟨b, 2, none⟩ (ptr a)) r (l1 ++ l2) ∧
      Nd T ((w.setCell ⟨a, 3, none⟩ (ptr b)).setCell ⟨b, 2, none⟩ (ptr a)) e.blk (mkK e.key) (mkV e.val) := by
  obtain ⟨P, a, b, Q, hPa, hbQ, hc1, hax, hxb, hc2⟩ := h.around
  have ha : a ∈ r :: l1.map (·.blk) := by rw [hPa]; simp
  have hb : b ∈ l2.map (·.blk) ++ [r] := by rw [hbQ]; simp
  have hae := blk_ne h.nodup (.inl ha)
  have hbe := blk_ne h.nodup (.inr hb)
  have hnd := h.nodup
  simp only [List.map_append, List.map_cons, List.nodup_cons, List.mem_append, List.mem_cons, List.nodup_append] at hnd
  obtain ⟨hr, hn1, ⟨he2, hn2⟩, hdis⟩ := hnd
  have hmem : ∀ x, x ∈ r :: l1.map (·.blk) ∨ x ∈ l2.map (·.blk) ++ [r] → x ∈ r :: (l1 ++ l2).map (·.blk) := by
    intro x hx
    simp only [List.map_append, List.mem_cons, List.mem_append, List.not_mem_nil, or_false] at hx ⊢
    rcases hx with (hx | hx) | (hx | hx)
    · exact .inl hx
    · exact .inr (.inl hx)
    · exact .inr (.inr hx)
    · exact .inl hx
  have hnode : ∀ x ∈ r :: (l1 ++ l2).map (·.blk), ∃ va : Value × Value, Nd T w x va.1 va.2 := by
    intro x hx
    rcases List.mem_cons.1 hx with rfl | hx
    · exact ⟨(zK, zV), h.root⟩
    · obtain ⟨y, hy, rfl⟩ := List.mem_map.1 hx
      refine ⟨(mkK y.key, mkV y.val), h.nodes y ?_⟩
      rcases List.mem_append.1 hy with hy | hy
      · exact List.mem_append_left _ hy
      · exact List.mem_append_right _ (List.mem_cons_of_mem _ hy)
  have haL2 : a ∉ l2.map (·.blk) := by
    intro hx
    rcases List.mem_cons.1 ha with rfl | ha
    · exact hr (.inr (.inr hx))
    · exact hdis _ ha _ (.inr hx) rfl
  have hbL1 : b ∉ l1.map (·.blk) := by
    intro hx
    rcases List.mem_append.1 hb with hb | hb
    · exact hdis _ hx _ (.inr hb) rfl
    · rw [List.mem_singleton.1 hb] at hx; exact hr (.inl hx)
  have haP : a ∉ P := by
    intro hx
    have : (P ++ [a]).Nodup := by rw [← hPa]; exact List.nodup_cons.2 ⟨fun h => hr (.inl h), hn1⟩
    exact (List.nodup_append.1 this).2.2 a hx a (by simp) rfl
  have hbQn : b ∉ Q := by
    have : (b :: Q).Nodup := by
      rw [← hbQ]
      exact List.nodup_append.2 ⟨hn2, by simp, fun x hx y hy => by rw [List.mem_singleton.1 hy]; rintro rfl; exact hr (.inr (.inr hx))⟩
    exact (List.nodup_cons.1 this).1
  refine ⟨a, b, hax, hxb, hae, hbe, hnode a (hmem a (.inl ha)), hnode b (hmem b (.inr hb)), hmem a (.inl ha), hmem b (.inr hb), ⟨(h.root.set3 _ _).set2 _ _, ?_, ?_, ?_⟩, ((h.nodes e (by simp)).set3 _ _).set2 _ _⟩
  · intro y hy
    refine ((h.nodes y ?_).set3 _ _).set2 _ _
    rcases List.mem_append.1 hy with hy | hy
    · exact List.mem_append_left _ hy
    · exact List.mem_append_right _ (List.mem_cons_of_mem _ hy)
  · have e1 : r :: ((l1 ++ l2).map (·.blk) ++ [r]) = P ++ a :: (b :: Q) := by
      rw [← hbQ]
      have : r :: ((l1 ++ l2).map (·.blk) ++ [r]) = (r :: l1.map (·.blk)) ++ (l2.map (·.blk) ++ [r]) := by simp
      rw [this, hPa]
      simp
    rw [e1]
    have c3 : ∀ x, x ≠ a → ((w.setCell ⟨a, 3, none⟩ (ptr b)).setCell ⟨b, 2, none⟩ (ptr a)).cell? ⟨x, 3, none⟩ = w.cell? ⟨x, 3, none⟩ := fun x hx => by
      rw [cell_set_ne _ _ (.inr (by omega)), cell_set_ne _ _ (.inl (Ne.symm hx))]
    have c2 : ∀ x, x ≠ b → ((w.setCell ⟨a, 3, none⟩ (ptr b)).setCell ⟨b, 2, none⟩ (ptr a)).cell? ⟨x, 2, none⟩ = w.cell? ⟨x, 2, none⟩ := fun x hx => by
      rw [cell_set_ne _ _ (.inl (Ne.symm hx)), cell_set_ne _ _ (.inr (by omega))]
    refine chain_split.2 ⟨chain_frame (fun x hx => c3 x ?_) (fun x hx => c2 x ?_) hc1, ⟨⟨?_, ?_⟩, chain_frame (fun x hx => c3 x ?_) (fun x hx => c2 x ?_) hc2⟩⟩
    · rw [List.dropLast_concat] at hx
      rintro rfl; exact haP hx
    · rw [← hPa, List.tail_cons] at hx
      rintro rfl; exact hbL1 hx
    · rw [cell_set_ne _ _ (.inr (by omega))]
      exact World.cell?_setCell_same _ _ _ hax.1
    · refine World.cell?_setCell_same _ _ _ (u := ptr e.blk) ?_
      rw [cell_set_ne _ _ (.inr (by omega))]; exact hxb.2
    · rw [← hbQ, List.dropLast_concat] at hx
      rintro rfl; exact haL2 hx
    · rw [List.tail_cons] at hx
      rintro rfl; exact hbQn hx
  · simp only [List.map_append, List.nodup_cons, List.mem_append, List.nodup_append]
    exact ⟨fun hx => hx.elim (fun h => hr (.inl h)) (fun h => hr (.inr (.inr h))), hn1, hn2, fun x hx y hy => hdis x hx y (.inr hy)⟩

/-- PUTTING AN ENTRY IN AT THE FRONT. -/
theorem RingAt.first (h : RingAt T mkK mkV zK zV w r l) {x : Nat} {k : K} {v : V} (hx : Nd T w x (mkK k) (mkV v)) (hxl : x ∉ r :: l.map (·.blk)) :
    ∃ b, w.cell? ⟨r, 3, none⟩ = some (ptr b) ∧ (b ∈ r :: l.map (·.blk)) ∧ (∃ vb, w.cell? ⟨b, 2, none⟩ = some vb) ∧ w.frozen? ⟨b, 2, none⟩ = false ∧ r ≠ x ∧ b ≠ x ∧
      RingAt T mkK mkV zK zV ((((w.setCell ⟨x, 2, none⟩ (ptr r)).setCell ⟨x, 3, none⟩ (ptr b)).setCell ⟨r, 3, none⟩ (ptr x)).setCell ⟨b, 2, none⟩ (ptr x)) r (⟨k, v, x⟩ :: l) := by
  obtain ⟨b, Q, hbQ⟩ : ∃ b Q, l.map (·.blk) ++ [r] = b :: Q := by
    cases hl2 : l.map (·.blk) with
    | nil => exact ⟨r, [], rfl⟩
    | cons b t => exact ⟨b, t ++ [r], rfl⟩
  have hc := h.chain
  rw [hbQ] at hc
  obtain ⟨hrb, hcQ⟩ := hc
  have hb : b ∈ r :: l.map (·.blk) := by
    have : b ∈ l.map (·.blk) ++ [r] := by rw [hbQ]; simp
    rcases List.mem_append.1 this with h | h
    · exact List.mem_cons_of_mem _ h
    · rw [List.mem_singleton.1 h]; exact List.mem_cons_self ..
  have hrx : r ≠ x := fun e => hxl (by rw [← e]; exact List.mem_cons_self ..)
  have hbx : b ≠ x := fun e => hxl (by rw [← e]; exact hb)
  have hnd := List.nodup_cons.1 h.nodup
  have hbQn : b ∉ Q := by
    have : (b :: Q).Nodup := by
      rw [← hbQ]
      exact List.nodup_append.2 ⟨hnd.2, by simp, fun x hx y hy => by rw [List.mem_singleton.1 hy]; rintro rfl; exact hnd.1 hx⟩
    exact (List.nodup_cons.1 this).1
  have hxQ : x ∉ Q := by
    intro hq
    have : x ∈ l.map (·.blk) ++ [r] := by rw [hbQ]; exact List.mem_cons_of_mem _ hq
    rcases List.mem_append.1 this with h | h
    · exact hxl (List.mem_cons_of_mem _ h)
    · exact hrx (List.mem_singleton.1 h).symm
  have hfree : w.frozen? ⟨b, 2, none⟩ = false := by
    rcases List.mem_cons.1 hb with rfl | hb
    · exact h.root.free 2
    · obtain ⟨y, hy, rfl⟩ := List.mem_map.1 hb
      exact (h.nodes y hy).free 2
  obtain ⟨px, hpx⟩ := hx.cell2
  obtain ⟨nx, hnx⟩ := hx.cell3
  have nd : ∀ {a k' v'}, Nd T w a k' v' → Nd T ((((w.setCell ⟨x, 2, none⟩ (ptr r)).setCell ⟨x, 3, none⟩ (ptr b)).setCell ⟨r, 3, none⟩ (ptr x)).setCell ⟨b, 2, none⟩ (ptr x)) a k' v' :=
    fun h => (((h.set2 _ _).set3 _ _).set3 _ _).set2 _ _
  refine ⟨b, hrb.1, hb, ⟨_, hrb.2⟩, hfree, hrx, hbx, ⟨nd h.root, ?_, ?_, ?_⟩⟩
  · intro e he
    rcases List.mem_cons.1 he with rfl | he
    · exact nd hx
    · exact nd (h.nodes e he)
  · simp only [List.map_cons, List.cons_append, hbQ]
    refine ⟨⟨?_, ?_⟩, ⟨?_, ?_⟩, chain_frame (fun y hy => ?_) (fun y hy => ?_) hcQ⟩
    · rw [cell_set_ne _ _ (.inr (by omega))]
      refine World.cell?_setCell_same _ _ _ (u := ptr b) ?_
      rw [cell_set_ne _ _ (.inl hrx.symm), cell_set_ne _ _ (.inr (by omega))]
      exact hrb.1
    · rw [cell_set_ne _ _ (.inl hbx), cell_set_ne _ _ (.inr (by omega)), cell_set_ne _ _ (.inr (by omega))]
      exact World.cell?_setCell_same _ _ _ hpx
    · rw [cell_set_ne _ _ (.inr (by omega)), cell_set_ne _ _ (.inl hrx)]
      refine World.cell?_setCell_same _ _ _ (u := nx) ?_
      rw [cell_set_ne _ _ (.inr (by omega))]; exact hnx
    · refine World.cell?_setCell_same _ _ _ (u := ptr r) ?_
      rw [cell_set_ne _ _ (.inr (by omega)), cell_set_ne _ _ (.inr (by omega)), cell_set_ne _ _ (.inl hbx.symm)]
      exact hrb.2
    · rw [← hbQ, List.dropLast_concat] at hy
      rw [cell_set_ne _ _ (.inr (by omega)), cell_set_ne _ _ (.inl (show r ≠ y from fun e => hnd.1 (by rw [e]; exact hy))), cell_set_ne _ _ (.inl (show x ≠ y from fun e => hxl (List.mem_cons_of_mem _ (by rw [e]; exact hy)))), cell_set_ne _ _ (.inr (by omega))]
    · rw [List.tail_cons] at hy
      rw [cell_set_ne _ _ (.inl (show b ≠ y from fun e => hbQn (by rw [e]; exact hy))), cell_set_ne _ _ (.inr (by omega)), cell_set_ne _ _ (.inr (by omega)), cell_set_ne _ _ (.inl (show x ≠ y from fun e => hxQ (by rw [e]; exact hy)))]
  · simp only [List.map_cons, List.nodup_cons, List.mem_cons] at hxl hnd ⊢
    exact ⟨fun hh => hh.elim hrx hnd.1, fun hh => hxl (.inr hh), hnd.2⟩

end

end Go.Proofs.Ytggpmnhbplmagaa
