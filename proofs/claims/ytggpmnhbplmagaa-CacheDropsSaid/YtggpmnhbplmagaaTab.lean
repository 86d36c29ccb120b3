/-
  A map in memory, told as a list of pairs of values: look-up, a store of a new key, delete, len. No program is named here.
-/
import Derived.Test.YtggpmnhbplmagaaBase
import Derived.MapKept
namespace Go.Proofs.Ytggpmnhbplmagaa
open Go.RowKit Go.Conc Go.MapKept

/-- Block m is a map that holds just these pairs; its keys are of kind d, no key stands twice. -/
def Tab (d : TypeDesc) (w : World) (m : Nat) (ps : List (Value × Value)) : Prop :=
  ∃ es clock, w.heap[m]? = some (.map es clock) ∧ es.toList.map (fun x => (x.key, x.val)) = ps ∧ (∀ p ∈ ps, IsKey d p.1) ∧ (ps.map (·.1)).Nodup

section
variable {P : Program} {d : TypeDesc} {w w' : World} {m : Nat} {ps : List (Value × Value)}

theorem Tab.kept {S : Nat → Prop} (h : Tab d w m ps) (k : Kept S w w') (hm : ¬ S m) : Tab d w' m ps := by
  obtain ⟨es, clock, hb, r⟩ := h
  exact ⟨es, clock, k.get hb hm, r⟩
theorem Tab.lt (h : Tab d w m ps) : m < w.heap.size := by
  obtain ⟨es, clock, hb, r⟩ := h
  exact lt_of_block hb
theorem Tab.ne_cells (h : Tab d w m ps) {b : Nat} {c : Array Value} {t : TypeId} {f : Nat × Nat} (hb : w.heap[b]? = some (.cells c t f)) : m ≠ b := by
  obtain ⟨es, clock, hm, r⟩ := h
  rintro rfl
  rw [hb] at hm
  simp at hm

theorem tab_new (w : World) : Tab d (w.alloc (.map #[] 0)) w.heap.size [] := ⟨#[], 0, alloc_at _ _, rfl, by simp, by simp⟩

theorem keys_of {es : Array MapEntry} (he : es.toList.map (fun x => (x.key, x.val)) = ps) (hk : ∀ p ∈ ps, IsKey d p.1) : ∀ x ∈ es.toList, IsKey d x.key := by
  intro x hx
  have := hk (x.key, x.val) (by rw [← he]; exact List.mem_map.2 ⟨x, hx, rfl⟩)
  exact this

theorem Tab.look_yes {mt kt et : TypeId} (h : Tab d w m ps) (hm : P.underlying mt = some (.map kt et)) (hd : P.underlying kt = some d) {k v : Value} (hk : IsKey d k) (hin : (k, v) ∈ ps) :
    (Instr.lookup mt (.map (some m)) k true).run P w = .ok (.tuple #[v, .bool true]) w := by

  obtain ⟨es, clock, hb, he, hks, hn⟩ := h
  rcases findNow_spec hk es.toList 0 (keys_of he hks) with ⟨_, h2⟩ | ⟨j, e, h1, h2, h3⟩
  · rw [← he] at hin
    obtain ⟨x, hx, hxk⟩ := List.mem_map.1 hin
    exact absurd (congrArg Prod.fst hxk) (h2 x hx)
  · have hv : e.val = v := by
      have hmem : (e.key, e.val) ∈ ps := by rw [← he]; exact List.mem_map.2 ⟨e, List.mem_of_getElem? h2, rfl⟩
      rw [h3] at hmem
      have key : ∀ l : List (Value × Value), (l.map (·.1)).Nodup → (k, e.val) ∈ l → (k, v) ∈ l → e.val = v := by
        intro l
        induction l with
        | nil => intro _ h; cases h
        | cons p l ih =>
          intro hnd ha hb
          simp only [List.map_cons, List.nodup_cons] at hnd
          rcases List.mem_cons.1 ha with ha | ha <;> rcases List.mem_cons.1 hb with hb | hb
          · rw [← ha] at hb; exact ((Prod.mk.inj hb).2).symm
          · exact absurd (List.mem_map.2 ⟨_, hb, by rw [← ha]⟩) hnd.1
          · exact absurd (List.mem_map.2 ⟨_, ha, by rw [← hb]⟩) hnd.1
          · exact ih hnd.2 ha hb
      exact key ps hn hmem hin
    simp [Instr.lookup, run_underlying hm, MapKept.run_getObj_map hb, run_checkKey hd hk, run_findKey hd h1, Result.andThen, hv]

theorem Tab.look_no {mt kt et : TypeId} (h : Tab d w m ps) (hm : P.underlying mt = some (.map kt et)) (hd : P.underlying kt = some d) {k z : Value} (hk : IsKey d k) (hz : (zeroValue et).run P w = .ok z w) (hout : ∀ p ∈ ps, p.1 ≠ k) :
    (Instr.lookup mt (.map (some m)) k true).run P w = .ok (.tuple #[z, .bool false]) w := by

  obtain ⟨es, clock, hb, he, hks, hn⟩ := h
  rcases findNow_spec hk es.toList 0 (keys_of he hks) with ⟨h1, _⟩ | ⟨j, e, h1, h2, h3⟩
  · simp [Instr.lookup, run_underlying hm, MapKept.run_getObj_map hb, run_checkKey hd hk, run_findKey hd h1, Result.andThen, hz]
  · exact absurd h3 (hout (e.key, e.val) (by rw [← he]; exact List.mem_map.2 ⟨e, List.mem_of_getElem? h2, rfl⟩))

/-- Another object in a block. -/
def setObjAt (w : World) (m : Nat) (o : Obj) : World := { w with heap := w.heap.setIfInBounds m o }
theorem setObjAt_at {o o' : Obj} (hb : w.heap[m]? = some o) : (setObjAt w m o').heap[m]? = some o' := (heap_set hb).1
theorem kept_setObjAt (w : World) (m : Nat) (o : Obj) : Kept (· = m) w (setObjAt w m o) :=
  ⟨rfl, rfl, rfl, by simp [setObjAt], fun k _ hk => by simp only [setObjAt]; rw [Array.getElem?_setIfInBounds_ne (Ne.symm hk)]⟩
theorem size_setObjAt (w : World) (m : Nat) (o : Obj) : (setObjAt w m o).heap.size = w.heap.size := by simp [setObjAt]

theorem Tab.store_new {mt kt et : TypeId} (h : Tab d w m ps) (hm : P.underlying mt = some (.map kt et)) (hd : P.underlying kt = some d) {k v : Value} (hk : IsKey d k) (hout : ∀ p ∈ ps, p.1 ≠ k) :
    ∃ w', (Instr.mapUpdate mt (.map (some m)) k v).run P w = .ok () w' ∧ Tab d w' m (ps ++ [(k, v)]) ∧ Kept (· = m) w w' ∧ w'.heap.size = w.heap.size := by

  obtain ⟨es, clock, hb, he, hks, hn⟩ := h
  rcases findNow_spec hk es.toList 0 (keys_of he hks) with ⟨h1, _⟩ | ⟨j, e, h1, h2, h3⟩
  · refine ⟨setObjAt w m (.map (es.push { key := k, val := v, born := clock }) (clock + 1)), ?_, ⟨_, _, setObjAt_at hb, ?_, ?_, ?_⟩, kept_setObjAt _ _ _, size_setObjAt _ _ _⟩
    · simp [Instr.mapUpdate, run_underlying hm, MapKept.run_getObj_map hb, run_checkKey hd hk, run_findKey hd h1, MapKept.run_setObj_map _ hb, Result.andThen, setObjAt]
    · simp [he]
    · intro p hp
      rcases List.mem_append.1 hp with hp | hp
      · exact hks p hp
      · rw [List.mem_singleton.1 hp]; exact hk
    · simp only [List.map_append, List.map_cons, List.map_nil]
      refine List.nodup_append.2 ⟨hn, by simp, ?_⟩
      intro x hx y hy
      rw [List.mem_singleton.1 hy]
      obtain ⟨p, hp, rfl⟩ := List.mem_map.1 hx
      exact hout p hp
  · exact absurd h3 (hout (e.key, e.val) (by rw [← he]; exact List.mem_map.2 ⟨e, List.mem_of_getElem? h2, rfl⟩))

theorem perm_eraseIdx {α : Type} : ∀ (l : List α) (j : Nat) (x : α), l[j]? = some x → l.Perm (x :: l.eraseIdx j)
  | [], j, x, h => by simp at h
  | a :: l, 0, x, h => by
    simp at h
    subst h
    exact List.Perm.refl _
  | a :: l, j + 1, x, h => by
    simp only [List.getElem?_cons_succ] at h
    simp only [List.eraseIdx_cons_succ]
    exact ((perm_eraseIdx l j x h).cons a).trans (List.Perm.swap x a _)

theorem map_eraseIdx {α β : Type} (f : α → β) : ∀ (l : List α) (j : Nat), (l.eraseIdx j).map f = (l.map f).eraseIdx j
  | [], _ => by simp
  | a :: l, 0 => by simp
  | a :: l, j + 1 => by simp [map_eraseIdx f l j]

theorem Tab.drop {mt kt et : TypeId} (h : Tab d w m ps) (hm : P.underlying mt = some (.map kt et)) (hd : P.underlying kt = some d) {k v : Value} (hk : IsKey d k) (hin : (k, v) ∈ ps) :
    ∃ w' ps', (∀ ty, (Builtin.delete_ #[mt, kt] ty #[.map (some m), k]).run P w = .ok (.tuple #[]) w') ∧ Tab d w' m ps' ∧ ps.Perm ((k, v) :: ps') ∧ Kept (· = m) w w' ∧ w'.heap.size = w.heap.size := by

  obtain ⟨es, clock, hb, he, hks, hn⟩ := h
  rcases findNow_spec hk es.toList 0 (keys_of he hks) with ⟨_, h2⟩ | ⟨j, e, h1, h2, h3⟩
  · rw [← he] at hin
    obtain ⟨x, hx, hxk⟩ := List.mem_map.1 hin
    exact absurd (congrArg Prod.fst hxk) (h2 x hx)
  · have hlt : j < es.size := by
      have := (List.getElem?_eq_some_iff.1 h2).1
      simpa using this
    have hpj : ps[j]? = some (e.key, e.val) := by rw [← he, List.getElem?_map, h2]; rfl
    have hperm := perm_eraseIdx ps j _ hpj
    have hnd : ((e.key, e.val) :: ps.eraseIdx j).map (·.1) |>.Nodup := (hperm.map (·.1)).nodup_iff.1 hn
    have hkv : (k, v) = (e.key, e.val) := by
      rcases List.mem_cons.1 (hperm.mem_iff.1 hin) with h | h
      · exact h
      · simp only [List.map_cons, List.nodup_cons] at hnd
        exact absurd (List.mem_map.2 ⟨_, h, h3.symm⟩) hnd.1
    refine ⟨setObjAt w m (.map (es.eraseIdxIfInBounds j) clock), ps.eraseIdx j, ?_, ⟨_, _, setObjAt_at hb, ?_, ?_, ?_⟩, by rw [hkv]; exact hperm, kept_setObjAt _ _ _, size_setObjAt _ _ _⟩
    · intro ty
      simp [Builtin.delete_, run_underlying hm, MapKept.run_getObj_map hb, run_checkKey hd hk, run_findKey hd h1, MapKept.run_setObj_map _ hb, Result.andThen, setObjAt]
    · unfold Array.eraseIdxIfInBounds
      rw [dif_pos hlt, Array.toList_eraseIdx, ← he]
      exact map_eraseIdx _ _ _
    · exact fun p hp => hks p (hperm.mem_iff.2 (List.mem_cons_of_mem _ hp))
    · simp only [List.map_cons, List.nodup_cons] at hnd
      exact hnd.2

theorem Tab.len {mt kt et : TypeId} (h : Tab d w m ps) (hm : P.underlying mt = some (.map kt et)) (ty : TypeId) :
    (Builtin.len_ #[mt] ty #[.map (some m)]).run P w = .ok (.int .i64 ps.length) w := by
  obtain ⟨es, clock, hb, he, _, _⟩ := h
  have : ps.length = es.size := by rw [← he]; simp
  simp [Builtin.len_, run_underlying hm, MapKept.run_getObj_map hb, Result.andThen, goInt, this]

end
end Go.Proofs.Ytggpmnhbplmagaa
