/-
  What Get, Put and New do to a cache; at [int, string] and at [string, int]. Printed by wip/gen/cache_con2.py.
-/
import Derived.Test.YtggpmnhbplmagaaCon
namespace Go.Proofs.Ytggpmnhbplmagaa
open Go.RowKit Go.Conc

section
variable {K V : Type} {T : TypeId} {mkK : K → Value} {mkV : V → Value} {zK zV : Value} {w : World} {r : Nat} {l : List (Ent K V)}

/-- Another thing in an entry. -/
theorem RingAt.setVal {l1 l2 : List (Ent K V)} {e : Ent K V} (h : RingAt T mkK mkV zK zV w r (l1 ++ e :: l2)) (v : V) :
    RingAt T mkK mkV zK zV (w.setCell ⟨e.blk, 1, none⟩ (mkV v)) r (l1 ++ ⟨e.key, v, e.blk⟩ :: l2) := by
  have hk : Kept (· = e.blk) w (w.setCell ⟨e.blk, 1, none⟩ (mkV v)) := (Kept.refl _ w).setCell _ _ (fun _ => rfl)
  have hmap : (l1 ++ (⟨e.key, v, e.blk⟩ : Ent K V) :: l2).map (·.blk) = (l1 ++ e :: l2).map (·.blk) := by simp
  have hnd := h.nodup
  simp only [List.map_append, List.map_cons, List.nodup_cons, List.mem_append, List.mem_cons, List.nodup_append] at hnd
  obtain ⟨hr, hn1, ⟨he2, hn2⟩, hdis⟩ := hnd
  refine ⟨h.root.kept hk (fun e => hr (.inr (.inl e))), ?_, ?_, by rw [hmap]; exact h.nodup⟩
  · intro y hy
    rcases List.mem_append.1 hy with hy | hy
    · exact (h.nodes y (List.mem_append_left _ hy)).kept hk (fun e' => hdis y.blk (List.mem_map.2 ⟨y, hy, rfl⟩) e.blk (.inl rfl) e')
    · rcases List.mem_cons.1 hy with rfl | hy
      · exact (h.nodes e (by simp)).set1 _
      · exact (h.nodes y (List.mem_append_right _ (List.mem_cons_of_mem _ hy))).kept hk (fun e' => he2 (e' ▸ List.mem_map.2 ⟨y, hy, rfl⟩))
  · rw [hmap]
    exact chain_frame (fun a _ => cell_set_ne _ _ (.inr (by omega))) (fun b _ => cell_set_ne _ _ (.inr (by omega))) h.chain

/-- The entry that was used longest ago. -/
theorem RingAt.last {l1 : List (Ent K V)} {e : Ent K V} (h : RingAt T mkK mkV zK zV w r (l1 ++ [e])) : w.cell? ⟨r, 2, none⟩ = some (ptr e.blk) := by
  obtain ⟨P, a, b, Q, hPa, hbQ, _, _, hxb, _⟩ := h.around
  simp only [List.map_nil, List.nil_append, List.cons.injEq] at hbQ
  obtain ⟨rfl, _⟩ := hbQ
  exact hxb.2

theorem chain_get {w : World} : ∀ {l : List Nat} {k : Nat} (h : k + 1 < l.length), Chain w l → Lk w (l[k]) (l[k + 1])
  | [], _, h, _ => by simp at h
  | [_], _, h, _ => by simp at h
  | a :: b :: l, 0, _, hc => hc.1
  | a :: b :: l, k + 1, h, hc => by
    simp only [List.getElem_cons_succ]
    exact chain_get (l := b :: l) (by simpa using h) hc.2

/-- The block of entry k; behind the last one: the root's. -/
def blkAt (r : Nat) (l : List (Ent K V)) (k : Nat) : Nat := (l.map (·.blk) ++ [r]).getD k r

theorem RingAt.nextAt (h : RingAt T mkK mkV zK zV w r l) {k : Nat} (hk : k < l.length) : w.cell? ⟨blkAt r l k, 3, none⟩ = some (ptr (blkAt r l (k + 1))) := by
  have h1 := chain_get (w := w) (l := r :: (l.map (·.blk) ++ [r])) (k := k + 1) (by simp; omega) h.chain
  have e1 : blkAt r l k = (l.map (·.blk) ++ [r])[k]'(by simp; omega) := by simp [blkAt, List.getD, show k < l.length + 1 by omega]
  have e2 : blkAt r l (k + 1) = (l.map (·.blk) ++ [r])[k + 1]'(by simp; omega) := by simp [blkAt, List.getD, show k + 1 < l.length + 1 by omega]
  simp only [List.getElem_cons_succ] at h1
  rw [e1, e2]
  exact h1.1
theorem RingAt.nextRoot (h : RingAt T mkK mkV zK zV w r l) : w.cell? ⟨r, 3, none⟩ = some (ptr (blkAt r l 0)) := by
  have h1 := chain_get (w := w) (l := r :: (l.map (·.blk) ++ [r])) (k := 0) (by simp) h.chain
  have e2 : blkAt r l 0 = (l.map (·.blk) ++ [r])[0]'(by simp) := by simp [blkAt, List.getD]
  rw [e2]
  exact h1.1
theorem blkAt_lt {k : Nat} (hk : k < l.length) : blkAt r l k = (l[k]).blk := by
  simp only [blkAt, List.getD]
  rw [List.getElem?_append_left (by simpa using hk)]
  simp [hk]
theorem blkAt_end : blkAt r l l.length = r := by
  simp only [blkAt, List.getD]
  rw [List.getElem?_append_right (by simp)]
  simp
end

section
variable {P : Program} (w : World)
theorem run_neq_ptr_other {tp te : TypeId} {j : TypeInfo} {a b : Addr} {ca cb : Array Value} {ta tb : TypeId} (hp : P.underlying tp = some (.pointer te)) (hte : P.info? te = some j) (hsz : j.size ≠ 0)
    (hne : a ≠ b) (ha : w.heap[a.block]? = some (.cells ca ta (0, 0))) (hb : w.heap[b.block]? = some (.cells cb tb (0, 0))) :
    (Go.binOp .neq tp (.pointer (some a)) (.pointer (some b))).run P w = .ok (.bool true) w := by
  have h : ∀ d : Nat, (Op.equalIn (d + 1) tp (.pointer (some a)) (.pointer (some b))).run P w = .ok false w := fun d => by
    simp [Op.equalIn, run_underlying hp, sizeOf, typeInfo, hte, hsz, run_sameAddr_other w hne ha hb]
  simp only [Go.binOp]
  simp [Op.equal, Op.maxDepth, h 9999]
theorem run_neq_ptr_one {tp te : TypeId} {j : TypeInfo} (a : Addr) (hp : P.underlying tp = some (.pointer te)) (hte : P.info? te = some j) :
    (Go.binOp .neq tp (.pointer (some a)) (.pointer (some a))).run P w = .ok (.bool false) w := by
  have h : ∀ d : Nat, (Op.equalIn (d + 1) tp (.pointer (some a)) (.pointer (some a))).run P w = .ok true w := fun d => by
    simp [Op.equalIn, run_underlying hp, sizeOf, typeInfo, hte, run_sameAddr_same]
  simp only [Go.binOp]
  simp [Op.equal, Op.maxDepth, h 9999]
end

/-! ### at [Int, ByteArray] -/
theorem NdOfKeptIS {w w' : World} {a : Nat} {k v : Value} {S : Nat → Prop} (h : Nd 57 w a k v) (hk : Kept S w w') (hs : ¬ S a) : Nd 57 w' a k v := h.kept hk hs

set_option maxHeartbeats 400000 in
theorem getIS_no (w : World) (c m r room : Nat) (k : Int) (l : List (Ent Int ByteArray)) (h : ISCache w c m r room l) (hk : ∀ e ∈ l, e.key ≠ k) :
    Calls Try.prog 12 #[.pointer (some ⟨c, 0, none⟩), (Value.int .i64) k] w fun en w' => en = .returned (.tuple #[(.string ⟨#[]⟩), .bool false]) ∧ w' = w := by
  have c1 : w.cell? ⟨c, 1, none⟩ = some (.map (some m)) := by rw [cell_of h.cb]; rfl
  obtain ⟨ps, ht, hp⟩ := h.tab
  have hlook := ht.look_no (P := Try.prog) Try.underlying54 Try.underlying3 (isKeyIS k) (zeroEIS w) (fun p hpp => by
    obtain ⟨e, he, rfl⟩ := List.mem_map.1 (hp.mem_iff.1 hpp)
    exact fun e' => hk e he (mkK_injIS e'))
  clear ht hp hk
  go_enter Try.func12, Try.ntmps12
  go_wp2
  go_ret2
  exact ⟨rfl, rfl⟩

/-- The world behind 'out' and 'first' at one entry. -/
structure MovedIS (w w' : World) (c m r room : Nat) (l1 l2 : List (Ent Int ByteArray)) (k : Int) (v : ByteArray) (b : Nat) : Prop where
  cache : ISCache w' c m r room (⟨k, v, b⟩ :: (l1 ++ l2))
  kept : Kept (fun x => x = b ∨ x = r ∨ x ∈ (l1 ++ l2).map (·.blk)) w w'
  size : w'.heap.size = w.heap.size

theorem movedIS {w w1 w2 : World} {c m r room : Nat} {l1 l2 : List (Ent Int ByteArray)} {e : Ent Int ByteArray} (h : ISCache w c m r room (l1 ++ e :: l2))
    (hk1 : Kept (fun k => k = r ∨ k ∈ (l1 ++ l2).map (·.blk)) w w1) (hs1 : w1.heap.size = w.heap.size)
    (hring : ISRing w2 r (⟨e.key, e.val, e.blk⟩ :: (l1 ++ l2))) (hk2 : Kept (fun k => k = e.blk ∨ k = r ∨ k ∈ (l1 ++ l2).map (·.blk)) w1 w2) (hs2 : w2.heap.size = w1.heap.size) :
    MovedIS w w2 c m r room l1 l2 e.key e.val e.blk := by
  have hk := (hk1.mono (T := fun k => k = e.blk ∨ k = r ∨ k ∈ (l1 ++ l2).map (·.blk)) fun _ _ h => .inr h).trans hk2
  have hsub : ∀ b, (b = e.blk ∨ b = r ∨ b ∈ (l1 ++ l2).map (·.blk)) → b ∈ r :: (l1 ++ e :: l2).map (·.blk) := by
    intro b hb
    simp only [List.map_append, List.map_cons, List.mem_append, List.mem_cons] at hb ⊢
    rcases hb with hb | hb | hb | hb
    · exact .inr (.inr (.inl hb))
    · exact .inl hb
    · exact .inr (.inl hb)
    · exact .inr (.inr (.inr hb))
  obtain ⟨ps, ht, hp⟩ := h.tab
  refine ⟨⟨hk.get h.cb (fun hx => h.c_out (by decide) (hsub _ hx)), hring, ⟨ps, ht.kept hk (fun hx => h.m_out.1 (hsub _ hx)), hp.trans ?_⟩, ?_⟩, hk, by omega⟩
  · simp only [List.map_append, List.map_cons]
    exact List.perm_middle
  · have := h.fits
    simp only [List.length_append, List.length_cons] at this ⊢
    omega

theorem front_outIS {w w1 : World} {c m r room : Nat} {l1 l2 : List (Ent Int ByteArray)} {e : Ent Int ByteArray} (h : ISCache w c m r room (l1 ++ e :: l2))
    (hk1 : Kept (fun k => k = r ∨ k ∈ (l1 ++ l2).map (·.blk)) w w1) :
    w1.cell? ⟨c, 2, none⟩ = some (ptr r) ∧ c ≠ e.blk ∧ e.blk ∉ r :: (l1 ++ l2).map (·.blk) := by
  have hco := h.c_out (by decide)
  have hcb : w1.heap[c]? = some (.cells #[.int .i64 room, .map (some m), ptr r] 59 (0, 0)) := hk1.get h.cb (fun hx => hco (by
    simp only [List.map_append, List.map_cons, List.mem_append, List.mem_cons] at hx ⊢
    rcases hx with hx | hx | hx
    · exact .inl hx
    · exact .inr (.inl hx)
    · exact .inr (.inr (.inr hx))))
  refine ⟨by rw [cell_of hcb]; rfl, fun e' => hco (by rw [e']; simp), ?_⟩
  intro hx
  refine blk_ne h.ring.nodup (a := e.blk) ?_ rfl
  simp only [List.map_append, List.mem_append, List.mem_cons, List.not_mem_nil, or_false] at hx ⊢
  rcases hx with hx | hx | hx
  · exact .inl (.inl hx)
  · exact .inl (.inr hx)
  · exact .inr (.inl hx)

set_option maxHeartbeats 1000000 in
theorem getIS_yes (w : World) (c m r room : Nat) (l1 l2 : List (Ent Int ByteArray)) (e : Ent Int ByteArray) (h : ISCache w c m r room (l1 ++ e :: l2)) :
    Calls Try.prog 12 #[.pointer (some ⟨c, 0, none⟩), (Value.int .i64) e.key] w fun en w' => en = .returned (.tuple #[(Value.string) e.val, .bool true]) ∧ MovedIS w w' c m r room l1 l2 e.key e.val e.blk := by
  have c1 : w.cell? ⟨c, 1, none⟩ = some (.map (some m)) := by rw [cell_of h.cb]; rfl
  obtain ⟨ps, ht, hp⟩ := h.tab
  have hin : ((Value.int .i64) e.key, ptr e.blk) ∈ ps := hp.mem_iff.2 (List.mem_map.2 ⟨e, by simp, rfl⟩)
  have hlook := ht.look_yes (P := Try.prog) Try.underlying54 Try.underlying3 (isKeyIS e.key) hin
  have HO := Lib.hid (outIS w c r l1 l2 e h.ring)
  have H := Lib.hid h
  clear h ht hp hin
  obtain ⟨ek, ev, eb⟩ := e
  simp only at hlook H HO ⊢
  go_enter Try.func12, Try.ntmps12
  go_wp2_with fail
  refine HO.out.mono ?_
  rintro en w1 ⟨rfl, hring, hnd, hk1, hs1⟩
  have hf := front_outIS H.out hk1
  have HF := Lib.hid (firstIS w1 c r eb ek ev (l1 ++ l2) hring hnd hf.2.2 hf.1 hf.2.1)
  have H1 := Lib.hid (And.intro hk1 hs1)
  clear hring hnd hk1 hs1 hf
  go_wp2_with fail
  refine HF.out.mono ?_
  rintro en w2 ⟨rfl, hring, hk2, hs2⟩
  have d1 : w2.cell? ⟨eb, 1, none⟩ = some ((Value.string) ev) := (hring.nodes ⟨ek, ev, eb⟩ (List.mem_cons_self ..)).cell1
  have H2 := Lib.hid (And.intro hring (And.intro hk2 hs2))
  clear hring hk2 hs2
  go_wp2
  go_ret2
  exact ⟨rfl, movedIS H.out H1.out.1 H1.out.2 H2.out.1 H2.out.2.1 H2.out.2.2⟩

set_option maxHeartbeats 1000000 in
theorem putIS_old (w : World) (c m r room : Nat) (l1 l2 : List (Ent Int ByteArray)) (e : Ent Int ByteArray) (v : ByteArray) (h : ISCache w c m r room (l1 ++ e :: l2)) :
    Calls Try.prog 14 #[.pointer (some ⟨c, 0, none⟩), (Value.int .i64) e.key, (Value.string) v] w fun en w' => en = .returned (.tuple #[(.int .i64 0), .bool false]) ∧ MovedIS w w' c m r room l1 l2 e.key v e.blk := by
  have c1 : w.cell? ⟨c, 1, none⟩ = some (.map (some m)) := by rw [cell_of h.cb]; rfl
  obtain ⟨ps, ht, hp⟩ := h.tab
  have hin : ((Value.int .i64) e.key, ptr e.blk) ∈ ps := hp.mem_iff.2 (List.mem_map.2 ⟨e, by simp, rfl⟩)
  have hlook := ht.look_yes (P := Try.prog) Try.underlying54 Try.underlying3 (isKeyIS e.key) hin
  have hnode := h.ring.nodes e (by simp)
  have d1 : w.cell? ⟨e.blk, 1, none⟩ = some ((Value.string) e.val) := hnode.cell1
  have f1 : w.frozen? ⟨e.blk, 1, none⟩ = false := hnode.free 1
  have hset : ISCache (w.setCell ⟨e.blk, 1, none⟩ ((Value.string) v)) c m r room (l1 ++ ⟨e.key, v, e.blk⟩ :: l2) := by
    have hk : Kept (· = e.blk) w (w.setCell ⟨e.blk, 1, none⟩ ((Value.string) v)) := (Kept.refl _ w).setCell _ _ (fun _ => rfl)
    refine ⟨hk.get h.cb (fun e' => h.c_out (by decide) (by rw [e']; simp)), h.ring.setVal v, ⟨ps, ht.kept hk (fun e' => h.m_out.1 (by rw [e']; simp)), ?_⟩, ?_⟩
    · simpa using hp
    · simpa using h.fits
  have HO := Lib.hid (outIS _ c r l1 l2 _ hset.ring)
  have H := Lib.hid hset
  clear h ht hp hin hset hnode
  obtain ⟨ek, ev, eb⟩ := e
  simp only at hlook H HO d1 f1 ⊢
  go_enter Try.func14, Try.ntmps14
  go_wp2_with fail
  refine HO.out.mono ?_
  rintro en w1 ⟨rfl, hring, hnd, hk1, hs1⟩
  have hf := front_outIS H.out hk1
  have HF := Lib.hid (firstIS w1 c r eb ek v (l1 ++ l2) hring hnd hf.2.2 hf.1 hf.2.1)
  have H1 := Lib.hid (And.intro hk1 hs1)
  clear hring hnd hk1 hs1 hf
  go_wp2_with fail
  refine HF.out.mono ?_
  rintro en w2 ⟨rfl, hring, hk2, hs2⟩
  have H2 := Lib.hid (And.intro hring (And.intro hk2 hs2))
  clear hring hk2 hs2
  go_wp2
  go_ret2
  have hm := movedIS H.out H1.out.1 H1.out.2 H2.out.1 H2.out.2.1 H2.out.2.2
  exact ⟨rfl, hm.cache, ((Kept.refl _ w).setCell _ _ (fun _ => .inl rfl)).trans hm.kept, by have := hm.size; simpa using this⟩

/-! ### at [ByteArray, Int] -/
theorem NdOfKeptSI {w w' : World} {a : Nat} {k v : Value} {S : Nat → Prop} (h : Nd 69 w a k v) (hk : Kept S w w') (hs : ¬ S a) : Nd 69 w' a k v := h.kept hk hs

set_option maxHeartbeats 400000 in
theorem getSI_no (w : World) (c m r room : Nat) (k : ByteArray) (l : List (Ent ByteArray Int)) (h : SICache w c m r room l) (hk : ∀ e ∈ l, e.key ≠ k) :
    Calls Try.prog 21 #[.pointer (some ⟨c, 0, none⟩), (Value.string) k] w fun en w' => en = .returned (.tuple #[(.int .i64 0), .bool false]) ∧ w' = w := by
  have c1 : w.cell? ⟨c, 1, none⟩ = some (.map (some m)) := by rw [cell_of h.cb]; rfl
  obtain ⟨ps, ht, hp⟩ := h.tab
  have hlook := ht.look_no (P := Try.prog) Try.underlying66 Try.underlying9 (isKeySI k) (zeroESI w) (fun p hpp => by
    obtain ⟨e, he, rfl⟩ := List.mem_map.1 (hp.mem_iff.1 hpp)
    exact fun e' => hk e he (mkK_injSI e'))
  clear ht hp hk
  go_enter Try.func21, Try.ntmps21
  go_wp2
  go_ret2
  exact ⟨rfl, rfl⟩

/-- The world behind 'out' and 'first' at one entry. -/
structure MovedSI (w w' : World) (c m r room : Nat) (l1 l2 : List (Ent ByteArray Int)) (k : ByteArray) (v : Int) (b : Nat) : Prop where
  cache : SICache w' c m r room (⟨k, v, b⟩ :: (l1 ++ l2))
  kept : Kept (fun x => x = b ∨ x = r ∨ x ∈ (l1 ++ l2).map (·.blk)) w w'
  size : w'.heap.size = w.heap.size

theorem movedSI {w w1 w2 : World} {c m r room : Nat} {l1 l2 : List (Ent ByteArray Int)} {e : Ent ByteArray Int} (h : SICache w c m r room (l1 ++ e :: l2))
    (hk1 : Kept (fun k => k = r ∨ k ∈ (l1 ++ l2).map (·.blk)) w w1) (hs1 : w1.heap.size = w.heap.size)
    (hring : SIRing w2 r (⟨e.key, e.val, e.blk⟩ :: (l1 ++ l2))) (hk2 : Kept (fun k => k = e.blk ∨ k = r ∨ k ∈ (l1 ++ l2).map (·.blk)) w1 w2) (hs2 : w2.heap.size = w1.heap.size) :
    MovedSI w w2 c m r room l1 l2 e.key e.val e.blk := by
  have hk := (hk1.mono (T := fun k => k = e.blk ∨ k = r ∨ k ∈ (l1 ++ l2).map (·.blk)) fun _ _ h => .inr h).trans hk2
  have hsub : ∀ b, (b = e.blk ∨ b = r ∨ b ∈ (l1 ++ l2).map (·.blk)) → b ∈ r :: (l1 ++ e :: l2).map (·.blk) := by
    intro b hb
    simp only [List.map_append, List.map_cons, List.mem_append, List.mem_cons] at hb ⊢
    rcases hb with hb | hb | hb | hb
    · exact .inr (.inr (.inl hb))
    · exact .inl hb
    · exact .inr (.inl hb)
    · exact .inr (.inr (.inr hb))
  obtain ⟨ps, ht, hp⟩ := h.tab
  refine ⟨⟨hk.get h.cb (fun hx => h.c_out (by decide) (hsub _ hx)), hring, ⟨ps, ht.kept hk (fun hx => h.m_out.1 (hsub _ hx)), hp.trans ?_⟩, ?_⟩, hk, by omega⟩
  · simp only [List.map_append, List.map_cons]
    exact List.perm_middle
  · have := h.fits
    simp only [List.length_append, List.length_cons] at this ⊢
    omega

theorem front_outSI {w w1 : World} {c m r room : Nat} {l1 l2 : List (Ent ByteArray Int)} {e : Ent ByteArray Int} (h : SICache w c m r room (l1 ++ e :: l2))
    (hk1 : Kept (fun k => k = r ∨ k ∈ (l1 ++ l2).map (·.blk)) w w1) :
    w1.cell? ⟨c, 2, none⟩ = some (ptr r) ∧ c ≠ e.blk ∧ e.blk ∉ r :: (l1 ++ l2).map (·.blk) := by
  have hco := h.c_out (by decide)
  have hcb : w1.heap[c]? = some (.cells #[.int .i64 room, .map (some m), ptr r] 71 (0, 0)) := hk1.get h.cb (fun hx => hco (by
    simp only [List.map_append, List.map_cons, List.mem_append, List.mem_cons] at hx ⊢
    rcases hx with hx | hx | hx
    · exact .inl hx
    · exact .inr (.inl hx)
    · exact .inr (.inr (.inr hx))))
  refine ⟨by rw [cell_of hcb]; rfl, fun e' => hco (by rw [e']; simp), ?_⟩
  intro hx
  refine blk_ne h.ring.nodup (a := e.blk) ?_ rfl
  simp only [List.map_append, List.mem_append, List.mem_cons, List.not_mem_nil, or_false] at hx ⊢
  rcases hx with hx | hx | hx
  · exact .inl (.inl hx)
  · exact .inl (.inr hx)
  · exact .inr (.inl hx)

set_option maxHeartbeats 1000000 in
theorem getSI_yes (w : World) (c m r room : Nat) (l1 l2 : List (Ent ByteArray Int)) (e : Ent ByteArray Int) (h : SICache w c m r room (l1 ++ e :: l2)) :
    Calls Try.prog 21 #[.pointer (some ⟨c, 0, none⟩), (Value.string) e.key] w fun en w' => en = .returned (.tuple #[(Value.int .i64) e.val, .bool true]) ∧ MovedSI w w' c m r room l1 l2 e.key e.val e.blk := by
  have c1 : w.cell? ⟨c, 1, none⟩ = some (.map (some m)) := by rw [cell_of h.cb]; rfl
  obtain ⟨ps, ht, hp⟩ := h.tab
  have hin : ((Value.string) e.key, ptr e.blk) ∈ ps := hp.mem_iff.2 (List.mem_map.2 ⟨e, by simp, rfl⟩)
  have hlook := ht.look_yes (P := Try.prog) Try.underlying66 Try.underlying9 (isKeySI e.key) hin
  have HO := Lib.hid (outSI w c r l1 l2 e h.ring)
  have H := Lib.hid h
  clear h ht hp hin
  obtain ⟨ek, ev, eb⟩ := e
  simp only at hlook H HO ⊢
  go_enter Try.func21, Try.ntmps21
  go_wp2_with fail
  refine HO.out.mono ?_
  rintro en w1 ⟨rfl, hring, hnd, hk1, hs1⟩
  have hf := front_outSI H.out hk1
  have HF := Lib.hid (firstSI w1 c r eb ek ev (l1 ++ l2) hring hnd hf.2.2 hf.1 hf.2.1)
  have H1 := Lib.hid (And.intro hk1 hs1)
  clear hring hnd hk1 hs1 hf
  go_wp2_with fail
  refine HF.out.mono ?_
  rintro en w2 ⟨rfl, hring, hk2, hs2⟩
  have d1 : w2.cell? ⟨eb, 1, none⟩ = some ((Value.int .i64) ev) := (hring.nodes ⟨ek, ev, eb⟩ (List.mem_cons_self ..)).cell1
  have H2 := Lib.hid (And.intro hring (And.intro hk2 hs2))
  clear hring hk2 hs2
  go_wp2
  go_ret2
  exact ⟨rfl, movedSI H.out H1.out.1 H1.out.2 H2.out.1 H2.out.2.1 H2.out.2.2⟩

set_option maxHeartbeats 1000000 in
theorem putSI_old (w : World) (c m r room : Nat) (l1 l2 : List (Ent ByteArray Int)) (e : Ent ByteArray Int) (v : Int) (h : SICache w c m r room (l1 ++ e :: l2)) :
    Calls Try.prog 22 #[.pointer (some ⟨c, 0, none⟩), (Value.string) e.key, (Value.int .i64) v] w fun en w' => en = .returned (.tuple #[(.string ⟨#[]⟩), .bool false]) ∧ MovedSI w w' c m r room l1 l2 e.key v e.blk := by
  have c1 : w.cell? ⟨c, 1, none⟩ = some (.map (some m)) := by rw [cell_of h.cb]; rfl
  obtain ⟨ps, ht, hp⟩ := h.tab
  have hin : ((Value.string) e.key, ptr e.blk) ∈ ps := hp.mem_iff.2 (List.mem_map.2 ⟨e, by simp, rfl⟩)
  have hlook := ht.look_yes (P := Try.prog) Try.underlying66 Try.underlying9 (isKeySI e.key) hin
  have hnode := h.ring.nodes e (by simp)
  have d1 : w.cell? ⟨e.blk, 1, none⟩ = some ((Value.int .i64) e.val) := hnode.cell1
  have f1 : w.frozen? ⟨e.blk, 1, none⟩ = false := hnode.free 1
  have hset : SICache (w.setCell ⟨e.blk, 1, none⟩ ((Value.int .i64) v)) c m r room (l1 ++ ⟨e.key, v, e.blk⟩ :: l2) := by
    have hk : Kept (· = e.blk) w (w.setCell ⟨e.blk, 1, none⟩ ((Value.int .i64) v)) := (Kept.refl _ w).setCell _ _ (fun _ => rfl)
    refine ⟨hk.get h.cb (fun e' => h.c_out (by decide) (by rw [e']; simp)), h.ring.setVal v, ⟨ps, ht.kept hk (fun e' => h.m_out.1 (by rw [e']; simp)), ?_⟩, ?_⟩
    · simpa using hp
    · simpa using h.fits
  have HO := Lib.hid (outSI _ c r l1 l2 _ hset.ring)
  have H := Lib.hid hset
  clear h ht hp hin hset hnode
  obtain ⟨ek, ev, eb⟩ := e
  simp only at hlook H HO d1 f1 ⊢
  go_enter Try.func22, Try.ntmps22
  go_wp2_with fail
  refine HO.out.mono ?_
  rintro en w1 ⟨rfl, hring, hnd, hk1, hs1⟩
  have hf := front_outSI H.out hk1
  have HF := Lib.hid (firstSI w1 c r eb ek v (l1 ++ l2) hring hnd hf.2.2 hf.1 hf.2.1)
  have H1 := Lib.hid (And.intro hk1 hs1)
  clear hring hnd hk1 hs1 hf
  go_wp2_with fail
  refine HF.out.mono ?_
  rintro en w2 ⟨rfl, hring, hk2, hs2⟩
  have H2 := Lib.hid (And.intro hring (And.intro hk2 hs2))
  clear hring hk2 hs2
  go_wp2
  go_ret2
  have hm := movedSI H.out H1.out.1 H1.out.2 H2.out.1 H2.out.2.1 H2.out.2.2
  exact ⟨rfl, hm.cache, ((Kept.refl _ w).setCell _ _ (fun _ => .inl rfl)).trans hm.kept, by have := hm.size; simpa using this⟩

end Go.Proofs.Ytggpmnhbplmagaa
