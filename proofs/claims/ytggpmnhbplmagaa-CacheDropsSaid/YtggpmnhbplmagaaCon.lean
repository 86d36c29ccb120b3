/-
  What each call of package cache does to a cache that is known by its room and its entries, the one that was used last first; at [int, string] and at [string, int]. Printed by wip/gen/cache_con.py.
-/
import Derived.Test.YtggpmnhbplmagaaRing
import Derived.Test.YtggpmnhbplmagaaTab
import Derived.BigRegion
import Derived.Deep.QuietTactic
import Derived.BigQuiet
import Derived.LaidEqlPtr
namespace Go.Proofs.Ytggpmnhbplmagaa
open Go.RowKit Go.Conc

section
variable {K V : Type}

/-- A cache: its block, its ring, its map. -/
structure CacheAt (CT ET : TypeId) (d : TypeDesc) (mkK : K → Value) (mkV : V → Value) (zK zV : Value) (w : World) (c m r room : Nat) (l : List (Ent K V)) : Prop where
  cb : w.heap[c]? = some (.cells #[.int .i64 room, .map (some m), ptr r] CT (0, 0))
  ring : RingAt ET mkK mkV zK zV w r l
  tab : ∃ ps, Tab d w m ps ∧ ps.Perm (l.map fun e => (mkK e.key, ptr e.blk))
  fits : l.length ≤ 65537 ∧ room ≤ 65536

variable {CT ET : TypeId} {d : TypeDesc} {mkK : K → Value} {mkV : V → Value} {zK zV : Value} {w w' : World} {c m r room : Nat} {l : List (Ent K V)}

theorem CacheAt.c_out (h : CacheAt CT ET d mkK mkV zK zV w c m r room l) (ht : CT ≠ ET) : c ∉ r :: l.map (·.blk) := by
  intro hc
  have hnd : ∃ k v, Nd ET w c k v := by
    rcases List.mem_cons.1 hc with rfl | hc
    · exact ⟨_, _, h.ring.root⟩
    · obtain ⟨e, he, rfl⟩ := List.mem_map.1 hc
      exact ⟨_, _, h.ring.nodes e he⟩
  obtain ⟨k, v, p, n, hb⟩ := hnd
  rw [h.cb] at hb
  simp only [Option.some.injEq, Obj.cells.injEq] at hb
  exact ht hb.2.1

theorem CacheAt.m_out (h : CacheAt CT ET d mkK mkV zK zV w c m r room l) : m ∉ r :: l.map (·.blk) ∧ m ≠ c := by
  obtain ⟨ps, ht, _⟩ := h.tab
  refine ⟨fun hm => ?_, ht.ne_cells h.cb⟩
  rcases List.mem_cons.1 hm with rfl | hm
  · obtain ⟨p, n, hb⟩ := h.ring.root
    exact ht.ne_cells hb rfl
  · obtain ⟨e, he, rfl⟩ := List.mem_map.1 hm
    obtain ⟨p, n, hb⟩ := h.ring.nodes e he
    exact ht.ne_cells hb rfl

theorem CacheAt.kept {S : Nat → Prop} (h : CacheAt CT ET d mkK mkV zK zV w c m r room l) (k : Kept S w w') (hs : ∀ b, b ∈ c :: m :: r :: l.map (·.blk) → ¬ S b) : CacheAt CT ET d mkK mkV zK zV w' c m r room l := by
  obtain ⟨ps, ht, hp⟩ := h.tab
  exact ⟨k.get h.cb (hs c (by simp)), h.ring.kept k (hs r (by simp)) (fun e he => hs e.blk (by simp only [List.mem_cons, List.mem_map]; exact .inr (.inr (.inr ⟨e, he, rfl⟩)))), ⟨ps, ht.kept k (hs m (by simp)), hp⟩, h.fits⟩

theorem CacheAt.nodup (h : CacheAt CT ET d mkK mkV zK zV w c m r room l) : (l.map fun e => mkK e.key).Nodup := by
  obtain ⟨ps, ⟨es, clock, _, _, _, hn⟩, hp⟩ := h.tab
  have := (hp.map (·.1)).nodup_iff.1 hn
  simpa [List.map_map, Function.comp_def] using this

theorem CacheAt.lt (h : CacheAt CT ET d mkK mkV zK zV w c m r room l) : ∀ b ∈ c :: m :: r :: l.map (·.blk), b < w.heap.size := by
  obtain ⟨ps, ht, hp⟩ := h.tab
  intro b hb
  simp only [List.mem_cons, List.mem_map] at hb
  rcases hb with rfl | rfl | rfl | ⟨e, he, rfl⟩
  · exact lt_of_block h.cb
  · exact ht.lt
  · exact h.ring.root.lt
  · exact (h.ring.nodes e he).lt
end

/-! ### at [Int, ByteArray] -/
abbrev ISRing (w : World) (r : Nat) (l : List (Ent Int ByteArray)) : Prop := RingAt 57 (Value.int .i64) (Value.string) (.int .i64 0) (.string ⟨#[]⟩) w r l
abbrev ISCache (w : World) (c m r room : Nat) (l : List (Ent Int ByteArray)) : Prop := CacheAt 59 57 (.int .i64) (Value.int .i64) (Value.string) (.int .i64 0) (.string ⟨#[]⟩) w c m r room l

theorem isKeyIS (k : Int) : MapKept.IsKey (.int .i64) ((Value.int .i64) k) := by simp [MapKept.IsKey]
theorem mkK_injIS {a b : Int} (h : (Value.int .i64) a = (Value.int .i64) b) : a = b := by simpa using h
theorem zeroEIS (w : World) : (zeroValue 55).run Try.prog w = .ok (.pointer none) w := by kernel_rfl

set_option maxHeartbeats 1000000 in
theorem out_rawIS (w : World) (c x a b : Nat) (_hax : a ≠ x) (_hbx : b ≠ x)
    (hp : w.cell? ⟨x, 2, none⟩ = some (.pointer (some ⟨a, 0, none⟩))) (hn : w.cell? ⟨x, 3, none⟩ = some (.pointer (some ⟨b, 0, none⟩)))
    (va : Value) (ha : w.cell? ⟨a, 3, none⟩ = some va) (fa : w.frozen? ⟨a, 3, none⟩ = false)
    (vb : Value) (hb : w.cell? ⟨b, 2, none⟩ = some vb) (fb : w.frozen? ⟨b, 2, none⟩ = false) :
    Calls Try.prog 25 #[.pointer (some ⟨c, 0, none⟩), .pointer (some ⟨x, 0, none⟩)] w fun e w' => e = .returned (.tuple #[]) ∧
      w' = ((w.setCell ⟨a, 3, none⟩ (.pointer (some ⟨b, 0, none⟩))).setCell ⟨b, 2, none⟩ (.pointer (some ⟨a, 0, none⟩))).drew := by
  go_enter Try.func25, Try.ntmps25
  go_wp2
  go_region
  go_end0
  exact ⟨rfl, rfl⟩

set_option maxHeartbeats 1000000 in
theorem first_rawIS (w : World) (c x r b : Nat) (hrx : r ≠ x) (hbx : b ≠ x) (hc : w.cell? ⟨c, 2, none⟩ = some (.pointer (some ⟨r, 0, none⟩)))
    (hcx : c ≠ x)
    (vp : Value) (hp : w.cell? ⟨x, 2, none⟩ = some vp) (fp : w.frozen? ⟨x, 2, none⟩ = false) (vn : Value) (hn : w.cell? ⟨x, 3, none⟩ = some vn) (fn : w.frozen? ⟨x, 3, none⟩ = false)
    (hr : w.cell? ⟨r, 3, none⟩ = some (.pointer (some ⟨b, 0, none⟩))) (fr : w.frozen? ⟨r, 3, none⟩ = false)
    (vb : Value) (hb : w.cell? ⟨b, 2, none⟩ = some vb) (fb : w.frozen? ⟨b, 2, none⟩ = false) :
    Calls Try.prog 26 #[.pointer (some ⟨c, 0, none⟩), .pointer (some ⟨x, 0, none⟩)] w fun e w' => e = .returned (.tuple #[]) ∧
      w' = ((((w.setCell ⟨x, 2, none⟩ (.pointer (some ⟨r, 0, none⟩))).setCell ⟨x, 3, none⟩ (.pointer (some ⟨b, 0, none⟩))).setCell ⟨r, 3, none⟩ (.pointer (some ⟨x, 0, none⟩))).setCell ⟨b, 2, none⟩ (.pointer (some ⟨x, 0, none⟩))).drew.drew := by
  go_enter Try.func26, Try.ntmps26
  go_wp2
  go_region
  go_wp2
  go_region
  go_end0
  exact ⟨rfl, rfl⟩

theorem RingAt.drewIS {w : World} {r : Nat} {l : List (Ent Int ByteArray)} (h : ISRing w r l) : ISRing w.drew r l :=
  h.kept ((Kept.refl (fun _ => False) w).drew) (fun h => h) (fun _ _ h => h)

/-- 'out': the entry goes out of the ring; its own block stays. -/
theorem outIS (w : World) (c r : Nat) (l1 l2 : List (Ent Int ByteArray)) (e : Ent Int ByteArray) (h : ISRing w r (l1 ++ e :: l2)) :
    Calls Try.prog 25 #[.pointer (some ⟨c, 0, none⟩), .pointer (some ⟨e.blk, 0, none⟩)] w fun en w' => en = .returned (.tuple #[]) ∧
      ISRing w' r (l1 ++ l2) ∧ Nd 57 w' e.blk ((Value.int .i64) e.key) ((Value.string) e.val) ∧ Kept (fun k => k = r ∨ k ∈ (l1 ++ l2).map (·.blk)) w w' ∧ w'.heap.size = w.heap.size := by
  obtain ⟨a, b, hax, hxb, hae, hbe, ⟨va, na⟩, ⟨vb, nb⟩, hma, hmb, hring, hnd⟩ := h.out
  refine (out_rawIS w c e.blk a b hae hbe hax.2 hxb.1 _ hax.1 (na.free 3) _ hxb.2 (nb.free 2)).mono fun en w' ⟨he, hw⟩ => ?_
  subst hw
  refine ⟨he, hring.drewIS, hnd.kept ((Kept.refl (fun _ => False) _).drew) (fun h => h), (((Kept.refl _ w).setCell _ _ (fun _ => ?_)).setCell _ _ (fun _ => ?_)).drew, by simp⟩
  · exact List.mem_cons.1 hma
  · exact List.mem_cons.1 hmb

/-- 'first': the entry comes into the ring, ahead of all others. -/
theorem firstIS (w : World) (c r x : Nat) (k : Int) (v : ByteArray) (l : List (Ent Int ByteArray)) (h : ISRing w r l) (hx : Nd 57 w x ((Value.int .i64) k) ((Value.string) v)) (hxl : x ∉ r :: l.map (·.blk)) (hc : w.cell? ⟨c, 2, none⟩ = some (ptr r)) (hcx : c ≠ x) :
    Calls Try.prog 26 #[.pointer (some ⟨c, 0, none⟩), .pointer (some ⟨x, 0, none⟩)] w fun en w' => en = .returned (.tuple #[]) ∧
      ISRing w' r (⟨k, v, x⟩ :: l) ∧ Kept (fun k => k = x ∨ k = r ∨ k ∈ l.map (·.blk)) w w' ∧ w'.heap.size = w.heap.size := by
  obtain ⟨b, hrb, hmb, ⟨vb, hvb⟩, hfb, hrx, hbx, hring⟩ := h.first hx hxl
  obtain ⟨vp, hvp⟩ := hx.cell2
  obtain ⟨vn, hvn⟩ := hx.cell3
  refine (first_rawIS w c x r b hrx hbx hc hcx vp hvp (hx.free 2) vn hvn (hx.free 3) hrb (h.root.free 3) vb hvb hfb).mono fun en w' ⟨he, hw⟩ => ?_
  subst hw
  refine ⟨he, hring.drewIS.drewIS, (((((Kept.refl _ w).setCell _ _ (fun _ => .inl rfl)).setCell _ _ (fun _ => .inl rfl)).setCell _ _ (fun _ => .inr (.inl rfl))).setCell _ _ (fun _ => .inr (List.mem_cons.1 hmb))).drew.drew, by simp⟩

set_option maxHeartbeats 400000 in
theorem dropIS_no (w : World) (c m r room : Nat) (k : Int) (l : List (Ent Int ByteArray)) (h : ISCache w c m r room l) (hk : ∀ e ∈ l, e.key ≠ k) :
    Calls Try.prog 16 #[.pointer (some ⟨c, 0, none⟩), (Value.int .i64) k] w fun en w' => en = .returned (.bool false) ∧ w' = w := by
  have c1 : w.cell? ⟨c, 1, none⟩ = some (.map (some m)) := by rw [cell_of h.cb]; rfl
  obtain ⟨ps, ht, hp⟩ := h.tab
  have hlook := ht.look_no (P := Try.prog) Try.underlying54 Try.underlying3 (isKeyIS k) (zeroEIS w) (fun p hpp => by
    obtain ⟨e, he, rfl⟩ := List.mem_map.1 (hp.mem_iff.1 hpp)
    exact fun e' => hk e he (mkK_injIS e'))
  clear ht hp hk
  go_enter Try.func16, Try.ntmps16
  go_wp2
  go_ret
  exact ⟨rfl, rfl⟩

set_option maxHeartbeats 1000000 in
theorem dropIS_yes (w : World) (c m r room : Nat) (l1 l2 : List (Ent Int ByteArray)) (e : Ent Int ByteArray) (h : ISCache w c m r room (l1 ++ e :: l2)) :
    Calls Try.prog 16 #[.pointer (some ⟨c, 0, none⟩), (Value.int .i64) e.key] w fun en w' => en = .returned (.bool true) ∧
      ISCache w' c m r room (l1 ++ l2) ∧ Kept (fun k => k = m ∨ k = r ∨ k ∈ (l1 ++ l2).map (·.blk)) w w' ∧ w'.heap.size = w.heap.size ∧ Nd 57 w' e.blk ((Value.int .i64) e.key) ((Value.string) e.val) := by
  have c1 : w.cell? ⟨c, 1, none⟩ = some (.map (some m)) := by rw [cell_of h.cb]; rfl
  obtain ⟨ps, ht, hp⟩ := h.tab
  have hin : ((Value.int .i64) e.key, ptr e.blk) ∈ ps := hp.mem_iff.2 (List.mem_map.2 ⟨e, by simp, rfl⟩)
  have hlook := ht.look_yes (P := Try.prog) Try.underlying54 Try.underlying3 (isKeyIS e.key) hin
  have hco := h.c_out (by decide)
  have hmo := h.m_out
  have H := Lib.hid h
  have HT := Lib.hid (And.intro ht (And.intro hp hin))
  have HO := Lib.hid (outIS w c r l1 l2 e h.ring)
  have HC := Lib.hid (And.intro hco hmo)
  clear h ht hp hin hco hmo
  obtain ⟨ek, ev, eb⟩ := e
  simp only at hlook H HT HO HC ⊢
  go_enter Try.func16, Try.ntmps16
  go_wp2_with fail
  refine HO.out.mono ?_
  rintro en w1 ⟨rfl, hring, hnd, hk1, hs1⟩
  have hsub : ∀ b, b ∈ (l1 ++ l2).map (·.blk) → b ∈ (l1 ++ ⟨ek, ev, eb⟩ :: l2).map (·.blk) := by
    intro b hb
    simp only [List.map_append, List.map_cons, List.mem_append, List.mem_cons] at hb ⊢
    rcases hb with hb | hb
    · exact .inl hb
    · exact .inr (.inr hb)
  have hcb : w1.heap[c]? = some (.cells #[.int .i64 room, .map (some m), ptr r] 59 (0, 0)) := hk1.get H.out.cb (fun hx => HC.out.1 (by
    rcases hx with rfl | hx
    · exact List.mem_cons_self ..
    · exact List.mem_cons_of_mem _ (hsub _ hx)))
  have c1' : w1.cell? ⟨c, 1, none⟩ = some (.map (some m)) := by rw [cell_of hcb]; rfl
  have ht1 : Tab (.int .i64) w1 m ps := HT.out.1.kept hk1 (fun hx => HC.out.2.1 (by
    rcases hx with rfl | hx
    · exact List.mem_cons_self ..
    · exact List.mem_cons_of_mem _ (hsub _ hx)))
  obtain ⟨w2, ps', hdel, ht2, hperm, hk2, hs2⟩ := ht1.drop (P := Try.prog) Try.underlying54 Try.underlying3 (isKeyIS ek) HT.out.2.2
  have H1 := Lib.hid (And.intro hring (And.intro hnd (And.intro hk1 (And.intro hs1 hcb))))
  have H2 := Lib.hid (And.intro ht2 (And.intro hperm (And.intro hk2 hs2)))
  have HS := Lib.hid hsub
  clear hring hnd hk1 hs1 hcb ht1 ht2 hperm hk2 hs2 hsub
  go_wp2
  go_ret
  obtain ⟨hring, hnd, hk1, hs1, hcb⟩ := H1.out
  obtain ⟨ht2, hperm, hk2, hs2⟩ := H2.out
  have hmr : ¬ (r = m) := fun e => HC.out.2.1 (by rw [e]; exact List.mem_cons_self ..)
  have hml : ∀ b ∈ (l1 ++ l2).map (·.blk), ¬ (b = m) := fun b hb e => HC.out.2.1 (by rw [← e]; exact List.mem_cons_of_mem _ (HS.out b hb))
  refine ⟨rfl, ⟨hk2.get hcb (fun e => HC.out.2.2 e.symm), hring.kept hk2 hmr (fun x hx => hml _ (List.mem_map.2 ⟨x, hx, rfl⟩)), ⟨ps', ht2, ?_⟩, ?_⟩, ?_, hs2.trans hs1, hnd.kept hk2 ?_⟩
  · have h1 := hperm.symm.trans HT.out.2.1
    have h2 : ((l1 ++ (⟨ek, ev, eb⟩ : Ent Int ByteArray) :: l2).map fun e => ((Value.int .i64) e.key, ptr e.blk)).Perm (((Value.int .i64) ek, ptr eb) :: ((l1 ++ l2).map fun e => ((Value.int .i64) e.key, ptr e.blk))) := by
      simp only [List.map_append, List.map_cons]
      exact List.perm_middle
    exact (List.perm_cons _).1 (h1.trans h2)
  · have := H.out.fits
    simp only [List.length_append, List.length_cons] at this ⊢
    omega
  · exact (hk1.mono fun _ _ e => .inr e).trans (hk2.mono fun _ _ e => .inl e)
  · exact fun e => HC.out.2.1 (by rw [← e]; simp)

/-! ### at [ByteArray, Int] -/
abbrev SIRing (w : World) (r : Nat) (l : List (Ent ByteArray Int)) : Prop := RingAt 69 (Value.string) (Value.int .i64) (.string ⟨#[]⟩) (.int .i64 0) w r l
abbrev SICache (w : World) (c m r room : Nat) (l : List (Ent ByteArray Int)) : Prop := CacheAt 71 69 (.string) (Value.string) (Value.int .i64) (.string ⟨#[]⟩) (.int .i64 0) w c m r room l

theorem isKeySI (k : ByteArray) : MapKept.IsKey (.string) ((Value.string) k) := by simp [MapKept.IsKey]
theorem mkK_injSI {a b : ByteArray} (h : (Value.string) a = (Value.string) b) : a = b := by simpa using h
theorem zeroESI (w : World) : (zeroValue 67).run Try.prog w = .ok (.pointer none) w := by kernel_rfl

set_option maxHeartbeats 1000000 in
theorem out_rawSI (w : World) (c x a b : Nat) (_hax : a ≠ x) (_hbx : b ≠ x)
    (hp : w.cell? ⟨x, 2, none⟩ = some (.pointer (some ⟨a, 0, none⟩))) (hn : w.cell? ⟨x, 3, none⟩ = some (.pointer (some ⟨b, 0, none⟩)))
    (va : Value) (ha : w.cell? ⟨a, 3, none⟩ = some va) (fa : w.frozen? ⟨a, 3, none⟩ = false)
    (vb : Value) (hb : w.cell? ⟨b, 2, none⟩ = some vb) (fb : w.frozen? ⟨b, 2, none⟩ = false) :
    Calls Try.prog 29 #[.pointer (some ⟨c, 0, none⟩), .pointer (some ⟨x, 0, none⟩)] w fun e w' => e = .returned (.tuple #[]) ∧
      w' = ((w.setCell ⟨a, 3, none⟩ (.pointer (some ⟨b, 0, none⟩))).setCell ⟨b, 2, none⟩ (.pointer (some ⟨a, 0, none⟩))).drew := by
  go_enter Try.func29, Try.ntmps29
  go_wp2
  go_region
  go_end0
  exact ⟨rfl, rfl⟩

set_option maxHeartbeats 1000000 in
theorem first_rawSI (w : World) (c x r b : Nat) (hrx : r ≠ x) (hbx : b ≠ x) (hc : w.cell? ⟨c, 2, none⟩ = some (.pointer (some ⟨r, 0, none⟩)))
    (hcx : c ≠ x)
    (vp : Value) (hp : w.cell? ⟨x, 2, none⟩ = some vp) (fp : w.frozen? ⟨x, 2, none⟩ = false) (vn : Value) (hn : w.cell? ⟨x, 3, none⟩ = some vn) (fn : w.frozen? ⟨x, 3, none⟩ = false)
    (hr : w.cell? ⟨r, 3, none⟩ = some (.pointer (some ⟨b, 0, none⟩))) (fr : w.frozen? ⟨r, 3, none⟩ = false)
    (vb : Value) (hb : w.cell? ⟨b, 2, none⟩ = some vb) (fb : w.frozen? ⟨b, 2, none⟩ = false) :
    Calls Try.prog 30 #[.pointer (some ⟨c, 0, none⟩), .pointer (some ⟨x, 0, none⟩)] w fun e w' => e = .returned (.tuple #[]) ∧
      w' = ((((w.setCell ⟨x, 2, none⟩ (.pointer (some ⟨r, 0, none⟩))).setCell ⟨x, 3, none⟩ (.pointer (some ⟨b, 0, none⟩))).setCell ⟨r, 3, none⟩ (.pointer (some ⟨x, 0, none⟩))).setCell ⟨b, 2, none⟩ (.pointer (some ⟨x, 0, none⟩))).drew.drew := by
  go_enter Try.func30, Try.ntmps30
  go_wp2
  go_region
  go_wp2
  go_region
  go_end0
  exact ⟨rfl, rfl⟩

theorem RingAt.drewSI {w : World} {r : Nat} {l : List (Ent ByteArray Int)} (h : SIRing w r l) : SIRing w.drew r l :=
  h.kept ((Kept.refl (fun _ => False) w).drew) (fun h => h) (fun _ _ h => h)

/-- 'out': the entry goes out of the ring; its own block stays. -/
theorem outSI (w : World) (c r : Nat) (l1 l2 : List (Ent ByteArray Int)) (e : Ent ByteArray Int) (h : SIRing w r (l1 ++ e :: l2)) :
    Calls Try.prog 29 #[.pointer (some ⟨c, 0, none⟩), .pointer (some ⟨e.blk, 0, none⟩)] w fun en w' => en = .returned (.tuple #[]) ∧
      SIRing w' r (l1 ++ l2) ∧ Nd 69 w' e.blk ((Value.string) e.key) ((Value.int .i64) e.val) ∧ Kept (fun k => k = r ∨ k ∈ (l1 ++ l2).map (·.blk)) w w' ∧ w'.heap.size = w.heap.size := by
  obtain ⟨a, b, hax, hxb, hae, hbe, ⟨va, na⟩, ⟨vb, nb⟩, hma, hmb, hring, hnd⟩ := h.out
  refine (out_rawSI w c e.blk a b hae hbe hax.2 hxb.1 _ hax.1 (na.free 3) _ hxb.2 (nb.free 2)).mono fun en w' ⟨he, hw⟩ => ?_
  subst hw
  refine ⟨he, hring.drewSI, hnd.kept ((Kept.refl (fun _ => False) _).drew) (fun h => h), (((Kept.refl _ w).setCell _ _ (fun _ => ?_)).setCell _ _ (fun _ => ?_)).drew, by simp⟩
  · exact List.mem_cons.1 hma
  · exact List.mem_cons.1 hmb

/-- 'first': the entry comes into the ring, ahead of all others. -/
theorem firstSI (w : World) (c r x : Nat) (k : ByteArray) (v : Int) (l : List (Ent ByteArray Int)) (h : SIRing w r l) (hx : Nd 69 w x ((Value.string) k) ((Value.int .i64) v)) (hxl : x ∉ r :: l.map (·.blk)) (hc : w.cell? ⟨c, 2, none⟩ = some (ptr r)) (hcx : c ≠ x) :
    Calls Try.prog 30 #[.pointer (some ⟨c, 0, none⟩), .pointer (some ⟨x, 0, none⟩)] w fun en w' => en = .returned (.tuple #[]) ∧
      SIRing w' r (⟨k, v, x⟩ :: l) ∧ Kept (fun k => k = x ∨ k = r ∨ k ∈ l.map (·.blk)) w w' ∧ w'.heap.size = w.heap.size := by
  obtain ⟨b, hrb, hmb, ⟨vb, hvb⟩, hfb, hrx, hbx, hring⟩ := h.first hx hxl
  obtain ⟨vp, hvp⟩ := hx.cell2
  obtain ⟨vn, hvn⟩ := hx.cell3
  refine (first_rawSI w c x r b hrx hbx hc hcx vp hvp (hx.free 2) vn hvn (hx.free 3) hrb (h.root.free 3) vb hvb hfb).mono fun en w' ⟨he, hw⟩ => ?_
  subst hw
  refine ⟨he, hring.drewSI.drewSI, (((((Kept.refl _ w).setCell _ _ (fun _ => .inl rfl)).setCell _ _ (fun _ => .inl rfl)).setCell _ _ (fun _ => .inr (.inl rfl))).setCell _ _ (fun _ => .inr (List.mem_cons.1 hmb))).drew.drew, by simp⟩

set_option maxHeartbeats 400000 in
theorem dropSI_no (w : World) (c m r room : Nat) (k : ByteArray) (l : List (Ent ByteArray Int)) (h : SICache w c m r room l) (hk : ∀ e ∈ l, e.key ≠ k) :
    Calls Try.prog 23 #[.pointer (some ⟨c, 0, none⟩), (Value.string) k] w fun en w' => en = .returned (.bool false) ∧ w' = w := by
  have c1 : w.cell? ⟨c, 1, none⟩ = some (.map (some m)) := by rw [cell_of h.cb]; rfl
  obtain ⟨ps, ht, hp⟩ := h.tab
  have hlook := ht.look_no (P := Try.prog) Try.underlying66 Try.underlying9 (isKeySI k) (zeroESI w) (fun p hpp => by
    obtain ⟨e, he, rfl⟩ := List.mem_map.1 (hp.mem_iff.1 hpp)
    exact fun e' => hk e he (mkK_injSI e'))
  clear ht hp hk
  go_enter Try.func23, Try.ntmps23
  go_wp2
  go_ret
  exact ⟨rfl, rfl⟩

set_option maxHeartbeats 1000000 in
theorem dropSI_yes (w : World) (c m r room : Nat) (l1 l2 : List (Ent ByteArray Int)) (e : Ent ByteArray Int) (h : SICache w c m r room (l1 ++ e :: l2)) :
    Calls Try.prog 23 #[.pointer (some ⟨c, 0, none⟩), (Value.string) e.key] w fun en w' => en = .returned (.bool true) ∧
      SICache w' c m r room (l1 ++ l2) ∧ Kept (fun k => k = m ∨ k = r ∨ k ∈ (l1 ++ l2).map (·.blk)) w w' ∧ w'.heap.size = w.heap.size ∧ Nd 69 w' e.blk ((Value.string) e.key) ((Value.int .i64) e.val) := by
  have c1 : w.cell? ⟨c, 1, none⟩ = some (.map (some m)) := by rw [cell_of h.cb]; rfl
  obtain ⟨ps, ht, hp⟩ := h.tab
  have hin : ((Value.string) e.key, ptr e.blk) ∈ ps := hp.mem_iff.2 (List.mem_map.2 ⟨e, by simp, rfl⟩)
  have hlook := ht.look_yes (P := Try.prog) Try.underlying66 Try.underlying9 (isKeySI e.key) hin
  have hco := h.c_out (by decide)
  have hmo := h.m_out
  have H := Lib.hid h
  have HT := Lib.hid (And.intro ht (And.intro hp hin))
  have HO := Lib.hid (outSI w c r l1 l2 e h.ring)
  have HC := Lib.hid (And.intro hco hmo)
  clear h ht hp hin hco hmo
  obtain ⟨ek, ev, eb⟩ := e
  simp only at hlook H HT HO HC ⊢
  go_enter Try.func23, Try.ntmps23
  go_wp2_with fail
  refine HO.out.mono ?_
  rintro en w1 ⟨rfl, hring, hnd, hk1, hs1⟩
  have hsub : ∀ b, b ∈ (l1 ++ l2).map (·.blk) → b ∈ (l1 ++ ⟨ek, ev, eb⟩ :: l2).map (·.blk) := by
    intro b hb
    simp only [List.map_append, List.map_cons, List.mem_append, List.mem_cons] at hb ⊢
    rcases hb with hb | hb
    · exact .inl hb
    · exact .inr (.inr hb)
  have hcb : w1.heap[c]? = some (.cells #[.int .i64 room, .map (some m), ptr r] 71 (0, 0)) := hk1.get H.out.cb (fun hx => HC.out.1 (by
    rcases hx with rfl | hx
    · exact List.mem_cons_self ..
    · exact List.mem_cons_of_mem _ (hsub _ hx)))
  have c1' : w1.cell? ⟨c, 1, none⟩ = some (.map (some m)) := by rw [cell_of hcb]; rfl
  have ht1 : Tab (.string) w1 m ps := HT.out.1.kept hk1 (fun hx => HC.out.2.1 (by
    rcases hx with rfl | hx
    · exact List.mem_cons_self ..
    · exact List.mem_cons_of_mem _ (hsub _ hx)))
  obtain ⟨w2, ps', hdel, ht2, hperm, hk2, hs2⟩ := ht1.drop (P := Try.prog) Try.underlying66 Try.underlying9 (isKeySI ek) HT.out.2.2
  have H1 := Lib.hid (And.intro hring (And.intro hnd (And.intro hk1 (And.intro hs1 hcb))))
  have H2 := Lib.hid (And.intro ht2 (And.intro hperm (And.intro hk2 hs2)))
  have HS := Lib.hid hsub
  clear hring hnd hk1 hs1 hcb ht1 ht2 hperm hk2 hs2 hsub
  go_wp2
  go_ret
  obtain ⟨hring, hnd, hk1, hs1, hcb⟩ := H1.out
  obtain ⟨ht2, hperm, hk2, hs2⟩ := H2.out
  have hmr : ¬ (r = m) := fun e => HC.out.2.1 (by rw [e]; exact List.mem_cons_self ..)
  have hml : ∀ b ∈ (l1 ++ l2).map (·.blk), ¬ (b = m) := fun b hb e => HC.out.2.1 (by rw [← e]; exact List.mem_cons_of_mem _ (HS.out b hb))
  refine ⟨rfl, ⟨hk2.get hcb (fun e => HC.out.2.2 e.symm), hring.kept hk2 hmr (fun x hx => hml _ (List.mem_map.2 ⟨x, hx, rfl⟩)), ⟨ps', ht2, ?_⟩, ?_⟩, ?_, hs2.trans hs1, hnd.kept hk2 ?_⟩
  · have h1 := hperm.symm.trans HT.out.2.1
    have h2 : ((l1 ++ (⟨ek, ev, eb⟩ : Ent ByteArray Int) :: l2).map fun e => ((Value.string) e.key, ptr e.blk)).Perm (((Value.string) ek, ptr eb) :: ((l1 ++ l2).map fun e => ((Value.string) e.key, ptr e.blk))) := by
      simp only [List.map_append, List.map_cons]
      exact List.perm_middle
    exact (List.perm_cons _).1 (h1.trans h2)
  · have := H.out.fits
    simp only [List.length_append, List.length_cons] at this ⊢
    omega
  · exact (hk1.mono fun _ _ e => .inr e).trans (hk2.mono fun _ _ e => .inl e)
  · exact fun e => HC.out.2.1 (by rw [← e]; simp)

end Go.Proofs.Ytggpmnhbplmagaa
