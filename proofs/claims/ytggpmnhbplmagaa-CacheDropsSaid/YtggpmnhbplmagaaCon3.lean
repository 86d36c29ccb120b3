/-
  What Put does at a key that is not there, and what New makes; at [int, string] and at [string, int]. Printed by wip/gen/cache_con3.py.
-/
import Derived.Test.YtggpmnhbplmagaaCon2
namespace Go.Proofs.Ytggpmnhbplmagaa
open Go.RowKit Go.Conc

theorem Kept.drewN {S : Nat → Prop} {a b : World} (h : Kept S a b) (n : Nat) : Kept S a (b.drewN n) := ⟨h.os, h.tape, h.output, h.size, h.block⟩

/-! ### at [Int, ByteArray] -/
theorem CacheAt.drewNIS {w : World} {c m r room : Nat} {l : List (Ent Int ByteArray)} (h : ISCache w c m r room l) (n : Nat) : ISCache (w.drewN n) c m r room l :=
  h.kept ((Kept.refl (fun _ => False) w).drewN n) (fun _ _ h => h)

/-- The world behind the first part of Put at a new key: the new entry stands in the map and ahead of all others. -/
theorem placedIS {w w1 w2 : World} {c m r room : Nat} {l : List (Ent Int ByteArray)} {k : Int} {v : ByteArray} {ps : List (Value × Value)} (h : ISCache w c m r room l) (hl : l.length ≤ 65536)
    (hp : ps.Perm (l.map fun e => ((Value.int .i64) e.key, ptr e.blk))) (ht1 : Tab (.int .i64) w1 m (ps ++ [((Value.int .i64) k, ptr w.heap.size)])) (hk1 : Kept (· = m) (w.alloc (.cells #[(Value.int .i64) k, (Value.string) v, .pointer none, .pointer none] 57)) w1)
    (hring : ISRing w2 r (⟨k, v, w.heap.size⟩ :: l)) (hk2 : Kept (fun x => x = w.heap.size ∨ x = r ∨ x ∈ l.map (·.blk)) w1 w2) :
    ISCache w2 c m r room (⟨k, v, w.heap.size⟩ :: l) ∧ Kept (fun x => x = m ∨ x = r ∨ x ∈ l.map (·.blk)) w w2 := by
  have hlt := h.lt
  have hk01 : Kept (fun x => x = m ∨ x = r ∨ x ∈ l.map (·.blk)) w w1 := Kept.step ((Kept.refl _ w).alloc _) hk1 (fun i _ hi => .inl hi)
  have hk02 : Kept (fun x => x = m ∨ x = r ∨ x ∈ l.map (·.blk)) w w2 := hk01.step hk2 (fun i hi hx => by
    rcases hx with hx | hx | hx
    · omega
    · exact .inr (.inl hx)
    · exact .inr (.inr hx))
  have hco := h.c_out (by decide)
  have hmo := h.m_out
  refine ⟨⟨hk02.get h.cb (fun hx => ?_), hring, ⟨_, ht1.kept hk2 (fun hx => ?_), ?_⟩, ?_⟩, hk02⟩
  · rcases hx with hx | hx | hx
    · exact hmo.2 hx.symm
    · exact hco (by rw [hx]; exact List.mem_cons_self ..)
    · exact hco (List.mem_cons_of_mem _ hx)
  · rcases hx with hx | hx | hx
    · have := hlt m (by simp); omega
    · exact hmo.1 (by rw [hx]; exact List.mem_cons_self ..)
    · exact hmo.1 (List.mem_cons_of_mem _ hx)
  · exact List.perm_append_comm.trans (by simpa using hp)
  · have := h.fits
    simp only [List.length_cons]
    omega

/-- What 'first' wants of the new entry. -/
theorem freshIS {w w1 : World} {c m r room : Nat} {l : List (Ent Int ByteArray)} {k : Int} {v : ByteArray} (h : ISCache w c m r room l)
    (hk1 : Kept (· = m) (w.alloc (.cells #[(Value.int .i64) k, (Value.string) v, .pointer none, .pointer none] 57)) w1) :
    ISRing w1 r l ∧ Nd 57 w1 w.heap.size ((Value.int .i64) k) ((Value.string) v) ∧ w.heap.size ∉ r :: l.map (·.blk) ∧ w1.cell? ⟨c, 2, none⟩ = some (ptr r) ∧ c ≠ w.heap.size := by
  have hlt := h.lt
  have hmo := h.m_out
  have hal : Kept (fun _ => False) w (w.alloc (.cells #[(Value.int .i64) k, (Value.string) v, .pointer none, .pointer none] 57)) := (Kept.refl _ w).alloc _
  have hcb : w1.heap[c]? = some (.cells #[.int .i64 room, .map (some m), ptr r] 59 (0, 0)) := hk1.get (hal.get h.cb (fun h => h)) (fun e => hmo.2 e.symm)
  refine ⟨(h.ring.kept hal (fun h => h) (fun _ _ h => h)).kept hk1 (fun e => hmo.1 (by rw [e]; exact List.mem_cons_self ..)) (fun e he e' => hmo.1 (by rw [← e']; exact List.mem_cons_of_mem _ (List.mem_map.2 ⟨e, he, rfl⟩))), ?_, ?_, by rw [cell_of hcb]; rfl, ?_⟩
  · refine ⟨.pointer none, .pointer none, hk1.get (alloc_at _ _) ?_⟩
    have := hlt m (by simp); omega
  · intro hx
    have := hlt w.heap.size (List.mem_cons_of_mem _ (List.mem_cons_of_mem _ hx))
    omega
  · have := hlt c (by simp); omega

set_option maxHeartbeats 1000000 in
theorem putIS_room (w : World) (c m r room : Nat) (l : List (Ent Int ByteArray)) (k : Int) (v : ByteArray) (h : ISCache w c m r room l) (hk : ∀ e ∈ l, e.key ≠ k) (hroom : l.length + 1 ≤ room) :
    Calls Try.prog 14 #[.pointer (some ⟨c, 0, none⟩), (Value.int .i64) k, (Value.string) v] w fun en w' => en = .returned (.tuple #[(.int .i64 0), .bool false]) ∧
      ISCache w' c m r room (⟨k, v, w.heap.size⟩ :: l) ∧ Kept (fun x => x = m ∨ x = r ∨ x ∈ l.map (·.blk)) w w' ∧ w'.heap.size = w.heap.size + 1 := by
  have c1 : w.cell? ⟨c, 1, none⟩ = some (.map (some m)) := by rw [cell_of h.cb]; rfl
  obtain ⟨ps, ht, hp⟩ := h.tab
  have hno : ∀ p ∈ ps, p.1 ≠ (Value.int .i64) k := fun p hpp => by
    obtain ⟨e, he, rfl⟩ := List.mem_map.1 (hp.mem_iff.1 hpp)
    exact fun e' => hk e he (mkK_injIS e')
  have hlook := ht.look_no (P := Try.prog) Try.underlying54 Try.underlying3 (isKeyIS k) (zeroEIS w) hno
  have hlt := h.lt
  have hcm : c < w.heap.size ∧ m < w.heap.size := ⟨hlt c (by simp), hlt m (by simp)⟩
  have ht' : Tab (.int .i64) (w.alloc (.cells #[(Value.int .i64) k, (Value.string) v, .pointer none, .pointer none] 57)) m ps := ht.kept ((Kept.refl (fun _ => False) w).alloc _) (fun h => h)
  obtain ⟨w1, hst, ht1, hk1, hs1⟩ := ht'.store_new (P := Try.prog) Try.underlying54 Try.underlying3 (isKeyIS k) (v := ptr w.heap.size) hno
  have hfr := freshIS h hk1
  have HF := Lib.hid (firstIS w1 c r w.heap.size k v l hfr.1 hfr.2.1 hfr.2.2.1 hfr.2.2.2.1 hfr.2.2.2.2)
  have hfit := h.fits
  have hl : l.length ≤ 65536 := by omega
  have HP := Lib.hid (fun w2 hring hk2 => placedIS (w2 := w2) h hl hp ht1 hk1 hring hk2)
  have HS := Lib.hid hs1
  have HLP := Lib.hid (show ps.length = l.length by simpa using hp.length_eq)
  clear h ht hp hno hk ht' ht1 hk1 hs1 hfr hlt
  have c1' : (w.alloc (.cells #[(Value.int .i64) k, (Value.string) v, .pointer none, .pointer none] 57)).cell? ⟨c, 1, none⟩ = some (.map (some m)) := by
    rw [World.cell?_alloc_lt _ _ _ hcm.1]; exact c1
  go_enter Try.func14, Try.ntmps14
  go_wp2_with fail
  refine HF.out.mono ?_
  rintro en w2 ⟨rfl, hring, hk2, hs2⟩
  obtain ⟨hcache, hkept⟩ := HP.out w2 hring hk2
  have c0' : w2.cell? ⟨c, 0, none⟩ = some (.int .i64 room) := by rw [cell_of hcache.cb]; rfl
  have c1'' : w2.cell? ⟨c, 1, none⟩ = some (.map (some m)) := by rw [cell_of hcache.cb]; rfl
  obtain ⟨n, hn⟩ : ∃ n, n = l.length + 1 := ⟨_, rfl⟩
  have hlen : ∀ i ty, (Builtin.len_ #[54] ty #[.map (some m)]).run Try.prog (w2.drewN i) = .ok (.int .i64 (n : Int)) (w2.drewN i) := fun i ty => by
    obtain ⟨ps2, ht2, hp2⟩ := (hcache.drewNIS i).tab
    have := ht2.len (P := Try.prog) Try.underlying54 ty
    rw [hp2.length_eq] at this
    simpa [hn] using this
  have hle : n ≤ room := by omega
  have H2 := Lib.hid (And.intro hcache (And.intro hkept (And.intro hs2 hn)))
  clear hcache hkept hs2 hn hring hk2 hroom
  go_wp2_with fail
  go_quiet (fail)
  go_wp2
  go_ret2
  exact ⟨rfl, H2.out.1.drewNIS _, H2.out.2.1.drewN _, by have h1 := H2.out.2.2.1; have h2 := HS.out; rw [World.size_alloc] at h2; show w2.heap.size = _; omega⟩

set_option maxHeartbeats 1000000 in
theorem putIS_full (w : World) (c m r room : Nat) (l : List (Ent Int ByteArray)) (e : Ent Int ByteArray) (k : Int) (v : ByteArray) (h : ISCache w c m r room (l ++ [e])) (hk : ∀ x ∈ l ++ [e], x.key ≠ k) (hroom : l.length + 1 = room) :
    Calls Try.prog 14 #[.pointer (some ⟨c, 0, none⟩), (Value.int .i64) k, (Value.string) v] w fun en w' => en = .returned (.tuple #[(Value.int .i64) e.key, .bool true]) ∧
      ISCache w' c m r room (⟨k, v, w.heap.size⟩ :: l) ∧ Kept (fun x => x = m ∨ x = r ∨ x ∈ (l ++ [e]).map (·.blk)) w w' ∧ w'.heap.size = w.heap.size + 1 := by
  have c1 : w.cell? ⟨c, 1, none⟩ = some (.map (some m)) := by rw [cell_of h.cb]; rfl
  obtain ⟨ps, ht, hp⟩ := h.tab
  have hno : ∀ p ∈ ps, p.1 ≠ (Value.int .i64) k := fun p hpp => by
    obtain ⟨e, he, rfl⟩ := List.mem_map.1 (hp.mem_iff.1 hpp)
    exact fun e' => hk e he (mkK_injIS e')
  have hlook := ht.look_no (P := Try.prog) Try.underlying54 Try.underlying3 (isKeyIS k) (zeroEIS w) hno
  have hlt := h.lt
  have hcm : c < w.heap.size ∧ m < w.heap.size := ⟨hlt c (by simp), hlt m (by simp)⟩
  have ht' : Tab (.int .i64) (w.alloc (.cells #[(Value.int .i64) k, (Value.string) v, .pointer none, .pointer none] 57)) m ps := ht.kept ((Kept.refl (fun _ => False) w).alloc _) (fun h => h)
  obtain ⟨w1, hst, ht1, hk1, hs1⟩ := ht'.store_new (P := Try.prog) Try.underlying54 Try.underlying3 (isKeyIS k) (v := ptr w.heap.size) hno
  have hfr := freshIS h hk1
  have HF := Lib.hid (firstIS w1 c r w.heap.size k v (l ++ [e]) hfr.1 hfr.2.1 hfr.2.2.1 hfr.2.2.2.1 hfr.2.2.2.2)
  have hfit := h.fits
  have hl : (l ++ [e]).length ≤ 65536 := by simp only [List.length_append, List.length_cons, List.length_nil]; omega
  have HP := Lib.hid (fun w2 hring hk2 => placedIS (w2 := w2) h hl hp ht1 hk1 hring hk2)
  have HS := Lib.hid hs1
  clear h ht hp hno hk ht' ht1 hk1 hs1 hfr hlt hl
  have c1' : (w.alloc (.cells #[(Value.int .i64) k, (Value.string) v, .pointer none, .pointer none] 57)).cell? ⟨c, 1, none⟩ = some (.map (some m)) := by
    rw [World.cell?_alloc_lt _ _ _ hcm.1]; exact c1
  obtain ⟨ek, ev, eb⟩ := e
  simp only at HF HP ⊢
  go_enter Try.func14, Try.ntmps14
  go_wp2_with fail
  refine HF.out.mono ?_
  rintro en w2 ⟨rfl, hring, hk2, hs2⟩
  obtain ⟨hcache, hkept⟩ := HP.out w2 hring hk2
  have c0' : w2.cell? ⟨c, 0, none⟩ = some (.int .i64 room) := by rw [cell_of hcache.cb]; rfl
  have c1'' : w2.cell? ⟨c, 1, none⟩ = some (.map (some m)) := by rw [cell_of hcache.cb]; rfl
  have c2'' : w2.cell? ⟨c, 2, none⟩ = some (ptr r) := by rw [cell_of hcache.cb]; rfl
  have e1 : (⟨k, v, w.heap.size⟩ : Ent Int ByteArray) :: (l ++ [⟨ek, ev, eb⟩]) = (⟨k, v, w.heap.size⟩ :: l) ++ [⟨ek, ev, eb⟩] := rfl
  rw [e1] at hcache
  have r2 : w2.cell? ⟨r, 2, none⟩ = some (ptr eb) := hcache.ring.last
  have k0 : w2.cell? ⟨eb, 0, none⟩ = some ((Value.int .i64) ek) := (hcache.ring.nodes ⟨ek, ev, eb⟩ (by simp)).cell0
  obtain ⟨n, hn⟩ : ∃ n, n = l.length + 2 := ⟨_, rfl⟩
  have hlen : ∀ i ty, (Builtin.len_ #[54] ty #[.map (some m)]).run Try.prog (w2.drewN i) = .ok (.int .i64 (n : Int)) (w2.drewN i) := fun i ty => by
    obtain ⟨ps2, ht2, hp2⟩ := (hcache.drewNIS i).tab
    have := ht2.len (P := Try.prog) Try.underlying54 ty
    rw [hp2.length_eq] at this
    rw [this]
    simp only [List.length_map, List.length_append, List.length_cons, List.length_nil, hn]
  have hle : room < n := by omega
  have HD := Lib.hid (fun i => dropIS_yes (w2.drewN i) c m r room (⟨k, v, w.heap.size⟩ :: l) [] ⟨ek, ev, eb⟩ (hcache.drewNIS i))
  have H2 := Lib.hid (And.intro hcache (And.intro hkept (And.intro hs2 hn)))
  clear hcache hkept hs2 hn hring hk2 hroom e1
  go_wp2_with fail
  go_quiet (fail)
  go_wp2_with fail
  refine (HD.out _).mono ?_
  rintro en w3 ⟨rfl, hcache3, hk3, hs3, hnd3⟩
  have k0' : w3.cell? ⟨eb, 0, none⟩ = some ((Value.int .i64) ek) := hnd3.cell0
  have H3 := Lib.hid (And.intro hcache3 (And.intro hk3 hs3))
  clear hcache3 hk3 hs3 hnd3
  go_wp2
  go_ret2
  obtain ⟨hcache, hkept, hs2, hn⟩ := H2.out
  obtain ⟨hcache3, hk3, hs3⟩ := H3.out
  refine ⟨rfl, by simpa using hcache3, (hkept.drewN _).step hk3 (fun i hi hx => ?_), ?_⟩
  · simp only [List.append_nil, List.map_cons, List.mem_cons] at hx
    rcases hx with hx | hx | hx | hx
    · exact .inl hx
    · exact .inr (.inl hx)
    · omega
    · exact .inr (.inr (by simp only [List.map_append, List.mem_append]; exact .inl hx))
  · have h2 := HS.out
    rw [World.size_alloc] at h2
    have h3 : w3.heap.size = w2.heap.size := hs3
    omega

/-! ### at [ByteArray, Int] -/
theorem CacheAt.drewNSI {w : World} {c m r room : Nat} {l : List (Ent ByteArray Int)} (h : SICache w c m r room l) (n : Nat) : SICache (w.drewN n) c m r room l :=
  h.kept ((Kept.refl (fun _ => False) w).drewN n) (fun _ _ h => h)

/-- The world behind the first part of Put at a new key: the new entry stands in the map and ahead of all others. -/
theorem placedSI {w w1 w2 : World} {c m r room : Nat} {l : List (Ent ByteArray Int)} {k : ByteArray} {v : Int} {ps : List (Value × Value)} (h : SICache w c m r room l) (hl : l.length ≤ 65536)
    (hp : ps.Perm (l.map fun e => ((Value.string) e.key, ptr e.blk))) (ht1 : Tab (.string) w1 m (ps ++ [((Value.string) k, ptr w.heap.size)])) (hk1 : Kept (· = m) (w.alloc (.cells #[(Value.string) k, (Value.int .i64) v, .pointer none, .pointer none] 69)) w1)
    (hring : SIRing w2 r (⟨k, v, w.heap.size⟩ :: l)) (hk2 : Kept (fun x => x = w.heap.size ∨ x = r ∨ x ∈ l.map (·.blk)) w1 w2) :
    SICache w2 c m r room (⟨k, v, w.heap.size⟩ :: l) ∧ Kept (fun x => x = m ∨ x = r ∨ x ∈ l.map (·.blk)) w w2 := by
  have hlt := h.lt
  have hk01 : Kept (fun x => x = m ∨ x = r ∨ x ∈ l.map (·.blk)) w w1 := Kept.step ((Kept.refl _ w).alloc _) hk1 (fun i _ hi => .inl hi)
  have hk02 : Kept (fun x => x = m ∨ x = r ∨ x ∈ l.map (·.blk)) w w2 := hk01.step hk2 (fun i hi hx => by
    rcases hx with hx | hx | hx
    · omega
    · exact .inr (.inl hx)
    · exact .inr (.inr hx))
  have hco := h.c_out (by decide)
  have hmo := h.m_out
  refine ⟨⟨hk02.get h.cb (fun hx => ?_), hring, ⟨_, ht1.kept hk2 (fun hx => ?_), ?_⟩, ?_⟩, hk02⟩
  · rcases hx with hx | hx | hx
    · exact hmo.2 hx.symm
    · exact hco (by rw [hx]; exact List.mem_cons_self ..)
    · exact hco (List.mem_cons_of_mem _ hx)
  · rcases hx with hx | hx | hx
    · have := hlt m (by simp); omega
    · exact hmo.1 (by rw [hx]; exact List.mem_cons_self ..)
    · exact hmo.1 (List.mem_cons_of_mem _ hx)
  · exact List.perm_append_comm.trans (by simpa using hp)
  · have := h.fits
    simp only [List.length_cons]
    omega

/-- What 'first' wants of the new entry. -/
theorem freshSI {w w1 : World} {c m r room : Nat} {l : List (Ent ByteArray Int)} {k : ByteArray} {v : Int} (h : SICache w c m r room l)
    (hk1 : Kept (· = m) (w.alloc (.cells #[(Value.string) k, (Value.int .i64) v, .pointer none, .pointer none] 69)) w1) :
    SIRing w1 r l ∧ Nd 69 w1 w.heap.size ((Value.string) k) ((Value.int .i64) v) ∧ w.heap.size ∉ r :: l.map (·.blk) ∧ w1.cell? ⟨c, 2, none⟩ = some (ptr r) ∧ c ≠ w.heap.size := by
  have hlt := h.lt
  have hmo := h.m_out
  have hal : Kept (fun _ => False) w (w.alloc (.cells #[(Value.string) k, (Value.int .i64) v, .pointer none, .pointer none] 69)) := (Kept.refl _ w).alloc _
  have hcb : w1.heap[c]? = some (.cells #[.int .i64 room, .map (some m), ptr r] 71 (0, 0)) := hk1.get (hal.get h.cb (fun h => h)) (fun e => hmo.2 e.symm)
  refine ⟨(h.ring.kept hal (fun h => h) (fun _ _ h => h)).kept hk1 (fun e => hmo.1 (by rw [e]; exact List.mem_cons_self ..)) (fun e he e' => hmo.1 (by rw [← e']; exact List.mem_cons_of_mem _ (List.mem_map.2 ⟨e, he, rfl⟩))), ?_, ?_, by rw [cell_of hcb]; rfl, ?_⟩
  · refine ⟨.pointer none, .pointer none, hk1.get (alloc_at _ _) ?_⟩
    have := hlt m (by simp); omega
  · intro hx
    have := hlt w.heap.size (List.mem_cons_of_mem _ (List.mem_cons_of_mem _ hx))
    omega
  · have := hlt c (by simp); omega

set_option maxHeartbeats 1000000 in
theorem putSI_room (w : World) (c m r room : Nat) (l : List (Ent ByteArray Int)) (k : ByteArray) (v : Int) (h : SICache w c m r room l) (hk : ∀ e ∈ l, e.key ≠ k) (hroom : l.length + 1 ≤ room) :
    Calls Try.prog 22 #[.pointer (some ⟨c, 0, none⟩), (Value.string) k, (Value.int .i64) v] w fun en w' => en = .returned (.tuple #[(.string ⟨#[]⟩), .bool false]) ∧
      SICache w' c m r room (⟨k, v, w.heap.size⟩ :: l) ∧ Kept (fun x => x = m ∨ x = r ∨ x ∈ l.map (·.blk)) w w' ∧ w'.heap.size = w.heap.size + 1 := by
  have c1 : w.cell? ⟨c, 1, none⟩ = some (.map (some m)) := by rw [cell_of h.cb]; rfl
  obtain ⟨ps, ht, hp⟩ := h.tab
  have hno : ∀ p ∈ ps, p.1 ≠ (Value.string) k := fun p hpp => by
    obtain ⟨e, he, rfl⟩ := List.mem_map.1 (hp.mem_iff.1 hpp)
    exact fun e' => hk e he (mkK_injSI e')
  have hlook := ht.look_no (P := Try.prog) Try.underlying66 Try.underlying9 (isKeySI k) (zeroESI w) hno
  have hlt := h.lt
  have hcm : c < w.heap.size ∧ m < w.heap.size := ⟨hlt c (by simp), hlt m (by simp)⟩
  have ht' : Tab (.string) (w.alloc (.cells #[(Value.string) k, (Value.int .i64) v, .pointer none, .pointer none] 69)) m ps := ht.kept ((Kept.refl (fun _ => False) w).alloc _) (fun h => h)
  obtain ⟨w1, hst, ht1, hk1, hs1⟩ := ht'.store_new (P := Try.prog) Try.underlying66 Try.underlying9 (isKeySI k) (v := ptr w.heap.size) hno
  have hfr := freshSI h hk1
  have HF := Lib.hid (firstSI w1 c r w.heap.size k v l hfr.1 hfr.2.1 hfr.2.2.1 hfr.2.2.2.1 hfr.2.2.2.2)
  have hfit := h.fits
  have hl : l.length ≤ 65536 := by omega
  have HP := Lib.hid (fun w2 hring hk2 => placedSI (w2 := w2) h hl hp ht1 hk1 hring hk2)
  have HS := Lib.hid hs1
  have HLP := Lib.hid (show ps.length = l.length by simpa using hp.length_eq)
  clear h ht hp hno hk ht' ht1 hk1 hs1 hfr hlt
  have c1' : (w.alloc (.cells #[(Value.string) k, (Value.int .i64) v, .pointer none, .pointer none] 69)).cell? ⟨c, 1, none⟩ = some (.map (some m)) := by
    rw [World.cell?_alloc_lt _ _ _ hcm.1]; exact c1
  go_enter Try.func22, Try.ntmps22
  go_wp2_with fail
  refine HF.out.mono ?_
  rintro en w2 ⟨rfl, hring, hk2, hs2⟩
  obtain ⟨hcache, hkept⟩ := HP.out w2 hring hk2
  have c0' : w2.cell? ⟨c, 0, none⟩ = some (.int .i64 room) := by rw [cell_of hcache.cb]; rfl
  have c1'' : w2.cell? ⟨c, 1, none⟩ = some (.map (some m)) := by rw [cell_of hcache.cb]; rfl
  obtain ⟨n, hn⟩ : ∃ n, n = l.length + 1 := ⟨_, rfl⟩
  have hlen : ∀ i ty, (Builtin.len_ #[66] ty #[.map (some m)]).run Try.prog (w2.drewN i) = .ok (.int .i64 (n : Int)) (w2.drewN i) := fun i ty => by
    obtain ⟨ps2, ht2, hp2⟩ := (hcache.drewNSI i).tab
    have := ht2.len (P := Try.prog) Try.underlying66 ty
    rw [hp2.length_eq] at this
    simpa [hn] using this
  have hle : n ≤ room := by omega
  have H2 := Lib.hid (And.intro hcache (And.intro hkept (And.intro hs2 hn)))
  clear hcache hkept hs2 hn hring hk2 hroom
  go_wp2_with fail
  go_quiet (fail)
  go_wp2
  go_ret2
  exact ⟨rfl, H2.out.1.drewNSI _, H2.out.2.1.drewN _, by have h1 := H2.out.2.2.1; have h2 := HS.out; rw [World.size_alloc] at h2; show w2.heap.size = _; omega⟩

set_option maxHeartbeats 1000000 in
theorem putSI_full (w : World) (c m r room : Nat) (l : List (Ent ByteArray Int)) (e : Ent ByteArray Int) (k : ByteArray) (v : Int) (h : SICache w c m r room (l ++ [e])) (hk : ∀ x ∈ l ++ [e], x.key ≠ k) (hroom : l.length + 1 = room) :
    Calls Try.prog 22 #[.pointer (some ⟨c, 0, none⟩), (Value.string) k, (Value.int .i64) v] w fun en w' => en = .returned (.tuple #[(Value.string) e.key, .bool true]) ∧
      SICache w' c m r room (⟨k, v, w.heap.size⟩ :: l) ∧ Kept (fun x => x = m ∨ x = r ∨ x ∈ (l ++ [e]).map (·.blk)) w w' ∧ w'.heap.size = w.heap.size + 1 := by
  have c1 : w.cell? ⟨c, 1, none⟩ = some (.map (some m)) := by rw [cell_of h.cb]; rfl
  obtain ⟨ps, ht, hp⟩ := h.tab
  have hno : ∀ p ∈ ps, p.1 ≠ (Value.string) k := fun p hpp => by
    obtain ⟨e, he, rfl⟩ := List.mem_map.1 (hp.mem_iff.1 hpp)
    exact fun e' => hk e he (mkK_injSI e')
  have hlook := ht.look_no (P := Try.prog) Try.underlying66 Try.underlying9 (isKeySI k) (zeroESI w) hno
  have hlt := h.lt
  have hcm : c < w.heap.size ∧ m < w.heap.size := ⟨hlt c (by simp), hlt m (by simp)⟩
  have ht' : Tab (.string) (w.alloc (.cells #[(Value.string) k, (Value.int .i64) v, .pointer none, .pointer none] 69)) m ps := ht.kept ((Kept.refl (fun _ => False) w).alloc _) (fun h => h)
  obtain ⟨w1, hst, ht1, hk1, hs1⟩ := ht'.store_new (P := Try.prog) Try.underlying66 Try.underlying9 (isKeySI k) (v := ptr w.heap.size) hno
  have hfr := freshSI h hk1
  have HF := Lib.hid (firstSI w1 c r w.heap.size k v (l ++ [e]) hfr.1 hfr.2.1 hfr.2.2.1 hfr.2.2.2.1 hfr.2.2.2.2)
  have hfit := h.fits
  have hl : (l ++ [e]).length ≤ 65536 := by simp only [List.length_append, List.length_cons, List.length_nil]; omega
  have HP := Lib.hid (fun w2 hring hk2 => placedSI (w2 := w2) h hl hp ht1 hk1 hring hk2)
  have HS := Lib.hid hs1
  clear h ht hp hno hk ht' ht1 hk1 hs1 hfr hlt hl
  have c1' : (w.alloc (.cells #[(Value.string) k, (Value.int .i64) v, .pointer none, .pointer none] 69)).cell? ⟨c, 1, none⟩ = some (.map (some m)) := by
    rw [World.cell?_alloc_lt _ _ _ hcm.1]; exact c1
  obtain ⟨ek, ev, eb⟩ := e
  simp only at HF HP ⊢
  go_enter Try.func22, Try.ntmps22
  go_wp2_with fail
  refine HF.out.mono ?_
  rintro en w2 ⟨rfl, hring, hk2, hs2⟩
  obtain ⟨hcache, hkept⟩ := HP.out w2 hring hk2
  have c0' : w2.cell? ⟨c, 0, none⟩ = some (.int .i64 room) := by rw [cell_of hcache.cb]; rfl
  have c1'' : w2.cell? ⟨c, 1, none⟩ = some (.map (some m)) := by rw [cell_of hcache.cb]; rfl
  have c2'' : w2.cell? ⟨c, 2, none⟩ = some (ptr r) := by rw [cell_of hcache.cb]; rfl
  have e1 : (⟨k, v, w.heap.size⟩ : Ent ByteArray Int) :: (l ++ [⟨ek, ev, eb⟩]) = (⟨k, v, w.heap.size⟩ :: l) ++ [⟨ek, ev, eb⟩] := rfl
  rw [e1] at hcache
  have r2 : w2.cell? ⟨r, 2, none⟩ = some (ptr eb) := hcache.ring.last
  have k0 : w2.cell? ⟨eb, 0, none⟩ = some ((Value.string) ek) := (hcache.ring.nodes ⟨ek, ev, eb⟩ (by simp)).cell0
  obtain ⟨n, hn⟩ : ∃ n, n = l.length + 2 := ⟨_, rfl⟩
  have hlen : ∀ i ty, (Builtin.len_ #[66] ty #[.map (some m)]).run Try.prog (w2.drewN i) = .ok (.int .i64 (n : Int)) (w2.drewN i) := fun i ty => by
    obtain ⟨ps2, ht2, hp2⟩ := (hcache.drewNSI i).tab
    have := ht2.len (P := Try.prog) Try.underlying66 ty
    rw [hp2.length_eq] at this
    rw [this]
    simp only [List.length_map, List.length_append, List.length_cons, List.length_nil, hn]
  have hle : room < n := by omega
  have HD := Lib.hid (fun i => dropSI_yes (w2.drewN i) c m r room (⟨k, v, w.heap.size⟩ :: l) [] ⟨ek, ev, eb⟩ (hcache.drewNSI i))
  have H2 := Lib.hid (And.intro hcache (And.intro hkept (And.intro hs2 hn)))
  clear hcache hkept hs2 hn hring hk2 hroom e1
  go_wp2_with fail
  go_quiet (fail)
  go_wp2_with fail
  refine (HD.out _).mono ?_
  rintro en w3 ⟨rfl, hcache3, hk3, hs3, hnd3⟩
  have k0' : w3.cell? ⟨eb, 0, none⟩ = some ((Value.string) ek) := hnd3.cell0
  have H3 := Lib.hid (And.intro hcache3 (And.intro hk3 hs3))
  clear hcache3 hk3 hs3 hnd3
  go_wp2
  go_ret2
  obtain ⟨hcache, hkept, hs2, hn⟩ := H2.out
  obtain ⟨hcache3, hk3, hs3⟩ := H3.out
  refine ⟨rfl, by simpa using hcache3, (hkept.drewN _).step hk3 (fun i hi hx => ?_), ?_⟩
  · simp only [List.append_nil, List.map_cons, List.mem_cons] at hx
    rcases hx with hx | hx | hx | hx
    · exact .inl hx
    · exact .inr (.inl hx)
    · omega
    · exact .inr (.inr (by simp only [List.map_append, List.mem_append]; exact .inl hx))
  · have h2 := HS.out
    rw [World.size_alloc] at h2
    have h3 : w3.heap.size = w2.heap.size := hs3
    omega

end Go.Proofs.Ytggpmnhbplmagaa
