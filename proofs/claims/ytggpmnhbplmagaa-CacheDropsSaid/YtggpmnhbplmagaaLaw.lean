/-
  The calls of package cache, in the words of the plain model; at [int, string] and at [string, int]. Printed by wip/gen/cache_law.py.
-/
import Derived.Test.YtggpmnhbplmagaaSame
import Derived.Test.YtggpmnhbplmagaaModel
namespace Go.Proofs.Ytggpmnhbplmagaa
open Go.RowKit Go.Conc

/-- The value of what a look-up finds, or the zero value. -/
def orZero {α : Type} (mk : α → Value) (zero : Value) : Option α → Value
  | some a => mk a
  | none => zero

section
variable {K V : Type}
def kv (e : Ent K V) : K × V := (e.key, e.val)

theorem split_kv [DecidableEq K] {k : K} {v : V} : ∀ {l : List (Ent K V)}, look k (l.map kv) = some v → ∃ l1 e l2, l = l1 ++ e :: l2 ∧ e.key = k ∧ e.val = v
  | [], h => by simp [look] at h
  | e :: l, h => by
    simp only [List.map_cons, look] at h
    split at h
    · rename_i hq
      exact ⟨[], e, l, rfl, hq, by simpa [kv] using h⟩
    · obtain ⟨l1, e', l2, rfl, h1, h2⟩ := split_kv h
      exact ⟨e :: l1, e', l2, rfl, h1, h2⟩
end

/-! ### at [Int, ByteArray] -/
/-- A cache at c: its room, its blocks, its things. -/
def ISIs (w : World) (c room : Nat) (own : List Nat) (L : List (Int × ByteArray)) : Prop :=
  ∃ m r l, ISCache w c m r room l ∧ own = c :: m :: r :: l.map (·.blk) ∧ L = l.map kv ∧ L.length ≤ room ∧ 1 ≤ room ∧ room ≤ 65536

/-- What a call on a cache may do: its own blocks, and new ones. -/
def ISTurn (w w' : World) (c room : Nat) (own : List Nat) (L : List (Int × ByteArray)) : Prop :=
  ∃ own', ISIs w' c room own' L ∧ (∀ b ∈ own', b ∈ own ∨ w.heap.size ≤ b) ∧ Kept (· ∈ own) w w'

theorem ISIs.nodup {w : World} {c room : Nat} {own : List Nat} {L : List (Int × ByteArray)} (h : ISIs w c room own L) : (L.map (·.1)).Nodup := by
  obtain ⟨m, r, l, hc, rfl, rfl, _⟩ := h
  have := hc.nodup
  rw [List.map_map]
  have e : (l.map fun e => (Value.int .i64) e.key) = (l.map ((·.1) ∘ kv)).map (Value.int .i64) := by rw [List.map_map]; rfl
  rw [e] at this
  exact List.Pairwise.of_map (Value.int .i64) (fun a b h e => h (by rw [e])) this

theorem ISIs.kept {w w' : World} {c room : Nat} {own : List Nat} {L : List (Int × ByteArray)} {S : Nat → Prop} (h : ISIs w c room own L) (k : Kept S w w') (hs : ∀ b ∈ own, ¬ S b) : ISIs w' c room own L := by
  obtain ⟨m, r, l, hc, rfl, rest⟩ := h
  exact ⟨m, r, l, hc.kept k hs, rfl, rest⟩

theorem ISIs.lt {w : World} {c room : Nat} {own : List Nat} {L : List (Int × ByteArray)} (h : ISIs w c room own L) : ∀ b ∈ own, b < w.heap.size := by
  obtain ⟨m, r, l, hc, rfl, _⟩ := h
  exact hc.lt

theorem ISTurn.refl {w : World} {c room : Nat} {own : List Nat} {L : List (Int × ByteArray)} (h : ISIs w c room own L) : ISTurn w w c room own L :=
  ⟨own, h, fun _ hb => .inl hb, Kept.refl _ _⟩

theorem lawNewIS (n : Int) (h1 : 1 ≤ n) (h2 : n ≤ 65536) (w : World) :
    Calls Try.prog 9 #[.int .i64 n] w fun e w' => e = .returned (.tuple #[.pointer (some ⟨w.heap.size + 2, 0, none⟩), .int .i64 0]) ∧
      (∃ own, ISIs w' (w.heap.size + 2) n.toNat own [] ∧ ∀ b ∈ own, w.heap.size ≤ b) ∧ Below w.heap.size w w' ∧ w'.heap.size = w.heap.size + 3 :=
  (newIS n h1 h2 w).mono fun _ _ ⟨he, hc, hb, hs⟩ => ⟨he, ⟨_, ⟨_, _, _, hc, rfl, rfl, by simp, by omega, by omega⟩, by simp⟩, hb, hs⟩

theorem lawGetIS (w : World) (c room : Nat) (own : List Nat) (L : List (Int × ByteArray)) (k : Int) (h : ISIs w c room own L) :
    Calls Try.prog 12 #[.pointer (some ⟨c, 0, none⟩), (Value.int .i64) k] w fun e w' => e = .returned (.tuple #[orZero (Value.string) (.string ⟨#[]⟩) (look k L), .bool (look k L).isSome]) ∧ ISTurn w w' c room own (used k L) := by
  have hnd := h.nodup
  have h' := h
  obtain ⟨m, r, l, hc, rfl, rfl, hlen, h1, h2⟩ := h
  cases hk : look k (l.map kv) with
  | none =>
    have hno := look_none hk
    refine (getIS_no w c m r room k l hc (fun e he => hno (kv e) (List.mem_map.2 ⟨e, he, rfl⟩))).mono fun e w' ⟨he, hw⟩ => ?_
    subst hw
    refine ⟨he, ?_⟩
    simp only [used, hk]
    exact .refl h'
  | some v =>
    obtain ⟨l1, e, l2, rfl, rfl, rfl⟩ := split_kv hk
    refine (getIS_yes w c m r room l1 l2 e hc).mono fun en w' ⟨he, hm⟩ => ?_
    refine ⟨he, ?_⟩
    have hw : used e.key ((l1 ++ e :: l2).map kv) = (e.key, e.val) :: (l1 ++ l2).map kv := by
      simp only [used, hk]
      rw [List.map_append, List.map_cons] at hnd ⊢
      obtain ⟨n1, n2⟩ := nodup_split hnd
      rw [show kv e = (e.key, e.val) from rfl, without_split n1 n2, List.map_append]
    rw [hw]
    refine ⟨c :: m :: r :: e.blk :: (l1 ++ l2).map (·.blk), ⟨m, r, _, hm.cache, rfl, rfl, ?_, h1, h2⟩, ?_, hm.kept.mono fun i _ hi => ?_⟩
    · simp only [List.length_map, List.length_append, List.length_cons] at hlen ⊢; omega
    · intro b hb
      simp only [List.map_append, List.map_cons, List.mem_append, List.mem_cons] at hb ⊢
      rcases hb with hb | hb | hb | hb | hb | hb <;> simp [hb]
    · simp only [List.map_append, List.map_cons, List.mem_append, List.mem_cons] at hi ⊢
      rcases hi with hb | hb | hb | hb <;> simp [hb]

theorem lawDropIS (w : World) (c room : Nat) (own : List Nat) (L : List (Int × ByteArray)) (k : Int) (h : ISIs w c room own L) :
    Calls Try.prog 16 #[.pointer (some ⟨c, 0, none⟩), (Value.int .i64) k] w fun e w' => e = .returned (.bool (look k L).isSome) ∧ ISTurn w w' c room own (without k L) := by
  have hnd := h.nodup
  have h' := h
  obtain ⟨m, r, l, hc, rfl, rfl, hlen, h1, h2⟩ := h
  cases hk : look k (l.map kv) with
  | none =>
    have hno := look_none hk
    refine (dropIS_no w c m r room k l hc (fun e he => hno (kv e) (List.mem_map.2 ⟨e, he, rfl⟩))).mono fun e w' ⟨he, hw⟩ => ?_
    subst hw
    refine ⟨he, ?_⟩
    rw [without_none hno]
    exact .refl h'
  | some v =>
    obtain ⟨l1, e, l2, rfl, rfl, rfl⟩ := split_kv hk
    refine (dropIS_yes w c m r room l1 l2 e hc).mono fun en w' ⟨he, hm, hkept, _, _⟩ => ?_
    refine ⟨he, ?_⟩
    have hw : without e.key ((l1 ++ e :: l2).map kv) = (l1 ++ l2).map kv := by
      rw [List.map_append, List.map_cons] at hnd ⊢
      obtain ⟨n1, n2⟩ := nodup_split hnd
      rw [show kv e = (e.key, e.val) from rfl, without_split n1 n2, List.map_append]
    rw [hw]
    refine ⟨c :: m :: r :: (l1 ++ l2).map (·.blk), ⟨m, r, _, hm, rfl, rfl, ?_, h1, h2⟩, ?_, hkept.mono fun i _ hi => ?_⟩
    · simp only [List.length_map, List.length_append, List.length_cons] at hlen ⊢; omega
    · intro b hb
      simp only [List.map_append, List.map_cons, List.mem_append, List.mem_cons] at hb ⊢
      rcases hb with hb | hb | hb | hb | hb <;> simp [hb]
    · simp only [List.map_append, List.map_cons, List.mem_append, List.mem_cons] at hi ⊢
      rcases hi with hb | hb | hb | hb <;> simp [hb]

theorem lawPutIS (w : World) (c room : Nat) (own : List Nat) (L : List (Int × ByteArray)) (k : Int) (v : ByteArray) (h : ISIs w c room own L) :
    Calls Try.prog 14 #[.pointer (some ⟨c, 0, none⟩), (Value.int .i64) k, (Value.string) v] w fun e w' => e = .returned (.tuple #[orZero (Value.int .i64) (.int .i64 0) (goes room k L), .bool (goes room k L).isSome]) ∧ ISTurn w w' c room own (putIn room k v L) := by
  have hnd := h.nodup
  obtain ⟨m, r, l, hc, rfl, rfl, hlen, h1, h2⟩ := h
  cases hk : look k (l.map kv) with
  | none =>
    have hno := look_none hk
    have hno' : ∀ e ∈ l, e.key ≠ k := fun e he => hno (kv e) (List.mem_map.2 ⟨e, he, rfl⟩)
    rw [List.length_map] at hlen
    by_cases hroom : l.length + 1 ≤ room
    · refine (putIS_room w c m r room l k v hc hno' hroom).mono fun en w' ⟨he, hm, hkept, _⟩ => ?_
      simp only [goes, putIn, hk, List.length_map, hroom, if_true]
      refine ⟨he, c :: m :: r :: w.heap.size :: l.map (·.blk), ⟨m, r, _, hm, rfl, rfl, ?_, h1, h2⟩, ?_, hkept.mono fun i _ hi => ?_⟩
      · simp only [List.length_map, List.length_cons]; omega
      · intro b hb
        simp only [List.mem_cons] at hb ⊢
        rcases hb with hb | hb | hb | hb | hb <;> simp [hb]
      · simp only [List.mem_cons] at hi ⊢
        rcases hi with hb | hb | hb <;> simp [hb]
    · obtain ⟨l0, e, rfl⟩ : ∃ l0 e, l = l0 ++ [e] := by
        rcases List.eq_nil_or_concat l with rfl | ⟨l0, e, rfl⟩
        · simp at hroom; omega
        · exact ⟨l0, e, by simp⟩
      simp only [List.length_append, List.length_cons, List.length_nil] at hlen hroom
      refine (putIS_full w c m r room l0 e k v hc hno' (by omega)).mono fun en w' ⟨he, hm, hkept, _⟩ => ?_
      have hr : ¬ ((l0 ++ [e]).map kv).length + 1 ≤ room := by simp; omega
      simp only [goes, putIn, hk, hr, if_false]
      have e1 : (((l0 ++ [e]).map kv).getLast?.map (·.1)) = some e.key := by simp [kv]
      have e2 : ((l0 ++ [e]).map kv).dropLast = l0.map kv := by simp
      rw [e1, e2]
      refine ⟨he, c :: m :: r :: w.heap.size :: l0.map (·.blk), ⟨m, r, _, hm, rfl, rfl, ?_, h1, h2⟩, ?_, hkept.mono fun i _ hi => ?_⟩
      · simp only [List.length_map, List.length_cons]; omega
      · intro b hb
        simp only [List.map_append, List.map_cons, List.mem_append, List.mem_cons] at hb ⊢
        rcases hb with hb | hb | hb | hb | hb <;> simp [hb]
      · simp only [List.mem_cons] at hi ⊢
        rcases hi with hb | hb | hb
        · simp [hb]
        · simp [hb]
        · exact .inr (.inr (.inr hb))
  | some v0 =>
    obtain ⟨l1, e, l2, rfl, rfl, rfl⟩ := split_kv hk
    refine (putIS_old w c m r room l1 l2 e v hc).mono fun en w' ⟨he, hm⟩ => ?_
    have hw : putIn room e.key v ((l1 ++ e :: l2).map kv) = (e.key, v) :: (l1 ++ l2).map kv := by
      simp only [putIn, hk]
      rw [List.map_append, List.map_cons] at hnd ⊢
      obtain ⟨n1, n2⟩ := nodup_split hnd
      rw [show kv e = (e.key, e.val) from rfl, without_split n1 n2, List.map_append]
    rw [hw]
    simp only [goes, hk]
    refine ⟨he, c :: m :: r :: e.blk :: (l1 ++ l2).map (·.blk), ⟨m, r, _, hm.cache, rfl, rfl, ?_, h1, h2⟩, ?_, hm.kept.mono fun i _ hi => ?_⟩
    · simp only [List.length_map, List.length_append, List.length_cons] at hlen ⊢; omega
    · intro b hb
      simp only [List.map_append, List.map_cons, List.mem_append, List.mem_cons] at hb ⊢
      rcases hb with hb | hb | hb | hb | hb | hb <;> simp [hb]
    · simp only [List.map_append, List.map_cons, List.mem_append, List.mem_cons] at hi ⊢
      rcases hi with hb | hb | hb | hb <;> simp [hb]

theorem lawKeysIS (w : World) (c room : Nat) (own : List Nat) (L : List (Int × ByteArray)) (h : ISIs w c room own L) :
    Calls Try.prog 11 #[.pointer (some ⟨c, 0, none⟩)] w fun en w' => ∃ v, en = .returned v ∧ w'.ownsRow w.heap.size 3 1 v L.length (L.map fun p => (Value.int .i64) p.1) ∧ Below w.heap.size w w' := by
  obtain ⟨m, r, l, hc, rfl, rfl, _⟩ := h
  refine (keysIS w c m r room l hc).mono fun en w' ⟨v, he, ho, hb⟩ => ⟨v, he, ?_, hb⟩
  rw [List.length_map, List.map_map]
  exact ho

/-! ### at [ByteArray, Int] -/
/-- A cache at c: its room, its blocks, its things. -/
def SIIs (w : World) (c room : Nat) (own : List Nat) (L : List (ByteArray × Int)) : Prop :=
  ∃ m r l, SICache w c m r room l ∧ own = c :: m :: r :: l.map (·.blk) ∧ L = l.map kv ∧ L.length ≤ room ∧ 1 ≤ room ∧ room ≤ 65536

/-- What a call on a cache may do: its own blocks, and new ones. -/
def SITurn (w w' : World) (c room : Nat) (own : List Nat) (L : List (ByteArray × Int)) : Prop :=
  ∃ own', SIIs w' c room own' L ∧ (∀ b ∈ own', b ∈ own ∨ w.heap.size ≤ b) ∧ Kept (· ∈ own) w w'

theorem SIIs.nodup {w : World} {c room : Nat} {own : List Nat} {L : List (ByteArray × Int)} (h : SIIs w c room own L) : (L.map (·.1)).Nodup := by
  obtain ⟨m, r, l, hc, rfl, rfl, _⟩ := h
  have := hc.nodup
  rw [List.map_map]
  have e : (l.map fun e => (Value.string) e.key) = (l.map ((·.1) ∘ kv)).map (Value.string) := by rw [List.map_map]; rfl
  rw [e] at this
  exact List.Pairwise.of_map (Value.string) (fun a b h e => h (by rw [e])) this

theorem SIIs.kept {w w' : World} {c room : Nat} {own : List Nat} {L : List (ByteArray × Int)} {S : Nat → Prop} (h : SIIs w c room own L) (k : Kept S w w') (hs : ∀ b ∈ own, ¬ S b) : SIIs w' c room own L := by
  obtain ⟨m, r, l, hc, rfl, rest⟩ := h
  exact ⟨m, r, l, hc.kept k hs, rfl, rest⟩

theorem SIIs.lt {w : World} {c room : Nat} {own : List Nat} {L : List (ByteArray × Int)} (h : SIIs w c room own L) : ∀ b ∈ own, b < w.heap.size := by
  obtain ⟨m, r, l, hc, rfl, _⟩ := h
  exact hc.lt

theorem SITurn.refl {w : World} {c room : Nat} {own : List Nat} {L : List (ByteArray × Int)} (h : SIIs w c room own L) : SITurn w w c room own L :=
  ⟨own, h, fun _ hb => .inl hb, Kept.refl _ _⟩

theorem lawNewSI (n : Int) (h1 : 1 ≤ n) (h2 : n ≤ 65536) (w : World) :
    Calls Try.prog 20 #[.int .i64 n] w fun e w' => e = .returned (.tuple #[.pointer (some ⟨w.heap.size + 2, 0, none⟩), .int .i64 0]) ∧
      (∃ own, SIIs w' (w.heap.size + 2) n.toNat own [] ∧ ∀ b ∈ own, w.heap.size ≤ b) ∧ Below w.heap.size w w' ∧ w'.heap.size = w.heap.size + 3 :=
  (newSI n h1 h2 w).mono fun _ _ ⟨he, hc, hb, hs⟩ => ⟨he, ⟨_, ⟨_, _, _, hc, rfl, rfl, by simp, by omega, by omega⟩, by simp⟩, hb, hs⟩

theorem lawGetSI (w : World) (c room : Nat) (own : List Nat) (L : List (ByteArray × Int)) (k : ByteArray) (h : SIIs w c room own L) :
    Calls Try.prog 21 #[.pointer (some ⟨c, 0, none⟩), (Value.string) k] w fun e w' => e = .returned (.tuple #[orZero (Value.int .i64) (.int .i64 0) (look k L), .bool (look k L).isSome]) ∧ SITurn w w' c room own (used k L) := by
  have hnd := h.nodup
  have h' := h
  obtain ⟨m, r, l, hc, rfl, rfl, hlen, h1, h2⟩ := h
  cases hk : look k (l.map kv) with
  | none =>
    have hno := look_none hk
    refine (getSI_no w c m r room k l hc (fun e he => hno (kv e) (List.mem_map.2 ⟨e, he, rfl⟩))).mono fun e w' ⟨he, hw⟩ => ?_
    subst hw
    refine ⟨he, ?_⟩
    simp only [used, hk]
    exact .refl h'
  | some v =>
    obtain ⟨l1, e, l2, rfl, rfl, rfl⟩ := split_kv hk
    refine (getSI_yes w c m r room l1 l2 e hc).mono fun en w' ⟨he, hm⟩ => ?_
    refine ⟨he, ?_⟩
    have hw : used e.key ((l1 ++ e :: l2).map kv) = (e.key, e.val) :: (l1 ++ l2).map kv := by
      simp only [used, hk]
      rw [List.map_append, List.map_cons] at hnd ⊢
      obtain ⟨n1, n2⟩ := nodup_split hnd
      rw [show kv e = (e.key, e.val) from rfl, without_split n1 n2, List.map_append]
    rw [hw]
    refine ⟨c :: m :: r :: e.blk :: (l1 ++ l2).map (·.blk), ⟨m, r, _, hm.cache, rfl, rfl, ?_, h1, h2⟩, ?_, hm.kept.mono fun i _ hi => ?_⟩
    · simp only [List.length_map, List.length_append, List.length_cons] at hlen ⊢; omega
    · intro b hb
      simp only [List.map_append, List.map_cons, List.mem_append, List.mem_cons] at hb ⊢
      rcases hb with hb | hb | hb | hb | hb | hb <;> simp [hb]
    · simp only [List.map_append, List.map_cons, List.mem_append, List.mem_cons] at hi ⊢
      rcases hi with hb | hb | hb | hb <;> simp [hb]

theorem lawDropSI (w : World) (c room : Nat) (own : List Nat) (L : List (ByteArray × Int)) (k : ByteArray) (h : SIIs w c room own L) :
    Calls Try.prog 23 #[.pointer (some ⟨c, 0, none⟩), (Value.string) k] w fun e w' => e = .returned (.bool (look k L).isSome) ∧ SITurn w w' c room own (without k L) := by
  have hnd := h.nodup
  have h' := h
  obtain ⟨m, r, l, hc, rfl, rfl, hlen, h1, h2⟩ := h
  cases hk : look k (l.map kv) with
  | none =>
    have hno := look_none hk
    refine (dropSI_no w c m r room k l hc (fun e he => hno (kv e) (List.mem_map.2 ⟨e, he, rfl⟩))).mono fun e w' ⟨he, hw⟩ => ?_
    subst hw
    refine ⟨he, ?_⟩
    rw [without_none hno]
    exact .refl h'
  | some v =>
    obtain ⟨l1, e, l2, rfl, rfl, rfl⟩ := split_kv hk
    refine (dropSI_yes w c m r room l1 l2 e hc).mono fun en w' ⟨he, hm, hkept, _, _⟩ => ?_
    refine ⟨he, ?_⟩
    have hw : without e.key ((l1 ++ e :: l2).map kv) = (l1 ++ l2).map kv := by
      rw [List.map_append, List.map_cons] at hnd ⊢
      obtain ⟨n1, n2⟩ := nodup_split hnd
      rw [show kv e = (e.key, e.val) from rfl, without_split n1 n2, List.map_append]
    rw [hw]
    refine ⟨c :: m :: r :: (l1 ++ l2).map (·.blk), ⟨m, r, _, hm, rfl, rfl, ?_, h1, h2⟩, ?_, hkept.mono fun i _ hi => ?_⟩
    · simp only [List.length_map, List.length_append, List.length_cons] at hlen ⊢; omega
    · intro b hb
      simp only [List.map_append, List.map_cons, List.mem_append, List.mem_cons] at hb ⊢
      rcases hb with hb | hb | hb | hb | hb <;> simp [hb]
    · simp only [List.map_append, List.map_cons, List.mem_append, List.mem_cons] at hi ⊢
      rcases hi with hb | hb | hb | hb <;> simp [hb]

theorem lawPutSI (w : World) (c room : Nat) (own : List Nat) (L : List (ByteArray × Int)) (k : ByteArray) (v : Int) (h : SIIs w c room own L) :
    Calls Try.prog 22 #[.pointer (some ⟨c, 0, none⟩), (Value.string) k, (Value.int .i64) v] w fun e w' => e = .returned (.tuple #[orZero (Value.string) (.string ⟨#[]⟩) (goes room k L), .bool (goes room k L).isSome]) ∧ SITurn w w' c room own (putIn room k v L) := by
  have hnd := h.nodup
  obtain ⟨m, r, l, hc, rfl, rfl, hlen, h1, h2⟩ := h
  cases hk : look k (l.map kv) with
  | none =>
    have hno := look_none hk
    have hno' : ∀ e ∈ l, e.key ≠ k := fun e he => hno (kv e) (List.mem_map.2 ⟨e, he, rfl⟩)
    rw [List.length_map] at hlen
    by_cases hroom : l.length + 1 ≤ room
    · refine (putSI_room w c m r room l k v hc hno' hroom).mono fun en w' ⟨he, hm, hkept, _⟩ => ?_
      simp only [goes, putIn, hk, List.length_map, hroom, if_true]
      refine ⟨he, c :: m :: r :: w.heap.size :: l.map (·.blk), ⟨m, r, _, hm, rfl, rfl, ?_, h1, h2⟩, ?_, hkept.mono fun i _ hi => ?_⟩
      · simp only [List.length_map, List.length_cons]; omega
      · intro b hb
        simp only [List.mem_cons] at hb ⊢
        rcases hb with hb | hb | hb | hb | hb <;> simp [hb]
      · simp only [List.mem_cons] at hi ⊢
        rcases hi with hb | hb | hb <;> simp [hb]
    · obtain ⟨l0, e, rfl⟩ : ∃ l0 e, l = l0 ++ [e] := by
        rcases List.eq_nil_or_concat l with rfl | ⟨l0, e, rfl⟩
        · simp at hroom; omega
        · exact ⟨l0, e, by simp⟩
      simp only [List.length_append, List.length_cons, List.length_nil] at hlen hroom
      refine (putSI_full w c m r room l0 e k v hc hno' (by omega)).mono fun en w' ⟨he, hm, hkept, _⟩ => ?_
      have hr : ¬ ((l0 ++ [e]).map kv).length + 1 ≤ room := by simp; omega
      simp only [goes, putIn, hk, hr, if_false]
      have e1 : (((l0 ++ [e]).map kv).getLast?.map (·.1)) = some e.key := by simp [kv]
      have e2 : ((l0 ++ [e]).map kv).dropLast = l0.map kv := by simp
      rw [e1, e2]
      refine ⟨he, c :: m :: r :: w.heap.size :: l0.map (·.blk), ⟨m, r, _, hm, rfl, rfl, ?_, h1, h2⟩, ?_, hkept.mono fun i _ hi => ?_⟩
      · simp only [List.length_map, List.length_cons]; omega
      · intro b hb
        simp only [List.map_append, List.map_cons, List.mem_append, List.mem_cons] at hb ⊢
        rcases hb with hb | hb | hb | hb | hb <;> simp [hb]
      · simp only [List.mem_cons] at hi ⊢
        rcases hi with hb | hb | hb
        · simp [hb]
        · simp [hb]
        · exact .inr (.inr (.inr hb))
  | some v0 =>
    obtain ⟨l1, e, l2, rfl, rfl, rfl⟩ := split_kv hk
    refine (putSI_old w c m r room l1 l2 e v hc).mono fun en w' ⟨he, hm⟩ => ?_
    have hw : putIn room e.key v ((l1 ++ e :: l2).map kv) = (e.key, v) :: (l1 ++ l2).map kv := by
      simp only [putIn, hk]
      rw [List.map_append, List.map_cons] at hnd ⊢
      obtain ⟨n1, n2⟩ := nodup_split hnd
      rw [show kv e = (e.key, e.val) from rfl, without_split n1 n2, List.map_append]
    rw [hw]
    simp only [goes, hk]
    refine ⟨he, c :: m :: r :: e.blk :: (l1 ++ l2).map (·.blk), ⟨m, r, _, hm.cache, rfl, rfl, ?_, h1, h2⟩, ?_, hm.kept.mono fun i _ hi => ?_⟩
    · simp only [List.length_map, List.length_append, List.length_cons] at hlen ⊢; omega
    · intro b hb
      simp only [List.map_append, List.map_cons, List.mem_append, List.mem_cons] at hb ⊢
      rcases hb with hb | hb | hb | hb | hb | hb <;> simp [hb]
    · simp only [List.map_append, List.map_cons, List.mem_append, List.mem_cons] at hi ⊢
      rcases hi with hb | hb | hb | hb <;> simp [hb]

theorem lawKeysSI (w : World) (c room : Nat) (own : List Nat) (L : List (ByteArray × Int)) (h : SIIs w c room own L) :
    Calls Try.prog 24 #[.pointer (some ⟨c, 0, none⟩)] w fun en w' => ∃ v, en = .returned v ∧ w'.ownsRow w.heap.size 9 1 v L.length (L.map fun p => (Value.string) p.1) ∧ Below w.heap.size w w' := by
  obtain ⟨m, r, l, hc, rfl, rfl, _⟩ := h
  refine (keysSI w c m r room l hc).mono fun en w' ⟨v, he, ho, hb⟩ => ⟨v, he, ?_, hb⟩
  rw [List.length_map, List.map_map]
  exact ho

end Go.Proofs.Ytggpmnhbplmagaa
