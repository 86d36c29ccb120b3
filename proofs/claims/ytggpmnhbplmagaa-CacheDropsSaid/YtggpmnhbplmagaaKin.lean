/-
  Two caches side by side (IS and SI), each of its own room; both in new memory. Printed by gen/cache_two.py.
-/
import Derived.Test.YtggpmnhbplmagaaOps
namespace Go.Proofs.Ytggpmnhbplmagaa
open Go.RowKit Go.Conc

def Kin (w0 w : World) (ex : List (Nat × Obj)) (a ra b rb : Nat) (L : List (Int × ByteArray)) (M : List (ByteArray × Int)) : Prop :=
  ∃ ow ox, ISIs w a ra ow L ∧ SIIs w b rb ox M ∧ (∀ k ∈ ow, w0.heap.size ≤ k) ∧ (∀ k ∈ ox, w0.heap.size ≤ k) ∧ (∀ k ∈ ow, k ∉ ox) ∧
    (∀ p ∈ ex, w.heap[p.1]? = some p.2 ∧ p.1 ∉ ow ∧ p.1 ∉ ox) ∧ Below w0.heap.size w0 w

section
variable {w0 w w' : World} {ex : List (Nat × Obj)} {a ra b rb : Nat} {L L' : List (Int × ByteArray)} {M M' : List (ByteArray × Int)}

theorem Kin.kept (h : Kin w0 w ex a ra b rb L M) (hb : Below w.heap.size w w') : Kin w0 w' ex a ra b rb L M := by
  obtain ⟨ow, ox, hc, hr, h1, h2, h3, h4, h5⟩ := h
  have k : Kept (fun _ => False) w w' := Kept.of_below hb _
  exact ⟨ow, ox, hc.kept k (fun _ _ h => h), hr.kept k (fun _ _ h => h), h1, h2, h3, fun p hp => ⟨k.get (h4 p hp).1 id, (h4 p hp).2⟩, h5.trans (hb.mono h5.size)⟩

theorem Kin.turnA {ow ox : List Nat} (hr : SIIs w b rb ox M) (h1 : ∀ k ∈ ow, w0.heap.size ≤ k) (h2 : ∀ k ∈ ox, w0.heap.size ≤ k) (h3 : ∀ k ∈ ow, k ∉ ox)
    (h4 : ∀ p ∈ ex, w.heap[p.1]? = some p.2 ∧ p.1 ∉ ow ∧ p.1 ∉ ox) (h5 : Below w0.heap.size w0 w) (ht : ISTurn w w' a ra ow L') : Kin w0 w' ex a ra b rb L' M := by
  obtain ⟨ow', hc, hsub, k⟩ := ht
  refine ⟨ow', ox, hc, hr.kept k (fun b hb hb' => h3 b hb' hb), fun b hb => ?_, h2, fun b hb hb' => ?_, fun p hp => ⟨k.get (h4 p hp).1 (h4 p hp).2.1, fun hb => ?_, (h4 p hp).2.2⟩, k.below h5 h5.size (fun i hi => h1 i hi)⟩
  · rcases hsub b hb with hb | hb
    · exact h1 b hb
    · exact Nat.le_trans h5.size hb
  · rcases hsub b hb with hb | hb
    · exact h3 b hb hb'
    · have := hr.lt b hb'; omega
  · rcases hsub p.1 hb with hb | hb
    · exact (h4 p hp).2.1 hb
    · have := lt_of_block (h4 p hp).1; omega

theorem Kin.turnB {ow ox : List Nat} (hc : ISIs w a ra ow L) (h1 : ∀ k ∈ ow, w0.heap.size ≤ k) (h2 : ∀ k ∈ ox, w0.heap.size ≤ k) (h3 : ∀ k ∈ ow, k ∉ ox)
    (h4 : ∀ p ∈ ex, w.heap[p.1]? = some p.2 ∧ p.1 ∉ ow ∧ p.1 ∉ ox) (h5 : Below w0.heap.size w0 w) (ht : SITurn w w' b rb ox M') : Kin w0 w' ex a ra b rb L M' := by
  obtain ⟨ox', hr, hsub, k⟩ := ht
  refine ⟨ow, ox', hc.kept k (fun b hb e => h3 b hb e), hr, h1, fun b hb => ?_, fun b hb hb' => ?_, fun p hp => ⟨k.get (h4 p hp).1 (h4 p hp).2.2, (h4 p hp).2.1, fun hb => ?_⟩, k.below h5 h5.size (fun i hi => h2 i hi)⟩
  · rcases hsub b hb with hb | hb
    · exact h2 b hb
    · exact Nat.le_trans h5.size hb
  · rcases hsub b hb' with hb' | hb'
    · exact h3 b hb hb'
    · have := hc.lt b hb; omega
  · rcases hsub p.1 hb with hb | hb
    · exact (h4 p hp).2.2 hb
    · have := lt_of_block (h4 p hp).1; omega


theorem Kin.getA (h : Kin w0 w ex a ra b rb L M) (k : Int) : Calls Try.prog 12 #[.pointer (some ⟨a, 0, none⟩), (Value.int .i64) k] w fun e w' => e = .returned (.tuple #[orZero Value.string (.string ⟨#[]⟩) (look k L), .bool (look k L).isSome]) ∧ Kin w0 w' ex a ra b rb (used k L) M := by
  obtain ⟨ow, ox, hc, hr, h1, h2, h3, h4, h5⟩ := h
  exact (lawGetIS w a ra ow L k hc).mono fun _ _ ⟨he, ht⟩ => ⟨he, .turnA hr h1 h2 h3 h4 h5 ht⟩
theorem Kin.putA (h : Kin w0 w ex a ra b rb L M) (k : Int) (s : ByteArray) : Calls Try.prog 14 #[.pointer (some ⟨a, 0, none⟩), (Value.int .i64) k, Value.string s] w fun e w' => e = .returned (.tuple #[orZero (Value.int .i64) (.int .i64 0) (goes ra k L), .bool (goes ra k L).isSome]) ∧ Kin w0 w' ex a ra b rb (putIn ra k s L) M := by
  obtain ⟨ow, ox, hc, hr, h1, h2, h3, h4, h5⟩ := h
  exact (lawPutIS w a ra ow L k s hc).mono fun _ _ ⟨he, ht⟩ => ⟨he, .turnA hr h1 h2 h3 h4 h5 ht⟩
theorem Kin.dropA (h : Kin w0 w ex a ra b rb L M) (k : Int) : Calls Try.prog 16 #[.pointer (some ⟨a, 0, none⟩), (Value.int .i64) k] w fun e w' => e = .returned (.bool (look k L).isSome) ∧ Kin w0 w' ex a ra b rb (without k L) M := by
  obtain ⟨ow, ox, hc, hr, h1, h2, h3, h4, h5⟩ := h
  exact (lawDropIS w a ra ow L k hc).mono fun _ _ ⟨he, ht⟩ => ⟨he, .turnA hr h1 h2 h3 h4 h5 ht⟩
theorem Kin.keysA (h : Kin w0 w ex a ra b rb L M) : Calls Try.prog 11 #[.pointer (some ⟨a, 0, none⟩)] w fun e w' => ∃ v, e = .returned v ∧ w'.ownsRow w.heap.size 3 1 v L.length ((L.map (·.1)).map (Value.int .i64)) ∧ Below w.heap.size w w' := by
  obtain ⟨ow, ox, hc, hr, h1, h2, h3, h4, h5⟩ := h
  refine (lawKeysIS w a ra ow L hc).mono fun _ _ ⟨v, he, hown, hbb⟩ => ⟨v, he, ?_, hbb⟩
  rw [List.map_map]; exact hown
theorem Kin.goodA (h : Kin w0 w ex a ra b rb L M) : (L.map (·.1)).Nodup ∧ L.length ≤ ra ∧ 1 ≤ ra ∧ ra ≤ 65536 := by
  obtain ⟨ow, ox, hc, hr, _⟩ := h
  have := hc.nodup
  obtain ⟨m, r, l, _, _, rfl, h1, h2, h3⟩ := hc
  exact ⟨this, h1, h2, h3⟩

theorem Kin.getB (h : Kin w0 w ex a ra b rb L M) (k : ByteArray) : Calls Try.prog 21 #[.pointer (some ⟨b, 0, none⟩), Value.string k] w fun e w' => e = .returned (.tuple #[orZero (Value.int .i64) (.int .i64 0) (look k M), .bool (look k M).isSome]) ∧ Kin w0 w' ex a ra b rb L (used k M) := by
  obtain ⟨ow, ox, hc, hr, h1, h2, h3, h4, h5⟩ := h
  exact (lawGetSI w b rb ox M k hr).mono fun _ _ ⟨he, ht⟩ => ⟨he, .turnB hc h1 h2 h3 h4 h5 ht⟩
theorem Kin.putB (h : Kin w0 w ex a ra b rb L M) (k : ByteArray) (s : Int) : Calls Try.prog 22 #[.pointer (some ⟨b, 0, none⟩), Value.string k, (Value.int .i64) s] w fun e w' => e = .returned (.tuple #[orZero Value.string (.string ⟨#[]⟩) (goes rb k M), .bool (goes rb k M).isSome]) ∧ Kin w0 w' ex a ra b rb L (putIn rb k s M) := by
  obtain ⟨ow, ox, hc, hr, h1, h2, h3, h4, h5⟩ := h
  exact (lawPutSI w b rb ox M k s hr).mono fun _ _ ⟨he, ht⟩ => ⟨he, .turnB hc h1 h2 h3 h4 h5 ht⟩
theorem Kin.dropB (h : Kin w0 w ex a ra b rb L M) (k : ByteArray) : Calls Try.prog 23 #[.pointer (some ⟨b, 0, none⟩), Value.string k] w fun e w' => e = .returned (.bool (look k M).isSome) ∧ Kin w0 w' ex a ra b rb L (without k M) := by
  obtain ⟨ow, ox, hc, hr, h1, h2, h3, h4, h5⟩ := h
  exact (lawDropSI w b rb ox M k hr).mono fun _ _ ⟨he, ht⟩ => ⟨he, .turnB hc h1 h2 h3 h4 h5 ht⟩
theorem Kin.keysB (h : Kin w0 w ex a ra b rb L M) : Calls Try.prog 24 #[.pointer (some ⟨b, 0, none⟩)] w fun e w' => ∃ v, e = .returned v ∧ w'.ownsRow w.heap.size 9 1 v M.length ((M.map (·.1)).map Value.string) ∧ Below w.heap.size w w' := by
  obtain ⟨ow, ox, hc, hr, h1, h2, h3, h4, h5⟩ := h
  refine (lawKeysSI w b rb ox M hr).mono fun _ _ ⟨v, he, hown, hbb⟩ => ⟨v, he, ?_, hbb⟩
  rw [List.map_map]; exact hown
theorem Kin.goodB (h : Kin w0 w ex a ra b rb L M) : (M.map (·.1)).Nodup ∧ M.length ≤ rb ∧ 1 ≤ rb ∧ rb ≤ 65536 := by
  obtain ⟨ow, ox, hc, hr, _⟩ := h
  have := hr.nodup
  obtain ⟨m, r, l, _, _, rfl, h1, h2, h3⟩ := hr
  exact ⟨this, h1, h2, h3⟩

/-- A new block is held besides. -/
theorem Kin.alloc (h : Kin w0 w ex a ra b rb L M) (o : Obj) : Kin w0 (w.alloc o) ((w.heap.size, o) :: ex) a ra b rb L M := by
  obtain ⟨ow, ox, hc, hr, h1, h2, h3, h4, h5⟩ := h
  have k : Kept (fun _ => False) w (w.alloc o) := (Kept.refl _ w).alloc o
  refine ⟨ow, ox, hc.kept k (fun _ _ h => h), hr.kept k (fun _ _ h => h), h1, h2, h3, fun p hp => ?_, h5.alloc h5.size _⟩
  rcases List.mem_cons.1 hp with rfl | hp
  · exact ⟨alloc_at w o, fun hb => by have := hc.lt _ hb; simp at this, fun hb => by have := hr.lt _ hb; simp at this⟩
  · exact ⟨k.get (h4 p hp).1 id, (h4 p hp).2⟩
theorem Kin.forget (h : Kin w0 w ex a ra b rb L M) : Kin w0 w [] a ra b rb L M := by
  obtain ⟨ow, ox, hc, hr, h1, h2, h3, h4, h5⟩ := h
  exact ⟨ow, ox, hc, hr, h1, h2, h3, (fun p hp => by cases hp), h5⟩
theorem Kin.drew (h : Kin w0 w ex a ra b rb L M) : Kin w0 w.drew ex a ra b rb L M := h.kept (Below.refl _ _).drew
theorem Kin.held (h : Kin w0 w ex a ra b rb L M) {p : Nat × Obj} (hp : p ∈ ex) : w.heap[p.1]? = some p.2 := by
  obtain ⟨ow, ox, hc, hr, h1, h2, h3, h4, h5⟩ := h
  exact (h4 p hp).1
theorem Kin.below (h : Kin w0 w ex a ra b rb L M) : Below w0.heap.size w0 w := by
  obtain ⟨ow, ox, hc, hr, h1, h2, h3, h4, h5⟩ := h
  exact h5

/-- Behind both News. -/
theorem Kin.start {w1 w2 : World} {ow ox : List Nat} (h : ISIs w1 a ra ow L) (h1 : ∀ k ∈ ow, w0.heap.size ≤ k) (hb : Below w0.heap.size w0 w1)
    (h' : SIIs w2 b rb ox M) (h2 : ∀ k ∈ ox, w1.heap.size ≤ k) (hb' : Below w1.heap.size w1 w2) : Kin w0 w2 [] a ra b rb L M :=
  ⟨ow, ox, h.kept (Kept.of_below hb' (fun _ => False)) (fun _ _ h => h), h', h1, fun k hk => Nat.le_trans hb.size (h2 k hk), fun k hk hk' => by have := h.lt k hk; have := h2 k hk'; omega,
    (fun p hp => by cases hp), hb.trans (hb'.mono hb.size)⟩
end

end Go.Proofs.Ytggpmnhbplmagaa
