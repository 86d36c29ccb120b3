/-
  One cache, and blocks beside it that a call leaves alone.
-/
import Derived.Test.YtggpmnhbplmagaaDoes
import Derived.Test.YtggpmnhbplmagaaLast
namespace Go.Proofs.Ytggpmnhbplmagaa
open Go.RowKit Go.Conc

def Sole (w0 w : World) (ex : List (Nat × Obj)) (c room : Nat) (L : List (Int × ByteArray)) : Prop :=
  ∃ own, ISIs w c room own L ∧ (∀ b ∈ own, w0.heap.size ≤ b) ∧ (∀ p ∈ ex, w.heap[p.1]? = some p.2 ∧ p.1 ∉ own) ∧ Below w0.heap.size w0 w

section
variable {w0 w w' : World} {ex : List (Nat × Obj)} {c room : Nat} {L L' : List (Int × ByteArray)}

theorem One.sole (h : One w0 w c room L) : Sole w0 w [] c room L := by
  obtain ⟨own, hc, h1, h2⟩ := h
  exact ⟨own, hc, h1, (fun p hp => by cases hp), h2⟩
theorem Sole.kept (h : Sole w0 w ex c room L) (hb : Below w.heap.size w w') : Sole w0 w' ex c room L := by
  obtain ⟨own, hc, h1, h4, h5⟩ := h
  have k : Kept (fun _ => False) w w' := Kept.of_below hb _
  exact ⟨own, hc.kept k (fun _ _ h => h), h1, fun p hp => ⟨k.get (h4 p hp).1 id, (h4 p hp).2⟩, h5.trans (hb.mono h5.size)⟩
theorem Sole.turn {own : List Nat} (h1 : ∀ b ∈ own, w0.heap.size ≤ b) (h4 : ∀ p ∈ ex, w.heap[p.1]? = some p.2 ∧ p.1 ∉ own) (h5 : Below w0.heap.size w0 w) (ht : ISTurn w w' c room own L') : Sole w0 w' ex c room L' := by
  obtain ⟨own', hc, hsub, k⟩ := ht
  refine ⟨own', hc, fun b hb => ?_, fun p hp => ⟨k.get (h4 p hp).1 (h4 p hp).2, fun hb => ?_⟩, k.below h5 h5.size (fun i hi => h1 i hi)⟩
  · rcases hsub b hb with hb | hb
    · exact h1 b hb
    · exact Nat.le_trans h5.size hb
  · rcases hsub p.1 hb with hb | hb
    · exact (h4 p hp).2 hb
    · have := lt_of_block (h4 p hp).1; omega
theorem Sole.get (h : Sole w0 w ex c room L) (k : Int) : Calls Try.prog 12 #[.pointer (some ⟨c, 0, none⟩), .int .i64 k] w fun e w' => e = .returned (.tuple #[.string ((look k L).getD ⟨#[]⟩), .bool (look k L).isSome]) ∧ Sole w0 w' ex c room (used k L) := by
  obtain ⟨own, hc, h1, h4, h5⟩ := h
  exact (lawGetIS w c room own L k hc).mono fun _ _ ⟨he, ht⟩ => ⟨by rw [he, orZeroS], .turn h1 h4 h5 ht⟩
theorem Sole.put (h : Sole w0 w ex c room L) (k : Int) (s : ByteArray) : Calls Try.prog 14 #[.pointer (some ⟨c, 0, none⟩), .int .i64 k, .string s] w fun e w' => e = .returned (.tuple #[.int .i64 ((goes room k L).getD 0), .bool (goes room k L).isSome]) ∧ Sole w0 w' ex c room (putIn room k s L) := by
  obtain ⟨own, hc, h1, h4, h5⟩ := h
  exact (lawPutIS w c room own L k s hc).mono fun _ _ ⟨he, ht⟩ => ⟨by rw [he, orZeroI], .turn h1 h4 h5 ht⟩
theorem Sole.drop (h : Sole w0 w ex c room L) (k : Int) : Calls Try.prog 16 #[.pointer (some ⟨c, 0, none⟩), .int .i64 k] w fun e w' => e = .returned (.bool (look k L).isSome) ∧ Sole w0 w' ex c room (without k L) := by
  obtain ⟨own, hc, h1, h4, h5⟩ := h
  exact (lawDropIS w c room own L k hc).mono fun _ _ ⟨he, ht⟩ => ⟨he, .turn h1 h4 h5 ht⟩
theorem Sole.keys (h : Sole w0 w ex c room L) : Calls Try.prog 11 #[.pointer (some ⟨c, 0, none⟩)] w fun e w' => ∃ v, e = .returned v ∧ w'.ownsRow w.heap.size 3 1 v L.length ((L.map (·.1)).map (Value.int .i64)) ∧ Below w.heap.size w w' := by
  obtain ⟨own, hc, h1, h4, h5⟩ := h
  refine (lawKeysIS w c room own L hc).mono fun _ _ ⟨v, he, hown, hbb⟩ => ⟨v, he, ?_, hbb⟩
  rw [List.map_map]; exact hown
theorem Sole.good (h : Sole w0 w ex c room L) : (L.map (·.1)).Nodup ∧ L.length ≤ room ∧ 1 ≤ room ∧ room ≤ 65536 := by
  obtain ⟨own, hc, _⟩ := h
  have := hc.nodup
  obtain ⟨m, r, l, _, _, rfl, h1, h2, h3⟩ := hc
  exact ⟨this, h1, h2, h3⟩
theorem Sole.below (h : Sole w0 w ex c room L) : Below w0.heap.size w0 w := by
  obtain ⟨own, hc, h1, h4, h5⟩ := h
  exact h5
theorem Sole.held (h : Sole w0 w ex c room L) {p : Nat × Obj} (hp : p ∈ ex) : w.heap[p.1]? = some p.2 := by
  obtain ⟨own, hc, h1, h4, h5⟩ := h
  exact (h4 p hp).1
/-- What was made since lies beside it. -/
theorem Sole.hold (h : Sole w0 w ex c room L) (hb : Below w.heap.size w w') (es : List (Nat × Obj)) (hes : ∀ p ∈ es, w.heap.size ≤ p.1 ∧ w'.heap[p.1]? = some p.2) : Sole w0 w' (es ++ ex) c room L := by
  obtain ⟨own, hc, h1, h4, h5⟩ := h
  have k : Kept (fun _ => False) w w' := Kept.of_below hb _
  refine ⟨own, hc.kept k (fun _ _ h => h), h1, fun p hp => ?_, h5.trans (hb.mono h5.size)⟩
  rcases List.mem_append.1 hp with hp | hp
  · exact ⟨(hes p hp).2, fun hm => by have := hc.lt _ hm; have := (hes p hp).1; omega⟩
  · exact ⟨k.get (h4 p hp).1 id, (h4 p hp).2⟩
end

/-- Two slices that the call owns, of known elements, beside the cache. -/
theorem Sole.rows {w0 w w' : World} {c room : Nat} {L : List (Int × ByteArray)} (h : Sole w0 w [] c room L) (hb : Below w.heap.size w w') {m : Nat} {ao1 ao2 : Option Addr} {cap1 cap2 : Nat} {e1 e2 : TypeId} {xs ys : List Value}
    (h1 : w'.ownsRow w.heap.size e1 1 (.slice ao1 m cap1) m xs) (h2 : w'.ownsRow w.heap.size e2 1 (.slice ao2 m cap2) m ys) :
    ∃ ex, Sole w0 w' ex c room L ∧ (0 < m → ∃ g1 cur1 g2 cur2, ao1 = some ⟨g1, 0, none⟩ ∧ ao2 = some ⟨g2, 0, none⟩ ∧ (g1, Obj.cells cur1 e1 (0, 0)) ∈ ex ∧ (g2, Obj.cells cur2 e2 (0, 0)) ∈ ex ∧
      ∀ j, j < m → cur1[j]? = xs[j]? ∧ cur2[j]? = ys[j]?) := by
  by_cases h0 : m = 0
  · exact ⟨[], h.kept hb, fun h => by omega⟩
  · rcases h1.2 with ⟨_, h⟩ | ⟨g1, c1, cur1, hv1, hb1, hg1, _, _, hs1, ht1⟩
    · omega
    rcases h2.2 with ⟨_, h⟩ | ⟨g2, c2, cur2, hv2, hb2, hg2, _, _, hs2, ht2⟩
    · omega
    simp only [Value.slice.injEq] at hv1 hv2
    refine ⟨[(g1, .cells cur1 e1 (0, 0)), (g2, .cells cur2 e2 (0, 0))] ++ [], h.hold hb _ ?_, fun _ => ⟨g1, cur1, g2, cur2, hv1.1, hv2.1, by simp, by simp, fun j hj => ⟨?_, ?_⟩⟩⟩
    · intro p hp
      simp only [List.mem_cons, List.not_mem_nil, or_false] at hp
      rcases hp with rfl | rfl
      · exact ⟨hb1, hg1⟩
      · exact ⟨hb2, hg2⟩
    · rw [← ht1, List.getElem?_take, if_pos (by omega)]; simp
    · rw [← ht2, List.getElem?_take, if_pos (by omega)]; simp

section
variable {K V : Type} [DecidableEq K]
theorem look_snoc (k : K) (L : List (K × V)) (p : K × V) : (look k (L ++ [p])).isSome = ((look k L).isSome || decide (p.1 = k)) := by
  rw [Bool.eq_iff_iff, Bool.or_eq_true, look_isSome, look_isSome, decide_eq_true_iff]
  simp [or_and_right, exists_or]
theorem look_take_succ (k : K) (L : List (K × V)) (j : Nat) (p : K × V) (h : L[j]? = some p) : (look k (L.take (j + 1))).isSome = ((look k (L.take j)).isSome || decide (p.1 = k)) := by
  rw [List.take_add_one, h]
  exact look_snoc k _ p
end

end Go.Proofs.Ytggpmnhbplmagaa
