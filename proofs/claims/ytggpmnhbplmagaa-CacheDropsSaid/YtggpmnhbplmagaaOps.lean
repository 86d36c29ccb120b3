/-
  What came in as a script or as keys, told as plain lists; and two structures side by side: the cache and the document's cache.
-/
import Derived.Test.YtggpmnhbplmagaaFixed
import Derived.Test.YtggpmnhbplmagaaLift
import Derived.Test.YtggpmnhbplmagaaRef4
import Derived.Deep.Slices
import Derived.Deep.Strs
namespace Go.Proofs.Ytggpmnhbplmagaa
open Go.ChangeShapes Go.WideShapes Go.Deep Go.RowKit

/-- v is a slice of calls that reads as ops. -/
def OpsIn (w : World) (v : Value) (ops : List (Int × Int × ByteArray)) : Prop :=
  ∃ ao cap, v = .slice ao ops.length cap ∧ ops.length ≤ 9223372036854775807 ∧
    (0 < ops.length → ∃ b off, ao = some ⟨b, off, none⟩ ∧ ∀ i, i < ops.length → ∃ k n s, ops[i]? = some (k, n, s) ∧
      w.cell? ⟨b, off + i * 3, none⟩ = some (.int .i64 k) ∧ w.cell? ⟨b, off + i * 3 + 1, none⟩ = some (.int .i64 n) ∧ w.cell? ⟨b, off + i * 3 + 2, none⟩ = some (.string s))

theorem cells36 : Try.prog.cellsOf 36 = 3 := by kernel_rfl

section
variable {H : Type} {enc : TypeId × Value → H} {w : World} {base : Nat} {spare : Nat → Bool} {held : Bool}

theorem open_ops {r : Reach} {b0 : Nat} {v : Value} {d : DataW H} {p : List MemPlace} (hv : Value.okWide Try.prog w r b0 30 v) (h : DataW.Trod enc Try.prog w base spare held 30 v d p) : ∃ ops, OpsIn w v ops := by
  obtain ⟨a, len, cap, rfl⟩ := okWide_slice Try.underlying30 hv
  obtain ⟨fuel, hf⟩ := h
  rcases open_slice Try.underlying30 hf with ⟨hcs, _⟩ | ⟨a', len', cap', m, n, D, Pl, hcs, _, hl, hm, hmm, _, hi⟩
  · simp only [Value.cells, List.cons.injEq, Value.slice.injEq, and_true] at hcs
    obtain ⟨rfl, rfl, rfl⟩ := hcs
    exact ⟨[], none, 0, rfl, by simp, fun h => by simp at h⟩
  · simp only [Value.cells, List.cons.injEq, Value.slice.injEq, and_true] at hcs
    obtain ⟨rfl, rfl, rfl⟩ := hcs
    have hlm : len ≤ m := by split at hmm <;> omega
    have hop : ∀ i, i < len → ∃ k n s, w.cell? (a'.add (i * 3)) = some (.int .i64 k) ∧ w.cell? (a'.add (i * 3 + 1)) = some (.int .i64 n) ∧ w.cell? (a'.add (i * 3 + 2)) = some (.string s) := by
      intro i hil
      obtain ⟨cs', hc, ht⟩ := hi i (by omega)
      rw [cells36] at hc
      obtain ⟨y0, y1, y2, n', _, hcl, t0, t1, t2⟩ := trod_struct3 Try.underlying36 ht
      rw [cells36] at hcl
      match cs', hcl with
      | [c0, c1, c2], _ =>
        obtain ⟨_, _, hat⟩ := World.cells?_some hc
        obtain ⟨k, e0, _⟩ := DataW.trod_int Try.underlying3 t0
        obtain ⟨q, e1, _⟩ := DataW.trod_int Try.underlying3 t1
        obtain ⟨s, e2, _⟩ := DataW.trod_string Try.underlying9 t2
        simp only [show Try.prog.cellsOf 3 = 1 by kernel_rfl, show Try.prog.cellsOf 9 = 1 by kernel_rfl, List.drop_zero, List.take_succ_cons, List.take_zero, List.cons.injEq, and_true, List.drop_succ_cons] at e0 e1 e2
        subst e0 e1 e2
        refine ⟨k, q, s, ?_, ?_, ?_⟩
        · have := hat 0 (by omega); rwa [add_add] at this
        · have := hat 1 (by omega); rwa [add_add] at this
        · have := hat 2 (by omega); rwa [add_add] at this
    by_cases h0 : len = 0
    · subst h0
      exact ⟨[], _, cap, rfl, by simp, fun h => by simp at h⟩
    · obtain ⟨b, off, spot⟩ := a'
      have hspot : spot = none := by
        obtain ⟨k, n, s, hc, _⟩ := hop 0 (by omega)
        simpa [Addr.add] using World.cell?_spot hc
      subst hspot
      have hop : ∀ i, i < len → ∃ k n s, w.cell? ⟨b, off + i * 3, none⟩ = some (.int .i64 k) ∧ w.cell? ⟨b, off + i * 3 + 1, none⟩ = some (.int .i64 n) ∧ w.cell? ⟨b, off + i * 3 + 2, none⟩ = some (.string s) := by
        intro i hi
        obtain ⟨k, n, s, s1, s2, s3⟩ := hop i hi
        rw [Addr.add_lit] at s1 s2 s3
        exact ⟨k, n, s, s1, s2, s3⟩
      have : ∃ ops : List (Int × Int × ByteArray), ops.length = len ∧ ∀ i, i < len → ∃ k n s, ops[i]? = some (k, n, s) ∧
        w.cell? ⟨b, off + i * 3, none⟩ = some (.int .i64 k) ∧ w.cell? ⟨b, off + i * 3 + 1, none⟩ = some (.int .i64 n) ∧ w.cell? ⟨b, off + i * 3 + 2, none⟩ = some (.string s) := by
        refine ⟨(List.range len).map fun i => if hil : i < len then ((hop i hil).choose, (hop i hil).choose_spec.choose, (hop i hil).choose_spec.choose_spec.choose) else (0, 0, ⟨#[]⟩), by simp, fun i hil => ?_⟩
        obtain ⟨s1, s2, s3⟩ := (hop i hil).choose_spec.choose_spec.choose_spec
        refine ⟨_, _, _, ?_, s1, s2, s3⟩
        rw [List.getElem?_map, List.getElem?_range hil, Option.map_some, dif_pos hil]
      obtain ⟨ops, rfl, hops⟩ := this
      unfold maxLen at hm
      exact ⟨ops, _, cap, rfl, by omega, fun _ => ⟨b, off, rfl, hops⟩⟩

theorem open_keys {r : Reach} {b0 : Nat} {v : Value} {d : DataW H} {p : List MemPlace} (hv : Value.okWide Try.prog w r b0 27 v) (h : DataW.Trod enc Try.prog w base spare held 27 v d p) : ∃ xs, IntsIn w v xs := by
  obtain ⟨a, len, cap, rfl⟩ := okWide_slice Try.underlying27 hv
  obtain ⟨fuel, hf⟩ := h
  rcases open_ints Try.underlying27 Try.underlying3 (by kernel_rfl) hf with ⟨hcs, _⟩ | ⟨a', len', cap', zs, hcs, _, hl, hm, hz, _, hc, _⟩
  · simp only [Value.cells, List.cons.injEq, Value.slice.injEq, and_true] at hcs
    obtain ⟨rfl, rfl, rfl⟩ := hcs
    exact ⟨[], none, 0, rfl, by simp, fun h => by simp at h⟩
  · simp only [Value.cells, List.cons.injEq, Value.slice.injEq, and_true] at hcs
    obtain ⟨rfl, rfl, rfl⟩ := hcs
    have hlz : len ≤ zs.length := by rw [hz]; split <;> omega
    have hlen : (zs.take len).length = len := by rw [List.length_take]; omega
    unfold maxLen at hm
    refine ⟨zs.take len, _, cap, by rw [hlen], by omega, fun h0 => ?_⟩
    rw [hlen] at h0
    obtain ⟨b, off, spot⟩ := a'
    have hspot : spot = none := by
      have := hc 0 (by omega)
      simpa [Addr.add] using World.cell?_spot this
    subst hspot
    refine ⟨b, off, rfl, fun i hi => ?_⟩
    rw [hlen] at hi
    have := hc i (by omega)
    rw [Addr.add_lit] at this
    rw [show (zs.take len).getD i 0 = zs.getD i 0 by simp [List.getD_eq_getElem?_getD, hi]]
    exact this
end

/-- The cache, the document's cache, and what else is held (whole blocks), side by side; all in new memory. -/
def Duo (w0 w : World) (ex : List (Nat × Obj)) (c rb room : Nat) (L M : List (Int × ByteArray)) : Prop :=
  ∃ own ro, ISIs w c room own L ∧ RefIs w rb room ro M ∧ (∀ b ∈ own, w0.heap.size ≤ b) ∧ (∀ b ∈ ro, w0.heap.size ≤ b) ∧ (∀ b ∈ own, b ∉ ro) ∧
    (∀ p ∈ ex, w.heap[p.1]? = some p.2 ∧ p.1 ∉ own ∧ p.1 ∉ ro) ∧ Below w0.heap.size w0 w

theorem RefIs.mem {w : World} {rb room : Nat} {own : List Nat} {L : List (Int × ByteArray)} (h : RefIs w rb room own L) : rb ∈ own := by
  obtain ⟨v, _, rfl⟩ := h
  exact List.mem_cons_self ..

section
variable {w0 w w' : World} {ex : List (Nat × Obj)} {c rb room : Nat} {L M L' : List (Int × ByteArray)}

theorem Duo.kept (h : Duo w0 w ex c rb room L M) (hb : Below w.heap.size w w') : Duo w0 w' ex c rb room L M := by
  obtain ⟨own, ro, hc, hr, h1, h2, h3, h4, h5⟩ := h
  have k : Kept (fun _ => False) w w' := Kept.of_below hb _
  exact ⟨own, ro, hc.kept k (fun _ _ h => h), hr.kept k (fun _ _ h => h), h1, h2, h3, fun p hp => ⟨k.get (h4 p hp).1 id, (h4 p hp).2⟩, h5.trans (hb.mono h5.size)⟩


theorem Duo.turnC {own ro : List Nat} (hr : RefIs w rb room ro M) (h1 : ∀ b ∈ own, w0.heap.size ≤ b) (h2 : ∀ b ∈ ro, w0.heap.size ≤ b) (h3 : ∀ b ∈ own, b ∉ ro)
    (h4 : ∀ p ∈ ex, w.heap[p.1]? = some p.2 ∧ p.1 ∉ own ∧ p.1 ∉ ro) (h5 : Below w0.heap.size w0 w) (ht : ISTurn w w' c room own L') : Duo w0 w' ex c rb room L' M := by
  obtain ⟨own', hc, hsub, k⟩ := ht
  refine ⟨own', ro, hc, hr.kept k (fun b hb hb' => h3 b hb' hb), fun b hb => ?_, h2, fun b hb hb' => ?_, fun p hp => ⟨k.get (h4 p hp).1 (h4 p hp).2.1, fun hb => ?_, (h4 p hp).2.2⟩, k.below h5 h5.size (fun i hi => h1 i hi)⟩
  · rcases hsub b hb with hb | hb
    · exact h1 b hb
    · exact Nat.le_trans h5.size hb
  · rcases hsub b hb with hb | hb
    · exact h3 b hb hb'
    · have := hr.lt b hb'; omega
  · rcases hsub p.1 hb with hb | hb
    · exact (h4 p hp).2.1 hb
    · have := lt_of_block (h4 p hp).1; omega

theorem Duo.turnR {own ro : List Nat} (hc : ISIs w c room own L) (hrb : rb ∈ ro) (h1 : ∀ b ∈ own, w0.heap.size ≤ b) (h2 : ∀ b ∈ ro, w0.heap.size ≤ b) (h3 : ∀ b ∈ own, b ∉ ro)
    (h4 : ∀ p ∈ ex, w.heap[p.1]? = some p.2 ∧ p.1 ∉ own ∧ p.1 ∉ ro) (h5 : Below w0.heap.size w0 w) (ht : RefTurn w w' rb room ro L') : Duo w0 w' ex c rb room L L' := by
  obtain ⟨ro', hr, hsub, k⟩ := ht
  refine ⟨own, ro', hc.kept k (fun b hb e => h3 b hb (e ▸ hrb)), hr, h1, fun b hb => ?_, fun b hb hb' => ?_, fun p hp => ⟨k.get (h4 p hp).1 (fun e => (h4 p hp).2.2 (e ▸ hrb)), (h4 p hp).2.1, fun hb => ?_⟩, k.below h5 h5.size (fun i hi => hi ▸ h2 rb hrb)⟩
  · rcases hsub b hb with hb | hb
    · exact h2 b hb
    · exact Nat.le_trans h5.size hb
  · rcases hsub b hb' with hb' | hb'
    · exact h3 b hb hb'
    · have := hc.lt b hb; omega
  · rcases hsub p.1 hb with hb | hb
    · exact (h4 p hp).2.2 hb
    · have := lt_of_block (h4 p hp).1; omega

theorem Duo.get (h : Duo w0 w ex c rb room L M) (k : Int) : Calls Try.prog 12 #[.pointer (some ⟨c, 0, none⟩), .int .i64 k] w fun e w' => e = .returned (.tuple #[orZero Value.string (.string ⟨#[]⟩) (look k L), .bool (look k L).isSome]) ∧ Duo w0 w' ex c rb room (used k L) M := by
  obtain ⟨own, ro, hc, hr, h1, h2, h3, h4, h5⟩ := h
  exact (lawGetIS w c room own L k hc).mono fun _ _ ⟨he, ht⟩ => ⟨he, .turnC hr h1 h2 h3 h4 h5 ht⟩
theorem Duo.put (h : Duo w0 w ex c rb room L M) (k : Int) (s : ByteArray) : Calls Try.prog 14 #[.pointer (some ⟨c, 0, none⟩), .int .i64 k, .string s] w fun e w' => e = .returned (.tuple #[orZero (Value.int .i64) (.int .i64 0) (goes room k L), .bool (goes room k L).isSome]) ∧ Duo w0 w' ex c rb room (putIn room k s L) M := by
  obtain ⟨own, ro, hc, hr, h1, h2, h3, h4, h5⟩ := h
  exact (lawPutIS w c room own L k s hc).mono fun _ _ ⟨he, ht⟩ => ⟨he, .turnC hr h1 h2 h3 h4 h5 ht⟩
theorem Duo.drop (h : Duo w0 w ex c rb room L M) (k : Int) : Calls Try.prog 16 #[.pointer (some ⟨c, 0, none⟩), .int .i64 k] w fun e w' => e = .returned (.bool (look k L).isSome) ∧ Duo w0 w' ex c rb room (without k L) M := by
  obtain ⟨own, ro, hc, hr, h1, h2, h3, h4, h5⟩ := h
  exact (lawDropIS w c room own L k hc).mono fun _ _ ⟨he, ht⟩ => ⟨he, .turnC hr h1 h2 h3 h4 h5 ht⟩
theorem Duo.keys (h : Duo w0 w ex c rb room L M) : Calls Try.prog 11 #[.pointer (some ⟨c, 0, none⟩)] w fun e w' => ∃ v, e = .returned v ∧ w'.ownsRow w.heap.size 3 1 v L.length ((L.map (·.1)).map (Value.int .i64)) ∧ Below w.heap.size w w' := by
  obtain ⟨own, ro, hc, _⟩ := h
  refine (lawKeysIS w c room own L hc).mono fun _ _ ⟨v, he, hown, hbb⟩ => ⟨v, he, ?_, hbb⟩
  rw [List.map_map]; exact hown

theorem Duo.refGet (h : Duo w0 w ex c rb room L M) (hnd : (M.map (·.1)).Nodup) (k : Int) : Calls Try.prog 13 #[.pointer (some ⟨rb, 0, none⟩), .int .i64 k] w fun e w' => e = .returned (.tuple #[.string ((look k M).getD ⟨#[]⟩), .bool (look k M).isSome]) ∧ Duo w0 w' ex c rb room L (used k M) := by
  obtain ⟨own, ro, hc, hr, h1, h2, h3, h4, h5⟩ := h
  exact (Ytggpmnhbplmagaa.refGet w rb room ro M k hr hnd).mono fun _ _ ⟨he, ht⟩ => ⟨he, .turnR hc hr.mem h1 h2 h3 h4 h5 ht⟩
theorem Duo.refPut (h : Duo w0 w ex c rb room L M) (hnd : (M.map (·.1)).Nodup) (hl : M.length ≤ room) (h1' : 1 ≤ room) (hrm : room ≤ 65536) (k : Int) (s : ByteArray) : Calls Try.prog 15 #[.pointer (some ⟨rb, 0, none⟩), .int .i64 k, .string s] w fun e w' => e = .returned (.tuple #[orZero (Value.int .i64) (.int .i64 0) (goes room k M), .bool (goes room k M).isSome]) ∧ Duo w0 w' ex c rb room L (putIn room k s M) := by
  obtain ⟨own, ro, hc, hr, h1, h2, h3, h4, h5⟩ := h
  exact (Ytggpmnhbplmagaa.refPut w rb room ro M k s hr hnd hl h1' hrm).mono fun _ _ ⟨he, ht⟩ => ⟨he, .turnR hc hr.mem h1 h2 h3 h4 h5 ht⟩
theorem Duo.refDrop (h : Duo w0 w ex c rb room L M) (hnd : (M.map (·.1)).Nodup) (k : Int) : Calls Try.prog 17 #[.pointer (some ⟨rb, 0, none⟩), .int .i64 k] w fun e w' => e = .returned (.bool (look k M).isSome) ∧ Duo w0 w' ex c rb room L (without k M) := by
  obtain ⟨own, ro, hc, hr, h1, h2, h3, h4, h5⟩ := h
  exact (Ytggpmnhbplmagaa.refDrop w rb room ro M k hr hnd).mono fun _ _ ⟨he, ht⟩ => ⟨he, .turnR hc hr.mem h1 h2 h3 h4 h5 ht⟩
theorem Duo.refKeys (h : Duo w0 w ex c rb room L M) : Calls Try.prog 19 #[.pointer (some ⟨rb, 0, none⟩)] w fun e w' => ∃ v, e = .returned v ∧ w'.ownsRow w.heap.size 3 1 v M.length ((M.map (·.1)).map (Value.int .i64)) ∧ Below w.heap.size w w' := by
  obtain ⟨own, ro, hc, hr, _⟩ := h
  exact Ytggpmnhbplmagaa.refKeys w rb room ro M hr

/-- A new block is held besides. -/
theorem Duo.alloc (h : Duo w0 w ex c rb room L M) (o : Obj) : Duo w0 (w.alloc o) ((w.heap.size, o) :: ex) c rb room L M := by
  obtain ⟨own, ro, hc, hr, h1, h2, h3, h4, h5⟩ := h
  have k : Kept (fun _ => False) w (w.alloc o) := (Kept.refl _ w).alloc o
  refine ⟨own, ro, hc.kept k (fun _ _ h => h), hr.kept k (fun _ _ h => h), h1, h2, h3, fun p hp => ?_, h5.alloc h5.size _⟩
  rcases List.mem_cons.1 hp with rfl | hp
  · exact ⟨alloc_at w o, fun hb => by have := hc.lt _ hb; simp at this, fun hb => by have := hr.lt _ hb; simp at this⟩
  · exact ⟨k.get (h4 p hp).1 id, (h4 p hp).2⟩
theorem Duo.forget (h : Duo w0 w ex c rb room L M) : Duo w0 w [] c rb room L M := by
  obtain ⟨own, ro, hc, hr, h1, h2, h3, h4, h5⟩ := h
  exact ⟨own, ro, hc, hr, h1, h2, h3, (fun p hp => by cases hp), h5⟩
theorem Duo.drew (h : Duo w0 w ex c rb room L M) : Duo w0 w.drew ex c rb room L M := h.kept (Below.refl _ _).drew
theorem Duo.drewN (h : Duo w0 w ex c rb room L M) (n : Nat) : Duo w0 (w.drewN n) ex c rb room L M := h.kept (below_drewN (Below.refl _ _) n)
theorem Duo.good (h : Duo w0 w ex c rb room L M) : (L.map (·.1)).Nodup ∧ L.length ≤ room ∧ 1 ≤ room ∧ room ≤ 65536 := by
  obtain ⟨own, ro, hc, _⟩ := h
  have := hc.nodup
  obtain ⟨m, r, l, _, _, rfl, h1, h2, h3⟩ := hc
  exact ⟨this, h1, h2, h3⟩
theorem Duo.held (h : Duo w0 w ex c rb room L M) {p : Nat × Obj} (hp : p ∈ ex) : w.heap[p.1]? = some p.2 := by
  obtain ⟨own, ro, hc, hr, h1, h2, h3, h4, h5⟩ := h
  exact (h4 p hp).1
theorem Duo.below (h : Duo w0 w ex c rb room L M) : Below w0.heap.size w0 w := by
  obtain ⟨own, ro, hc, hr, h1, h2, h3, h4, h5⟩ := h
  exact h5
end

end Go.Proofs.Ytggpmnhbplmagaa
