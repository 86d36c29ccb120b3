/-
  The link and the document's link side by side, and what else is held.
-/
import Derived.Test.YteolokckflckaaaRef4
import Derived.Test.YteolokckflckaaaOps
namespace Go.Proofs.Yteolokckflckaaa
open Go.RowKit Go.Conc

def Duo (w0 w : World) (ex : List (Nat × Obj)) (p b room : Nat) (C : List ByteArray) (T : List (ByteArray × Nat)) (C' : List ByteArray) (T' : List (ByteArray × Nat)) : Prop :=
  ∃ own ro, LinkIs w p room own C T ∧ RefIs w b room ro C' T' ∧ (∀ k ∈ own, w0.heap.size ≤ k) ∧ (∀ k ∈ ro, w0.heap.size ≤ k) ∧ (∀ k ∈ own, k ∉ ro) ∧
    (∀ e ∈ ex, w.heap[e.1]? = some e.2 ∧ e.1 ∉ own ∧ e.1 ∉ ro) ∧ Below w0.heap.size w0 w ∧ Good T ∧ Good T'

section
variable {w0 w w' : World} {ex : List (Nat × Obj)} {p b room : Nat} {C C' C2 : List ByteArray} {T T' T2 : List (ByteArray × Nat)} {own ro : List Nat}

theorem Duo.kept (h : Duo w0 w ex p b room C T C' T') (hb : Below w.heap.size w w') : Duo w0 w' ex p b room C T C' T' := by
  obtain ⟨own, ro, hc, hr, h1, h2, h3, h4, h5, h6⟩ := h
  have k : Kept (fun _ => False) w w' := Kept.of_below hb _
  exact ⟨own, ro, hc.below hb, hr.below hb, h1, h2, h3, fun e he => ⟨k.get (h4 e he).1 id, (h4 e he).2⟩, h5.trans (hb.mono h5.size), h6⟩
theorem Duo.drew (h : Duo w0 w ex p b room C T C' T') : Duo w0 w.drew ex p b room C T C' T' := h.kept (Below.refl _ _).drew
theorem Duo.drewN (h : Duo w0 w ex p b room C T C' T') (n : Nat) : Duo w0 (w.drewN n) ex p b room C T C' T' := h.kept (below_drewN (Below.refl _ _) n)
theorem Duo.below (h : Duo w0 w ex p b room C T C' T') : Below w0.heap.size w0 w := by
  obtain ⟨own, ro, hc, hr, h1, h2, h3, h4, h5, h6⟩ := h
  exact h5
theorem Duo.held (h : Duo w0 w ex p b room C T C' T') {e : Nat × Obj} (he : e ∈ ex) : w.heap[e.1]? = some e.2 := by
  obtain ⟨own, ro, hc, hr, h1, h2, h3, h4, h5, h6⟩ := h
  exact (h4 e he).1
theorem Duo.forget (h : Duo w0 w ex p b room C T C' T') : Duo w0 w [] p b room C T C' T' := by
  obtain ⟨own, ro, hc, hr, h1, h2, h3, h4, h5, h6⟩ := h
  exact ⟨own, ro, hc, hr, h1, h2, h3, (fun e he => by cases he), h5, h6⟩
theorem Duo.alloc (h : Duo w0 w ex p b room C T C' T') (o : Obj) : Duo w0 (w.alloc o) ((w.heap.size, o) :: ex) p b room C T C' T' := by
  have hb : Below w.heap.size w (w.alloc o) := (Below.refl _ _).alloc (Nat.le_refl _) o
  obtain ⟨own, ro, hc, hr, h1, h2, h3, h4, h5, h6⟩ := h
  have k : Kept (fun _ => False) w (w.alloc o) := Kept.of_below hb _
  refine ⟨own, ro, hc.below hb, hr.below hb, h1, h2, h3, fun e he => ?_, h5.trans (hb.mono h5.size), h6⟩
  rcases List.mem_cons.1 he with rfl | he
  · exact ⟨alloc_at w o, fun hm => by have := hc.lt _ hm; simp only at this; omega, fun hm => by have := hr.lt _ hm; simp only at this; omega⟩
  · exact ⟨k.get (h4 e he).1 id, (h4 e he).2⟩

theorem Duo.turnC (hr : RefIs w b room ro C' T') (h1 : ∀ k ∈ own, w0.heap.size ≤ k) (h2 : ∀ k ∈ ro, w0.heap.size ≤ k) (h3 : ∀ k ∈ own, k ∉ ro) (h4 : ∀ e ∈ ex, w.heap[e.1]? = some e.2 ∧ e.1 ∉ own ∧ e.1 ∉ ro) (h5 : Below w0.heap.size w0 w)
    (ht : LinkTurn w w' p room own C2 T2) (hg : Good T2) (hg' : Good T') : Duo w0 w' ex p b room C2 T2 C' T' := by
  obtain ⟨own', hc, hsub, k⟩ := ht
  refine ⟨own', ro, hc, hr.kept k (fun i hi hi' => h3 i hi' hi), fun i hi => ?_, h2, fun i hi hi' => ?_, fun e he => ⟨k.get (h4 e he).1 (h4 e he).2.1, fun hm => ?_, (h4 e he).2.2⟩, k.below h5 h5.size (fun i hi => h1 i hi), hg, hg'⟩
  · rcases hsub i hi with hi | hi
    · exact h1 i hi
    · exact Nat.le_trans h5.size hi
  · rcases hsub i hi with hi | hi
    · exact h3 i hi hi'
    · have := hr.lt i hi'; omega
  · rcases hsub e.1 hm with hm | hm
    · exact (h4 e he).2.1 hm
    · have := lt_of_block (h4 e he).1; omega
theorem Duo.turnR (hc : LinkIs w p room own C T) (hb : b ∈ ro) (h1 : ∀ k ∈ own, w0.heap.size ≤ k) (h2 : ∀ k ∈ ro, w0.heap.size ≤ k) (h3 : ∀ k ∈ own, k ∉ ro) (h4 : ∀ e ∈ ex, w.heap[e.1]? = some e.2 ∧ e.1 ∉ own ∧ e.1 ∉ ro) (h5 : Below w0.heap.size w0 w)
    (ht : RefTurn w w' b room ro C2 T2) (hg : Good T) (hg' : Good T2) : Duo w0 w' ex p b room C T C2 T2 := by
  obtain ⟨ro', hr, hsub, k⟩ := ht
  refine ⟨own, ro', hc.kept k (fun i hi e => h3 i hi (e ▸ hb)), hr, h1, fun i hi => ?_, fun i hi hi' => ?_, fun e he => ⟨k.get (h4 e he).1 (fun e' => (h4 e he).2.2 (e' ▸ hb)), (h4 e he).2.1, fun hm => ?_⟩, k.below h5 h5.size (fun i hi => hi ▸ h2 b hb), hg, hg'⟩
  · rcases hsub i hi with hi | hi
    · exact h2 i hi
    · exact Nat.le_trans h5.size hi
  · rcases hsub i hi' with hi' | hi'
    · exact h3 i hi hi'
    · have := hc.lt i hi; omega
  · rcases hsub e.1 hm with hm | hm
    · exact (h4 e he).2.2 hm
    · have := lt_of_block (h4 e he).1; omega

theorem Good.sent {T : List (ByteArray × Nat)} (h : Good T) (s : ByteArray) (k n : Int) : Good (if mayB k n then sendT T s k n else T) := by
  cases hm : mayB k n with
  | true => exact h.send s k n hm
  | false => exact h

theorem Duo.send (h : Duo w0 w ex p b room C T C' T') (hT : T.length < 100000) (s : ByteArray) (k n m : Int) :
    Calls Try.prog 8 #[.pointer (some ⟨p, 0, none⟩), .string s, fate k n m] w fun e w' => e = .returned (.int .i64 (if mayB k n then 0 else 180)) ∧
      Duo w0 w' ex p b room (if mayB k n then sendC room C s k n m else C) (if mayB k n then sendT T s k n else T) C' T' := by
  obtain ⟨own, ro, hc, hr, h1, h2, h3, h4, h5, h6, h7⟩ := h
  exact (Yteolokckflckaaa.send w p room own C T s k n m hc hT).mono fun _ _ ⟨he, ht⟩ => ⟨he, .turnC hr h1 h2 h3 h4 h5 ht (h6.sent s k n) h7⟩
theorem Duo.take (h : Duo w0 w ex p b room C T C' T') :
    Calls Try.prog 10 #[.pointer (some ⟨p, 0, none⟩)] w fun e w' => e = .returned (.tuple #[.string (headS C), .bool (!C.isEmpty)]) ∧ Duo w0 w' ex p b room C.tail T C' T' := by
  obtain ⟨own, ro, hc, hr, h1, h2, h3, h4, h5, h6, h7⟩ := h
  exact (Yteolokckflckaaa.take w p room own C T hc).mono fun _ _ ⟨he, ht⟩ => ⟨he, .turnC hr h1 h2 h3 h4 h5 ht h6 h7⟩
theorem Duo.step (h : Duo w0 w ex p b room C T C' T') :
    Calls Try.prog 9 #[.pointer (some ⟨p, 0, none⟩)] w fun e w' => e = .returned (.tuple #[]) ∧ Duo w0 w' ex p b room (stepC room C T) (stepT T) C' T' := by
  obtain ⟨own, ro, hc, hr, h1, h2, h3, h4, h5, h6, h7⟩ := h
  exact (step_walk w p room own C T hc h6).mono fun _ _ ⟨he, ht⟩ => ⟨he, .turnC hr h1 h2 h3 h4 h5 ht h6.step h7⟩
theorem Duo.cut (h : Duo w0 w ex p b room C T C' T') :
    Calls Try.prog 16 #[.pointer (some ⟨p, 0, none⟩)] w fun e w' => e = .returned (.tuple #[]) ∧ Duo w0 w' ex p b room [] [] C' T' := by
  obtain ⟨own, ro, hc, hr, h1, h2, h3, h4, h5, h6, h7⟩ := h
  exact (Yteolokckflckaaa.cut w p room own C T hc).mono fun _ _ ⟨he, ht⟩ => ⟨he, .turnC hr h1 h2 h3 h4 h5 ht Good.nil h7⟩
theorem Duo.waits (h : Duo w0 w ex p b room C T C' T') :
    Calls Try.prog 11 #[.pointer (some ⟨p, 0, none⟩)] w fun e w' => e = .returned (.tuple #[.int .i64 C.length, .int .i64 T.length]) ∧ Duo w0 w' ex p b room C T C' T' := by
  have h' := h
  obtain ⟨own, ro, hc, hr, h1, h2, h3, h4, h5, h6, h7⟩ := h
  refine (Yteolokckflckaaa.waits w p room own C T hc).mono fun _ _ ⟨he, n, hw⟩ => ⟨he, ?_⟩
  subst hw
  exact h'.drewN n
theorem Duo.refSend (h : Duo w0 w ex p b room C T C' T') (hT : T'.length < 100000) (s : ByteArray) (k n m : Int) :
    Calls Try.prog 13 #[.pointer (some ⟨b, 0, none⟩), .string s, fate k n m] w fun e w' => e = .returned (.int .i64 (if mayB k n then 0 else 180)) ∧
      Duo w0 w' ex p b room C T (if mayB k n then sendC room C' s k n m else C') (if mayB k n then sendT T' s k n else T') := by
  obtain ⟨own, ro, hc, hr, h1, h2, h3, h4, h5, h6, h7⟩ := h
  exact (Yteolokckflckaaa.refSend w b room ro C' T' s k n m hr hT).mono fun _ _ ⟨he, ht⟩ => ⟨he, .turnR hc hr.mem h1 h2 h3 h4 h5 ht h6 (h7.sent s k n)⟩
theorem Duo.refTake (h : Duo w0 w ex p b room C T C' T') :
    Calls Try.prog 15 #[.pointer (some ⟨b, 0, none⟩)] w fun e w' => e = .returned (.tuple #[.string (headS C'), .bool (!C'.isEmpty)]) ∧ Duo w0 w' ex p b room C T C'.tail T' := by
  obtain ⟨own, ro, hc, hr, h1, h2, h3, h4, h5, h6, h7⟩ := h
  exact (Yteolokckflckaaa.refTake w b room ro C' T' hr).mono fun _ _ ⟨he, ht⟩ => ⟨he, .turnR hc hr.mem h1 h2 h3 h4 h5 ht h6 h7⟩
theorem Duo.refStep (h : Duo w0 w ex p b room C T C' T') :
    Calls Try.prog 14 #[.pointer (some ⟨b, 0, none⟩)] w fun e w' => e = .returned (.tuple #[]) ∧ Duo w0 w' ex p b room C T (stepC room C' T') (stepT T') := by
  obtain ⟨own, ro, hc, hr, h1, h2, h3, h4, h5, h6, h7⟩ := h
  exact (refStep_walk w b room ro C' T' hr h7).mono fun _ _ ⟨he, ht⟩ => ⟨he, .turnR hc hr.mem h1 h2 h3 h4 h5 ht h6 h7.step⟩

/-- The document's link anew. -/
theorem Duo.fresh (h : Duo w0 w ex p b room C T C' T') : Duo w0 (w.alloc (.cells #[.int .i64 room, .slice none 0 0, .slice none 0 0] 42)) ex p w.heap.size room C T [] [] := by
  have hb : Below w.heap.size w (w.alloc (.cells #[.int .i64 room, .slice none 0 0, .slice none 0 0] 42)) := (Below.refl _ _).alloc (Nat.le_refl _) _
  obtain ⟨own, ro, hc, hr, h1, h2, h3, h4, h5, h6, h7⟩ := h
  have hroom : room ≤ 4096 := by
    obtain ⟨vc, vl, hl, _⟩ := hc
    exact hl.2.2.2.2.1
  have k : Kept (fun _ => False) w (w.alloc (.cells #[.int .i64 room, .slice none 0 0, .slice none 0 0] 42)) := Kept.of_below hb _
  refine ⟨own, [w.heap.size], hc.below hb, ⟨.slice none 0 0, .slice none 0 0, ⟨alloc_at w _, World.ownsRow_nil _ _ _ _, World.ownsRow_nil _ _ _ _, Nat.zero_le _, hroom, Nat.zero_le _⟩, rfl⟩, h1, fun i hi => ?_, fun i hi hi' => ?_, fun e he => ⟨k.get (h4 e he).1 id, (h4 e he).2.1, fun hm => ?_⟩, h5.trans (hb.mono h5.size), h6, Good.nil⟩
  · rw [List.mem_singleton.1 hi]; exact h5.size
  · rw [List.mem_singleton.1 hi'] at hi
    have := hc.lt _ hi
    omega
  · have := lt_of_block (h4 e he).1
    rw [List.mem_singleton] at hm
    omega
theorem Duo.start (h : One w0 w p room C T) : Duo w0 (w.alloc (.cells #[.int .i64 room, .slice none 0 0, .slice none 0 0] 42)) [] p w.heap.size room C T [] [] := by
  have hb : Below w.heap.size w (w.alloc (.cells #[.int .i64 room, .slice none 0 0, .slice none 0 0] 42)) := (Below.refl _ _).alloc (Nat.le_refl _) _
  obtain ⟨own, hc, h1, h5, h6⟩ := h
  have hroom : room ≤ 4096 := by
    obtain ⟨vc, vl, hl, _⟩ := hc
    exact hl.2.2.2.2.1
  refine ⟨own, [w.heap.size], hc.below hb, ⟨.slice none 0 0, .slice none 0 0, ⟨alloc_at w _, World.ownsRow_nil _ _ _ _, World.ownsRow_nil _ _ _ _, Nat.zero_le _, hroom, Nat.zero_le _⟩, rfl⟩, h1, fun i hi => ?_, fun i hi hi' => ?_, (fun e he => by cases he), h5.trans (hb.mono h5.size), h6, Good.nil⟩
  · rw [List.mem_singleton.1 hi]; exact h5.size
  · rw [List.mem_singleton.1 hi'] at hi
    have := hc.lt _ hi
    omega
/-- Where the document's link has its lengths. -/
theorem Duo.lens (h : Duo w0 w ex p b room C T C' T') : ∃ a1 k1 a2 k2, w.cell? ⟨b, 1, none⟩ = some (.slice a1 C'.length k1) ∧ w.cell? ⟨b, 2, none⟩ = some (.slice a2 T'.length k2) := by
  obtain ⟨own, ro, hc, ⟨vc, vl, hr, _⟩, _⟩ := h
  obtain ⟨a1, k1, h1⟩ := shape_of hr.2.1
  obtain ⟨a2, k2, h2⟩ := shape_of hr.2.2.1
  exact ⟨a1, k1, a2, k2, by rw [cell_of hr.1, ← h1]; rfl, by rw [cell_of hr.1, ← h2]; rfl⟩
end

end Go.Proofs.Yteolokckflckaaa
