/-
  PipeDoes (stillagelaw05): what is held besides the six; how the six are made.
-/
import Derived.Test.YtknjniadphoflaaSix5
namespace Go.Proofs.Ytknjniadphoflaa
open Go.RowKit Go.Conc

section
variable {w0 w w' : World} {ex : List (Nat × Obj)} {p c b R : Nat → Nat} {L : Nat → List Int} {C : Nat → Bool} {L' : Nat → List Int} {C' : Nat → Bool}

theorem Six.kept (h : Six w0 w ex p c b R L C L' C') (hb : Below w.heap.size w w') : Six w0 w' ex p c b R L C L' C' := by
  obtain ⟨own, h1, h2, h3, h4, h5, h6, h7⟩ := h
  have k : Kept (fun _ => False) w w' := Kept.of_below hb _
  exact ⟨own, fun i hi => (h1 i hi).kept k id id, fun i hi => (h2 i hi).kept k (fun _ _ h => h), h3, h4, h5, fun e he => ⟨k.get (h6 e he).1 id, (h6 e he).2⟩, h7.trans (hb.mono h7.size)⟩
theorem Six.drew (h : Six w0 w ex p c b R L C L' C') : Six w0 w.drew ex p c b R L C L' C' := h.kept (Below.refl _ _).drew
theorem Six.drewN (h : Six w0 w ex p c b R L C L' C') (n : Nat) : Six w0 (w.drewN n) ex p c b R L C L' C' := h.kept (below_drewN (Below.refl _ _) n)
theorem Six.held (h : Six w0 w ex p c b R L C L' C') {e : Nat × Obj} (he : e ∈ ex) : w.heap[e.1]? = some e.2 := by
  obtain ⟨own, h1, h2, h3, h4, h5, h6, h7⟩ := h
  exact (h6 e he).1
theorem Six.old (h : Six w0 w ex p c b R L C L' C') : Below w0.heap.size w0 w := by
  obtain ⟨own, h1, h2, h3, h4, h5, h6, h7⟩ := h
  exact h7
theorem Six.alloc (h : Six w0 w ex p c b R L C L' C') (o : Obj) : Six w0 (w.alloc o) ((w.heap.size, o) :: ex) p c b R L C L' C' := by
  have h' := h.kept ((Below.refl _ w).alloc (Nat.le_refl _) o)
  obtain ⟨own, h1, h2, h3, h4, h5, h6, h7⟩ := h
  obtain ⟨own', k1, k2, k3, k4, k5, k6, k7⟩ := h'
  have k : Kept (fun _ => False) w (w.alloc o) := (Kept.refl _ w).alloc o
  refine ⟨own, fun i hi => (h1 i hi).kept k id id, fun i hi => (h2 i hi).kept k (fun _ _ h => h), h3, h4, h5, fun e he => ?_, k7⟩
  rcases List.mem_cons.1 he with rfl | he
  · refine ⟨alloc_at w o, fun i hi => ⟨fun e => ?_, fun e => ?_, fun e => ?_⟩⟩
    · have := (h1 i hi).lt.1; simp only at e; omega
    · have := (h1 i hi).lt.2; simp only at e; omega
    · have := (h2 i hi).lt _ e; simp only at this; omega
  · exact ⟨k.get (h6 e he).1 id, (h6 e he).2⟩
theorem Six.forget {e : Nat × Obj} (h : Six w0 w (e :: ex) p c b R L C L' C') : Six w0 w ex p c b R L C L' C' := by
  obtain ⟨own, h1, h2, h3, h4, h5, h6, h7⟩ := h
  exact ⟨own, h1, h2, h3, h4, h5, fun e he => h6 e (List.mem_cons_of_mem _ he), h7⟩
/-- Where the document's pipe has its length. -/
theorem Six.docLen (h : Six w0 w ex p c b R L C L' C') {i : Nat} (hi : i < 3) : ∃ ao cap, w.cell? ⟨b i, 1, none⟩ = some (.slice ao (L' i).length cap) := by
  obtain ⟨own, h1, h2, h3, h4, h5, h6, h7⟩ := h
  obtain ⟨v, ⟨hr, hown, _⟩, _⟩ := h2 i hi
  obtain ⟨ao, cap, rfl⟩ := shape_of hown
  exact ⟨ao, cap, by rw [cell_of hr]; rfl⟩
end

/-- The pointer to a block. -/
abbrev ptr (k : Nat) : Value := .pointer (some ⟨k, 0, none⟩)

/-- k pipes and k of the document's, and the two slices that tell them. -/
def Built (w0 w : World) (vp vm : Value) (p c b R : Nat → Nat) (k : Nat) : Prop :=
  (∀ i, i < k → IntPipe w (p i) (c i) (R i) [] false ∧ w.heap[b i]? = some (.cells #[.int .i64 (R i), .slice none 0 0, .bool false] 38 (0, 0)) ∧ R i ≤ 4096 ∧ w0.heap.size ≤ p i ∧ w0.heap.size ≤ c i ∧ w0.heap.size ≤ b i) ∧
  (∀ i j, i < k → j < k → i ≠ j → p i ≠ p j ∧ c i ≠ c j ∧ b i ≠ b j) ∧
  w.ownsRow w0.heap.size 33 1 vp k ((List.range k).map fun i => ptr (p i)) ∧ w.ownsRow w0.heap.size 36 1 vm k ((List.range k).map fun i => ptr (b i)) ∧ Below w0.heap.size w0 w

theorem owns_block {w : World} {base : Nat} {e : TypeId} {size : Nat} {v : Value} {n : Nat} {xs : List Value} (h : w.ownsRow base e size v n xs) : ∀ k, v.ownBlock = some k → base ≤ k ∧ ∃ cur : Array Value, w.heap[k]? = some (.cells cur e (0, 0)) := by
  intro k hk
  rcases h.2 with ⟨rfl, _⟩ | ⟨g, cap, cur, rfl, hb, hg, _⟩
  · simp [Value.ownBlock] at hk
  · simp [Value.ownBlock] at hk
    subst hk
    exact ⟨hb, cur, hg⟩

/-- The six stay where only rows of pointers turn. -/
theorem built_part {w w' : World} {p c b R : Nat} {S : Nat → Prop} (k : Kept S w w') (hs : ∀ g, S g → ∃ (cur : Array Value) (e : TypeId), w.heap[g]? = some (.cells cur e (0, 0)) ∧ e ≠ 62 ∧ e ≠ 38)
    (h : IntPipe w p c R [] false) (hb : w.heap[b]? = some (.cells #[.int .i64 R, .slice none 0 0, .bool false] 38 (0, 0))) :
    IntPipe w' p c R [] false ∧ w'.heap[b]? = some (.cells #[.int .i64 R, .slice none 0 0, .bool false] 38 (0, 0)) := by
  refine ⟨h.kept k (fun hp => ?_) (fun hc => ?_), k.get hb (fun hg => ?_)⟩
  · obtain ⟨cur, e, h1, h2, _⟩ := hs _ hp
    rw [h.pb] at h1
    simp at h1
    exact h2 h1.2.symm
  · obtain ⟨cur, e, h1, _⟩ := hs _ hc
    obtain ⟨_, _, hcb⟩ := h.cb
    rw [hcb] at h1
    simp at h1
  · obtain ⟨cur, e, h1, _, h2⟩ := hs _ hg
    rw [hb] at h1
    simp at h1
    exact h2 h1.2.symm

theorem row_upd (f : Nat → Nat) (k v : Nat) : (List.range (k + 1)).map (fun i => ptr (upd f k v i)) = (List.range k).map (fun i => ptr (f i)) ++ [ptr v] := by
  rw [List.range_succ, List.map_append, List.map_singleton]
  congr 1
  · refine List.map_congr_left (fun i hi => ?_)
    rw [List.mem_range] at hi
    simp only [upd, if_neg (show i ≠ k by omega)]
  · simp [upd]

theorem Built.step {w0 w w1 w2 w3 : World} {vp vm vp2 vm3 : Value} {p c b R : Nat → Nat} {k r : Nat} {o1 o2 : Obj} (h : Built w0 w vp vm p c b R k)
    (hp : IntPipe w1 (w.heap.size + 1) w.heap.size r [] false) (hr : r ≤ 4096) (hb1 : Below w.heap.size w w1)
    (hown2 : w2.ownsRow w0.heap.size 33 1 vp2 (k + 1) ((List.range k).map (fun i => ptr (p i)) ++ [ptr (w.heap.size + 1)])) (hg2 : (w1.alloc o1).grownBy w2 vp.ownBlock)
    (hown3 : w3.ownsRow w0.heap.size 36 1 vm3 (k + 1) ((List.range k).map (fun i => ptr (b i)) ++ [ptr w2.heap.size])) (hg3 : ((w2.alloc (.cells #[.int .i64 r, .slice none 0 0, .bool false] 38)).alloc o2).grownBy w3 vm.ownBlock)
    (hs1 : w1.heap.size = w.heap.size + 2) :
    Built w0 w3 vp2 vm3 (upd p k (w.heap.size + 1)) (upd c k w.heap.size) (upd b k w2.heap.size) (upd R k r) (k + 1) := by
  obtain ⟨h1, h2, hvp, hvm, hw⟩ := h
  have kp : ∀ g, vp.ownBlock = some g → w0.heap.size ≤ g ∧ ∃ cur : Array Value, w.heap[g]? = some (.cells cur 33 (0, 0)) := owns_block hvp
  have km : ∀ g, vm.ownBlock = some g → w0.heap.size ≤ g ∧ ∃ cur : Array Value, w.heap[g]? = some (.cells cur 36 (0, 0)) := owns_block hvm
  have k2 : Kept (fun g => vp.ownBlock = some g) w1 w2 := by
    have k := (Kept.refl (fun _ => False) w1).alloc o1
    exact ⟨hg2.os.trans k.os, hg2.tape.trans k.tape, hg2.output.trans k.output, Nat.le_trans k.size hg2.size, fun i hi hs => (hg2.block i (Nat.lt_of_lt_of_le hi k.size) (fun e => hs e.symm)).trans (k.block i hi id)⟩
  have kd : Kept (fun _ => False) w2 ((w2.alloc (.cells #[.int .i64 r, .slice none 0 0, .bool false] 38)).alloc o2) := ((Kept.refl _ w2).alloc _).alloc _
  have k3 : Kept (fun g => vm.ownBlock = some g) w2 w3 :=
    ⟨hg3.os.trans kd.os, hg3.tape.trans kd.tape, hg3.output.trans kd.output, Nat.le_trans kd.size hg3.size, fun i hi hs => (hg3.block i (Nat.lt_of_lt_of_le hi kd.size) (fun e => hs e.symm)).trans (kd.block i hi id)⟩
  have k1 : Kept (fun _ => False) w w1 := Kept.of_below hb1 _
  have q1 : ∀ g, vp.ownBlock = some g → ∃ (cur : Array Value) (e : TypeId), w1.heap[g]? = some (.cells cur e (0, 0)) ∧ e ≠ 62 ∧ e ≠ 38 := fun g hg => by
    obtain ⟨_, cur, hc⟩ := kp g hg
    exact ⟨cur, 33, k1.get hc id, by decide, by decide⟩
  have hmp : ∀ g, vm.ownBlock = some g → vp.ownBlock ≠ some g := fun g hg hg' => by
    obtain ⟨_, cur, hc⟩ := km g hg
    obtain ⟨_, cur', hc'⟩ := kp g hg'
    rw [hc] at hc'
    simp at hc'
  have q2 : ∀ g, vm.ownBlock = some g → ∃ (cur : Array Value) (e : TypeId), w2.heap[g]? = some (.cells cur e (0, 0)) ∧ e ≠ 62 ∧ e ≠ 38 := fun g hg => by
    obtain ⟨_, cur, hc⟩ := km g hg
    exact ⟨cur, 36, k2.get (k1.get hc id) (hmp g hg), by decide, by decide⟩
  have hs2 : w1.heap.size ≤ w2.heap.size := k2.size
  have hs0 : w0.heap.size ≤ w.heap.size := hw.size
  have hdoc : w3.heap[w2.heap.size]? = some (.cells #[.int .i64 r, .slice none 0 0, .bool false] 38 (0, 0)) := by
    have a1 : ((w2.alloc (.cells #[.int .i64 r, .slice none 0 0, .bool false] 38)).alloc o2).heap[w2.heap.size]? = some (.cells #[.int .i64 r, .slice none 0 0, .bool false] 38 (0, 0)) := by
      rw [alloc_old _ _ (by simp)]
      exact alloc_at _ _
    rw [hg3.block w2.heap.size (lt_of_block a1) (fun e => ?_)]
    · exact a1
    · obtain ⟨_, cur, hc⟩ := km _ e.symm
      have := lt_of_block hc
      omega
  have hold : ∀ i, i < k → p i < w.heap.size ∧ c i < w.heap.size ∧ b i < w.heap.size := fun i hi => ⟨(h1 i hi).1.lt.1, (h1 i hi).1.lt.2, lt_of_block (h1 i hi).2.1⟩
  have hp2 : IntPipe w2 (w.heap.size + 1) w.heap.size r [] false := hp.kept k2 (fun e => by obtain ⟨_, cur, hc⟩ := kp _ e; have := lt_of_block hc; omega) (fun e => by obtain ⟨_, cur, hc⟩ := kp _ e; have := lt_of_block hc; omega)
  have hp3 : IntPipe w3 (w.heap.size + 1) w.heap.size r [] false := hp2.kept k3 (fun e => by obtain ⟨_, cur, hc⟩ := km _ e; have := lt_of_block hc; omega) (fun e => by obtain ⟨_, cur, hc⟩ := km _ e; have := lt_of_block hc; omega)
  refine ⟨fun i hi => ?_, fun i j hi hj hij => ?_, ?_, by rw [row_upd]; exact hown3, ?_⟩
  · by_cases e : i = k
    · subst e
      simp only [upd, if_true]
      exact ⟨hp3, hdoc, hr, by omega, by omega, by omega⟩
    · simp only [upd, if_neg e]
      obtain ⟨a1, a2, a3, a4⟩ := h1 i (by omega)
      obtain ⟨b1, b2⟩ := built_part k1 (fun _ h => h.elim) a1 a2
      obtain ⟨c1, c2⟩ := built_part k2 q1 b1 b2
      obtain ⟨d1, d2⟩ := built_part k3 q2 c1 c2
      exact ⟨d1, d2, a3, a4⟩
  · by_cases e : i = k
    · subst e
      have := hold j (by omega)
      simp only [upd, if_true, if_neg (Ne.symm hij)]
      omega
    · by_cases e' : j = k
      · subst e'
        have := hold i (by omega)
        simp only [upd, if_true, if_neg hij]
        omega
      · simp only [upd, if_neg e, if_neg e']
        exact h2 i j (by omega) (by omega) hij
  · rw [row_upd]
    refine owns_kept hown2 k3 (fun g hg hm => ?_)
    obtain ⟨_, cur, hc⟩ := owns_block hown2 g hg
    obtain ⟨_, cur', hc'⟩ := km g hm
    have := k2.get (k1.get hc' id) (hmp g hm)
    rw [hc] at this
    simp at this
  · have b1 : Below w0.heap.size w0 w1 := hw.trans (hb1.mono hw.size)
    have b2 := k2.below b1 b1.size (fun i hi => (kp i hi).1)
    exact k3.below b2 b2.size (fun i hi => (km i hi).1)

theorem Built.rowM {w0 w w1 w2 : World} {vp vm : Value} {p c b R : Nat → Nat} {k : Nat} {o1 : Obj} (h : Built w0 w vp vm p c b R k) (hb1 : Below w.heap.size w w1) (hg2 : (w1.alloc o1).grownBy w2 vp.ownBlock) :
    w2.ownsRow w0.heap.size 36 1 vm k ((List.range k).map fun i => ptr (b i)) := by
  obtain ⟨h1, h2, hvp, hvm, hw⟩ := h
  refine ((owns_kept hvm (Kept.of_below hb1 (fun _ => False)) (fun _ _ h => h)).alloc o1).kept hg2 ?_
  cases hv : vm.ownBlock with
  | none => exact .inl rfl
  | some g =>
    refine .inr (fun e => ?_)
    obtain ⟨_, cur, hc⟩ := owns_block hvm g hv
    obtain ⟨_, cur', hc'⟩ := owns_block hvp g e.symm
    rw [hc] at hc'
    simp at hc'

theorem Built.nil (w0 : World) (p c b R : Nat → Nat) {w : World} {vp vm : Value} (hb : Below w0.heap.size w0 w) (h1 : w.ownsRow w0.heap.size 33 1 vp 0 []) (h2 : w.ownsRow w0.heap.size 36 1 vm 0 []) : Built w0 w vp vm p c b R 0 :=
  ⟨fun i h => by omega, fun i j h => by omega, h1, h2, hb⟩

/-- All three are made. -/
theorem Built.six {w0 w : World} {vp vm : Value} {p c b R : Nat → Nat} (h : Built w0 w vp vm p c b R 3) :
    ∃ gp gm capp capm op om, vp = .slice (some ⟨gp, 0, none⟩) 3 capp ∧ vm = .slice (some ⟨gm, 0, none⟩) 3 capm ∧ Six w0 w [(gp, op), (gm, om)] p c b R (fun _ => []) (fun _ => false) (fun _ => []) (fun _ => false) ∧
      (∀ u : World, u.heap[gp]? = some op → ∀ i, i < 3 → u.cell? ⟨gp, i, none⟩ = some (ptr (p i))) ∧ (∀ u : World, u.heap[gm]? = some om → ∀ i, i < 3 → u.cell? ⟨gm, i, none⟩ = some (ptr (b i))) := by
  obtain ⟨h1, h2, hvp, hvm, hw⟩ := h
  rcases hvp.2 with ⟨_, h0⟩ | ⟨gp, capp, curp, rfl, hgp, hp, _, _, hcp, htp⟩
  · omega
  rcases hvm.2 with ⟨_, h0⟩ | ⟨gm, capm, curm, rfl, hgm, hm, _, _, hcm, htm⟩
  · omega
  refine ⟨gp, gm, capp, capm, .cells curp 33 (0, 0), .cells curm 36 (0, 0), rfl, rfl, ⟨fun i => [b i], fun i hi => (h1 i hi).1, fun i hi => ⟨.slice none 0 0, ⟨(h1 i hi).2.1, World.ownsRow_nil _ _ _ _, Nat.zero_le _, (h1 i hi).2.2.1⟩, rfl⟩, fun i hi => ?_, fun i j hi hj hij => ?_, fun i j hi hj => ?_, ?_, hw⟩, fun u hu i hi => ?_, fun u hu i hi => ?_⟩
  · obtain ⟨_, _, _, a, b, c⟩ := h1 i hi
    exact ⟨a, b, fun k hk => by rw [List.mem_singleton] at hk; subst hk; exact c⟩
  · obtain ⟨a, b, c⟩ := h2 i j hi hj hij
    exact ⟨a, b, fun k hk => by rw [List.mem_singleton] at hk ⊢; subst hk; exact c⟩
  · have hb := (h1 j hj).2.1
    have hp' := (h1 i hi).1
    refine ⟨fun e => ?_, fun e => ?_⟩
    · rw [List.mem_singleton] at e
      rw [← e, hp'.pb] at hb
      simp at hb
    · obtain ⟨_, _, hc⟩ := hp'.cb
      rw [List.mem_singleton] at e
      rw [← e, hc] at hb
      simp at hb
  · intro e he
    simp only [List.mem_cons, List.not_mem_nil, or_false] at he
    rcases he with rfl | rfl
    · refine ⟨hp, fun i hi => ⟨fun e => ?_, fun e => ?_, fun e => ?_⟩⟩
      · have := (h1 i hi).1.pb
        simp only at e
        rw [← e, hp] at this
        simp at this
      · obtain ⟨_, _, hc⟩ := (h1 i hi).1.cb
        simp only at e
        rw [← e, hp] at hc
        simp at hc
      · have := (h1 i hi).2.1
        rw [List.mem_singleton] at e
        simp only at e
        rw [← e, hp] at this
        simp at this
    · refine ⟨hm, fun i hi => ⟨fun e => ?_, fun e => ?_, fun e => ?_⟩⟩
      · have := (h1 i hi).1.pb
        simp only at e
        rw [← e, hm] at this
        simp at this
      · obtain ⟨_, _, hc⟩ := (h1 i hi).1.cb
        simp only at e
        rw [← e, hm] at hc
        simp at hc
      · have := (h1 i hi).2.1
        rw [List.mem_singleton] at e
        simp only at e
        rw [← e, hm] at this
        simp at this
  · have := congrArg (fun l => l[i]?) htp
    simp only [List.getElem?_map, List.getElem?_range hi, Option.map_some] at this
    rw [List.getElem?_take, if_pos (by omega), Array.getElem?_toList] at this
    rw [cell_of hu]
    exact this
  · have := congrArg (fun l => l[i]?) htm
    simp only [List.getElem?_map, List.getElem?_range hi, Option.map_some] at this
    rw [List.getElem?_take, if_pos (by omega), Array.getElem?_toList] at this
    rw [cell_of hu]
    exact this

end Go.Proofs.Ytknjniadphoflaa
