/-
  The document's cache (stillageref04): its calls, in the words of the plain model.
-/
import Derived.Test.YtggpmnhbplmagaaFixed
import Derived.Test.YtggpmnhbplmagaaApp
namespace Go.Proofs.Ytggpmnhbplmagaa
open Go.RowKit Go.Conc

/-- The cells of a list of things. -/
def cellsOf (L : List (Int × ByteArray)) : List Value := L.flatMap fun p => [.int .i64 p.1, .string p.2]
theorem cellsOf_length (L : List (Int × ByteArray)) : (cellsOf L).length = L.length * 2 := by
  induction L with
  | nil => rfl
  | cons p L ih => simp only [cellsOf, List.flatMap_cons, List.length_append, List.length_cons, List.length_nil] at ih ⊢; omega
theorem cellsOf_one (L : List (Int × ByteArray)) : ∀ u ∈ cellsOf L, u.oneCell' = true := by
  intro u hu
  obtain ⟨p, _, hu⟩ := List.mem_flatMap.1 hu
  simp only [List.mem_cons, List.not_mem_nil, or_false] at hu
  rcases hu with rfl | rfl <;> rfl
theorem cellsOf_append (L M : List (Int × ByteArray)) : cellsOf (L ++ M) = cellsOf L ++ cellsOf M := by simp [cellsOf]
theorem cellsOf_take (L : List (Int × ByteArray)) (j : Nat) (h : j ≤ L.length) : cellsOf (L.take j) = (cellsOf L).take (j * 2) := by
  have hl : (cellsOf (L.take j)).length = j * 2 := by rw [cellsOf_length, List.length_take, Nat.min_eq_left h]
  conv => rhs; rw [← List.take_append_drop j L, cellsOf_append, ← hl, List.take_left]
theorem cellsOf_drop (L : List (Int × ByteArray)) (j : Nat) (h : j ≤ L.length) : cellsOf (L.drop j) = (cellsOf L).drop (j * 2) := by
  have hl : (cellsOf (L.take j)).length = j * 2 := by rw [cellsOf_length, List.length_take, Nat.min_eq_left h]
  conv => rhs; rw [← List.take_append_drop j L, cellsOf_append, ← hl, List.drop_left]
theorem cellsOf_key (L : List (Int × ByteArray)) (j : Nat) (h : j < L.length) : (cellsOf L)[j * 2]? = some (.int .i64 (L[j]).1) ∧ (cellsOf L)[j * 2 + 1]? = some (.string (L[j]).2) := by
  have e : L = L.take j ++ L[j] :: L.drop (j + 1) := by rw [List.getElem_cons_drop, List.take_append_drop]
  have e2 : cellsOf L = cellsOf (L.take j) ++ ([.int .i64 (L[j]).1, .string (L[j]).2] ++ cellsOf (L.drop (j + 1))) := by
    conv => lhs; rw [e, cellsOf_append]
    rfl
  have hl : (cellsOf (L.take j)).length = j * 2 := by rw [cellsOf_length, List.length_take, Nat.min_eq_left (by omega)]
  rw [e2]
  constructor
  · rw [List.getElem?_append_right (by omega), hl]; simp
  · rw [List.getElem?_append_right (by omega), hl]; simp

/-- Where a key stands, counted from i; below 0: nowhere. -/
def atFrom (k : Int) : List (Int × ByteArray) → Nat → Int
  | [], _ => -1
  | p :: L, i => if p.1 = k then (i : Int) else atFrom k L (i + 1)
def atI (k : Int) (L : List (Int × ByteArray)) : Int := atFrom k L 0

theorem atFrom_split {k : Int} {v : ByteArray} {L2 : List (Int × ByteArray)} : ∀ {L1 : List (Int × ByteArray)} (i : Nat), (∀ p ∈ L1, p.1 ≠ k) → atFrom k (L1 ++ (k, v) :: L2) i = ((i + L1.length : Nat) : Int)
  | [], i, _ => by simp [atFrom]
  | q :: L1, i, h => by
    simp only [List.cons_append, atFrom]
    rw [if_neg (h q (List.mem_cons_self ..)), atFrom_split (i + 1) (fun p hp => h p (List.mem_cons_of_mem _ hp))]
    simp only [List.length_cons]
    congr 1
    omega
theorem atFrom_none {k : Int} : ∀ {L : List (Int × ByteArray)} (i : Nat), (∀ p ∈ L, p.1 ≠ k) → atFrom k L i = -1
  | [], i, _ => rfl
  | q :: L, i, h => by
    simp only [atFrom]
    rw [if_neg (h q (List.mem_cons_self ..)), atFrom_none (i + 1) (fun p hp => h p (List.mem_cons_of_mem _ hp))]
theorem atI_found {k : Int} {L : List (Int × ByteArray)} {j : Nat} (hj : j < L.length) (h : ∀ p ∈ L.take j, p.1 ≠ k) (hk : (L[j]).1 = k) : atI k L = (j : Int) := by
  have e : L = L.take j ++ (k, (L[j]).2) :: L.drop (j + 1) := by
    rw [← hk]
    conv => lhs; rw [← List.take_append_drop j L, List.drop_eq_getElem_cons hj]
  have := atFrom_split (v := (L[j]).2) (L2 := L.drop (j + 1)) 0 h
  rw [← e, List.length_take, Nat.min_eq_left (by omega)] at this
  simpa [atI] using this
theorem ret_int {a b : Int} (h : a = b) : Ending.returned (.int .i64 a) = Ending.returned (.int .i64 b) := by rw [h]

set_option maxHeartbeats 1000000 in
theorem at_some (w : World) (rb g cap n room : Nat) (k : Int) (L : List (Int × ByteArray)) (hr : w.heap[rb]? = some (.cells #[.int .i64 room, .slice (some ⟨g, 0, none⟩) n cap] 34 (0, 0)))
    (hn : n = L.length) (hm : n ≤ 100000) (hown : w.ownsRow 0 64 2 (.slice (some ⟨g, 0, none⟩) n cap) n (cellsOf L)) :
    Calls Try.prog 27 #[.pointer (some ⟨rb, 0, none⟩), .int .i64 k] w fun e w' => e = .returned (.int .i64 (atI k L)) ∧ w' = w := by
  have c1 : w.cell? ⟨rb, 1, none⟩ = some (.slice (some ⟨g, 0, none⟩) n cap) := by rw [cell_of hr]; rfl
  have H := Lib.hid (And.intro hn (And.intro hown hr))
  clear hn hown hr
  go_enter Try.func27, Try.ntmps27
  go_wp2
  go_loop [5] (fun i => ∃ j : Nat, j ≤ n ∧ i = .int .i64 j ∧ Hid (∀ p ∈ L.take j, p.1 ≠ k)) (fun i => n - (intOf i).toNat)
  case atStart => exact ⟨0, Nat.zero_le _, rfl, by unfold Hid; simp⟩
  case round =>
    obtain ⟨j, hj, rfl, hno⟩ := hrel
    by_cases hlt : j < n
    · obtain ⟨kj, hkj⟩ : ∃ kj, kj = (L[j]'(by have := H.out.1; omega)).1 := ⟨_, rfl⟩
      have cj : w.cell? ⟨g, j * 2, none⟩ = some (.int .i64 kj) := by
        have := H.out.2.1.cellAt (j * 2) (by omega)
        rw [this, hkj]
        exact (cellsOf_key L j _).1
      have HK := Lib.hid hkj
      clear hkj
      go_wp2
      · have hk : (kj == k) = true := by assumption
        go_ret
        refine ⟨ret_int (atI_found (by have := H.out.1; omega) hno.out ?_).symm, rfl⟩
        rw [← HK.out]
        simpa using hk
      · have hk : (kj == k) = false := by assumption
        go_round
        case rel =>
          refine ⟨j + 1, by omega, by go_num, ?_⟩
          unfold Hid
          intro p hp
          have hjl : j < L.length := by have := H.out.1; omega
          rw [List.take_succ_eq_append_getElem hjl] at hp
          rcases List.mem_append.1 hp with hp | hp
          · exact hno.out p hp
          · rw [List.mem_singleton.1 hp, ← HK.out]
            simpa using hk
        case measure => simp [intOf]; omega
    · obtain rfl : j = n := by omega
      clear hlt
      go_wp2
      go_ret
      refine ⟨ret_int ?_, rfl⟩
      have h1 := hno.out
      rw [H.out.1, List.take_length] at h1
      exact (atFrom_none 0 h1).symm

set_option maxHeartbeats 400000 in
theorem at_none (w : World) (rb room : Nat) (k : Int) (hr : w.heap[rb]? = some (.cells #[.int .i64 room, .slice none 0 0] 34 (0, 0))) :
    Calls Try.prog 27 #[.pointer (some ⟨rb, 0, none⟩), .int .i64 k] w fun e w' => e = .returned (.int .i64 (-1)) ∧ w' = w := by
  have c1 : w.cell? ⟨rb, 1, none⟩ = some (.slice none 0 0) := by rw [cell_of hr]; rfl
  clear hr
  go_enter Try.func27, Try.ntmps27
  go_wp2
  refine wp_loop_rounds 1 ?_
  rw [rounds_succ]
  go_wp2
  go_ret
  exact ⟨rfl, rfl⟩

/-- The document's cache in memory: its block, the row of its things, from block B on. -/
def RefAt (B : Nat) (w : World) (rb room : Nat) (v : Value) (L : List (Int × ByteArray)) : Prop :=
  w.heap[rb]? = some (.cells #[.int .i64 room, v] 34 (0, 0)) ∧ w.ownsRow B 64 2 v L.length (cellsOf L) ∧ L.length ≤ 100000

theorem refAt (B : Nat) (w : World) (rb room : Nat) (v : Value) (k : Int) (L : List (Int × ByteArray)) (h : RefAt B w rb room v L) :
    Calls Try.prog 27 #[.pointer (some ⟨rb, 0, none⟩), .int .i64 k] w fun e w' => e = .returned (.int .i64 (atI k L)) ∧ w' = w := by
  obtain ⟨hr, hown, hm⟩ := h
  rcases hown.2 with ⟨rfl, h0⟩ | ⟨g, cap, cur, rfl, _, rest⟩
  · rw [List.length_eq_zero_iff] at h0
    subst h0
    exact at_none w rb room k hr
  · exact at_some w rb g cap _ room k L hr rfl hm ⟨hown.1, .inr ⟨g, cap, cur, rfl, Nat.zero_le _, rest⟩⟩

theorem info64 : (Try.prog.info? 64).map (fun i => (i.zero, i.size, i.bytes)) = some (some (.agg #[.int .i64 0, .string ⟨#[]⟩]), 2, 24) := by kernel_rfl

theorem keepAlloc {w u : World} {rb g : Nat} {val : Value} {cur : Array Value} (hrb : rb < w.heap.size) (hgl : g < w.heap.size)
    (h : u.cell? ⟨rb, 1, none⟩ = some val ∧ u.heap[g]? = some (.cells cur 64 (0, 0)) ∧ Below w.heap.size w u) (o : Obj) :
    (u.alloc o).cell? ⟨rb, 1, none⟩ = some val ∧ (u.alloc o).heap[g]? = some (.cells cur 64 (0, 0)) ∧ Below w.heap.size w (u.alloc o) := by
  have hs := h.2.2.size
  exact ⟨by rw [World.cell?_alloc_lt _ _ _ (show rb < _ by omega)]; exact h.1, by rw [alloc_old _ _ (by omega)]; exact h.2.1, h.2.2.alloc hs _⟩
theorem keepGrow {w u u' : World} {rb g : Nat} {val : Value} {cur : Array Value} {row : Option Nat} (hrb : rb < w.heap.size) (hgl : g < w.heap.size)
    (h : u.cell? ⟨rb, 1, none⟩ = some val ∧ u.heap[g]? = some (.cells cur 64 (0, 0)) ∧ Below w.heap.size w u) (hg : u.grownBy u' row) (hr : ∀ k, row = some k → w.heap.size ≤ k) :
    u'.cell? ⟨rb, 1, none⟩ = some val ∧ u'.heap[g]? = some (.cells cur 64 (0, 0)) ∧ Below w.heap.size w u' := by
  have hs := h.2.2.size
  refine ⟨hg.cell h.1 (fun e => ?_), ?_, h.2.2.grown hg hs hr⟩
  · have := hr rb e.symm; omega
  · rw [hg.block g (by omega) (fun e => by have := hr g e.symm; omega)]; exact h.2.1

set_option maxHeartbeats 1000000 in
theorem without_walk (w : World) (rb g cap n room i : Nat) (L : List (Int × ByteArray)) (hr : w.heap[rb]? = some (.cells #[.int .i64 room, .slice (some ⟨g, 0, none⟩) n cap] 34 (0, 0)))
    (cur : Array Value) (hg : w.heap[g]? = some (.cells cur 64 (0, 0))) (hcap : n ≤ cap) (hcs : cur.size = cap * 2) (htake : cur.toList.take (n * 2) = cellsOf L) (hn : n = L.length) (hm : n ≤ 100000) (hi : i < n) :
    Calls Try.prog 28 #[.pointer (some ⟨rb, 0, none⟩), .int .i64 i] w fun e w' => ∃ v, e = .returned v ∧ w'.ownsRow w.heap.size 64 2 v (L.eraseIdx i).length (cellsOf (L.eraseIdx i)) ∧ Below w.heap.size w w' := by
  have c1 : w.cell? ⟨rb, 1, none⟩ = some (.slice (some ⟨g, 0, none⟩) n cap) := by rw [cell_of hr]; rfl
  obtain ⟨i0, hi0, hz0, hz1, hz2⟩ := info_parts info64
  have b0 : (0 : Int) ≤ (i : Int) := by omega
  have b1 : (i : Int) < (n : Int) := by omega
  have b2 : (n : Int) ≤ (cap : Int) := by omega
  have hu : Try.prog.elem 32 = 64 := by kernel_rfl
  have hsz : ∀ u : World, (sizeOf 64).run Try.prog u = .ok 2 u := fun u => by simp [sizeOf, typeInfo, hi0, hz1]
  have hul : Try.prog.underlying 32 = some (.slice (Try.prog.elem 32)) := by rw [hu]; exact Try.underlying32
  obtain ⟨y1, hy1⟩ : ∃ y1, y1 = sliced (some ⟨g, 0, none⟩) 0 i cap 2 := ⟨_, rfl⟩
  obtain ⟨y2, hy2⟩ : ∃ y2, y2 = sliced (some ⟨g, 0, none⟩) (i + 1) n cap 2 := ⟨_, rfl⟩
  have hs1 : ∀ u, (Instr.slice 32 (.slice (some ⟨g, 0, none⟩) n cap) none (some (.int .i64 (i : Int))) none).run Try.prog u = .ok y1 u := fun u => by
    have := run_slice_h (P := Try.prog) u 32 (some ⟨g, 0, none⟩) n cap hul .i64 (i : Int) b0 (by omega)
    rw [hu, hsz] at this
    simpa [Result.andThen, hy1] using this
  have hs2 : ∀ u, (Instr.slice 32 (.slice (some ⟨g, 0, none⟩) n cap) (some (.int .i64 ((i : Int) + 1))) none none).run Try.prog u = .ok y2 u := fun u => by
    have := run_slice_l (P := Try.prog) u 32 (some ⟨g, 0, none⟩) n cap hul .i64 ((i : Int) + 1) (by omega) (by omega)
    rw [hu, hsz, show ((i : Int) + 1).toNat = i + 1 from by omega] at this
    simpa [Result.andThen, hy2] using this
  have hw1 : IntKind.i64.wrap ((i : Int) + 1) = (i : Int) + 1 := IntWalk.i64_in _ (by omega)
  have hrb : rb < w.heap.size := lt_of_block hr
  have hgl : g < w.heap.size := lt_of_block hg
  have hS0 : (w.alloc (.cells #[] 64)).drew.cell? ⟨rb, 1, none⟩ = some (.slice (some ⟨g, 0, none⟩) n cap) ∧ (w.alloc (.cells #[] 64)).drew.heap[g]? = some (.cells cur 64 (0, 0)) ∧ Below w.heap.size w (w.alloc (.cells #[] 64)).drew :=
    keepAlloc (u := w.drew) hrb hgl ⟨c1, hg, (Below.refl _ _).drew⟩ (.cells #[] 64)
  have hone : ∀ m, m ≤ n → ∀ u ∈ cur.toList.take (m * 2), u.oneCell' = true := fun m hm u hu => by
    have h1 : cur.toList.take (m * 2) = (cellsOf L).take (m * 2) := by rw [← htake, List.take_take, Nat.min_eq_left (by omega)]
    rw [h1] at hu
    exact cellsOf_one L u (List.mem_of_mem_take hu)
  have hsrc1 : SrcIs (w.alloc (.cells #[] 64)).drew 2 y1 i ((cur.toList.take (i * 2)).drop (0 * 2)) := by
    rw [hy1]; exact SrcIs.cut hS0.2.1 (Nat.zero_le _) (by omega) (by omega) (hone i (by omega))
  have hsrc2 : ∀ u : World, u.heap[g]? = some (.cells cur 64 (0, 0)) → SrcIs u 2 y2 (n - (i + 1)) ((cur.toList.take (n * 2)).drop ((i + 1) * 2)) := fun u hu => by
    rw [hy2]; exact SrcIs.cut hu (by omega) (by omega) (by omega) (hone n (Nat.le_refl _))
  have hown0 : (w.alloc (.cells #[] 64)).drew.ownsRow w.heap.size 64 2 (.slice (some ⟨w.heap.size, 0, none⟩) 0 0) 0 [] :=
    ⟨rfl, .inr ⟨w.heap.size, 0, #[], rfl, Nat.le_refl _, alloc_at w _, Nat.le_refl _, Nat.zero_le _, rfl, rfl⟩⟩
  have hr1 : ∀ k, Value.ownBlock (.slice (some ⟨w.heap.size, 0, none⟩) 0 0) = some k → w.heap.size ≤ k := by
    intro k hk; simp [Value.ownBlock] at hk; omega
  have hb1 : w.heap.size ≤ (w.alloc (.cells #[] 64)).drew.heap.size := hS0.2.2.size
  have hml : ∀ m, m ≤ 100000 → m ≤ maxLen ∧ m * 24 ≤ 140737488355328 := fun m hm => by unfold maxLen; omega
  have H := Lib.hid (And.intro htake (And.intro hn hcs))
  have HH := Lib.hid (And.intro hu (And.intro hul hml))
  have H1 := Lib.hid (And.intro hsrc1 (And.intro hown0 (And.intro hb1 hS0)))
  have H2 := Lib.hid hsrc2
  clear htake hn hcs hy1 hy2 hu hul hsz hone hsrc1 hsrc2 hown0 hb1 hS0 hml
  go_enter Try.func28, Try.ntmps28
  go_wp2_with fail
  go_region_held3 (fun u => u.cell? ⟨rb, 1, none⟩ = some (.slice (some ⟨g, 0, none⟩) n cap) ∧ u.heap[g]? = some (.cells cur 64 (0, 0)) ∧ Below w.heap.size w u)
    (first | exact ⟨c1, hg, (Below.refl _ _).drew⟩ | assumption | exact keepAlloc hrb hgl (by assumption) _ | exact keepGrow hrb hgl (by assumption) (by assumption) (by assumption))
    (first
      | (refine step_append_src _ rfl (.tmp 5) (.tmp 11) 32 rfl w.heap.size 64 i0 _ 2 24 Try.underlying32 hi0 hz0 hz1 hz2 rfl (by decide) (.slice (some ⟨w.heap.size, 0, none⟩) 0 0) 0 [] rfl H1.out.2.1 y1 i _ rfl H1.out.1 (HH.out.2.2 _ (by omega)).1 (HH.out.2.2 _ (by omega)).2 H1.out.2.2.1 ?_
         intro v1 w1 hown1 hgrow1 hat1
         have hr2 : ∀ k, v1.ownBlock = some k → w.heap.size ≤ k := fun k hk => (hown1.lt k hk).1)
      | (refine step_append_src _ rfl (.tmp 12) (.tmp 19) 32 rfl w.heap.size 64 i0 _ 2 24 Try.underlying32 hi0 hz0 hz1 hz2 rfl (by decide) v1 (0 + i) _ rfl hown1 y2 (n - (i + 1)) _ rfl (H2.out _ (keepGrow hrb hgl H1.out.2.2.2 hgrow1 hr1).2.1) (HH.out.2.2 _ (by omega)).1 (HH.out.2.2 _ (by omega)).2 (keepGrow hrb hgl H1.out.2.2.2 hgrow1 hr1).2.2.size ?_
         intro v2 w2 hown2 hgrow2 hat2))
  go_wp2
  go_ret
  have hS2 := keepGrow hrb hgl (keepGrow hrb hgl H1.out.2.2.2 hgrow1 hr1) hgrow2 hr2
  refine ⟨_, rfl, ?_, hS2.2.2⟩
  obtain ⟨htake, hn, hcs⟩ := H.out
  have e1 : (L.eraseIdx i).length = 0 + i + (n - (i + 1)) := by rw [List.length_eraseIdx_of_lt (by omega)]; omega
  have e2 : cellsOf (L.eraseIdx i) = [] ++ (cur.toList.take (i * 2)).drop (0 * 2) ++ (cur.toList.take (n * 2)).drop ((i + 1) * 2) := by
    have h1 : cur.toList.take (i * 2) = (cellsOf L).take (i * 2) := by rw [← htake, List.take_take, Nat.min_eq_left (by omega)]
    rw [h1, htake, Nat.zero_mul, List.drop_zero, List.nil_append, ← cellsOf_take L i (by omega), ← cellsOf_drop L (i + 1) (by omega), ← cellsOf_append, List.eraseIdx_eq_take_drop_succ]
  rw [e1, e2]
  exact hown2

end Go.Proofs.Ytggpmnhbplmagaa
