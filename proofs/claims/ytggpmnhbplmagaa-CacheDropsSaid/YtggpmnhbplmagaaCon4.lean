/-
  What New makes, and what Keys answers; at [int, string] and at [string, int]. Printed by wip/gen/cache_con4.py.
-/
import Derived.Test.YtggpmnhbplmagaaCon3
namespace Go.Proofs.Ytggpmnhbplmagaa
open Go.RowKit Go.Conc

/-- The length of a slice's value. -/
def lenOf : Value → Nat | .slice _ n _ => n | _ => 0
theorem lenOf_owns {w : World} {base e size n : Nat} {v : Value} {xs : List Value} (h : w.ownsRow base e size v n xs) : lenOf v = n := by
  rcases h.2 with ⟨rfl, rfl⟩ | ⟨g, cap, cur, rfl, _⟩ <;> rfl
theorem one_new {w : World} {u : Value} {e : TypeId} : ∀ (j : Nat) (x : Value), [u][j]? = some x → (w.alloc (.cells #[u] e)).cell? ((⟨w.heap.size, 0, none⟩ : Addr).add j) = some x := by
  intro j x hj
  match j, hj with
  | 0, hj => simp at hj; subst hj; simp [Addr.add]

/-! ### at [Int, ByteArray] -/
set_option maxHeartbeats 1000000 in
theorem newIS_raw (n : Int) (h1 : 1 ≤ n) (h2 : n ≤ 65536) (w : World) :
    Calls Try.prog 9 #[.int .i64 n] w fun e w' => e = .returned (.tuple #[.pointer (some ⟨w.heap.size + 1 + 1, 0, none⟩), .int .i64 0]) ∧
      w' = (((w.alloc (.map #[] 0)).alloc (.cells #[.int .i64 0, .string ⟨#[]⟩, ptr (w.heap.size + 1), ptr (w.heap.size + 1)] 57)).alloc (.cells #[.int .i64 n, .map (some w.heap.size), ptr (w.heap.size + 1)] 59)).drew := by
  have hmm := @run_makeMap Try.prog
  have d1 : decide (n < 1) = false := by simp; omega
  have d2 : decide (65536 < n) = false := by simp; omega
  go_enter Try.func9, Try.ntmps9
  go_wp2
  go_region
  go_wp2
  go_ret2
  exact ⟨rfl, rfl⟩

theorem newIS (n : Int) (h1 : 1 ≤ n) (h2 : n ≤ 65536) (w : World) :
    Calls Try.prog 9 #[.int .i64 n] w fun e w' => e = .returned (.tuple #[.pointer (some ⟨w.heap.size + 2, 0, none⟩), .int .i64 0]) ∧
      ISCache w' (w.heap.size + 2) w.heap.size (w.heap.size + 1) n.toNat [] ∧ Below w.heap.size w w' ∧ w'.heap.size = w.heap.size + 3 := by
  refine (newIS_raw n h1 h2 w).mono fun e w' ⟨he, hw⟩ => ⟨he, ?_⟩
  subst hw
  obtain ⟨k, rfl⟩ := Int.eq_ofNat_of_zero_le (show 0 ≤ n by omega)
  have s1 : (w.alloc (.map #[] 0)).heap.size = w.heap.size + 1 := by simp
  have s2 : ((w.alloc (.map #[] 0)).alloc (.cells #[.int .i64 0, .string ⟨#[]⟩, ptr (w.heap.size + 1), ptr (w.heap.size + 1)] 57)).heap.size = w.heap.size + 2 := by simp
  have b2 := alloc_at ((w.alloc (.map #[] 0)).alloc (.cells #[.int .i64 0, .string ⟨#[]⟩, ptr (w.heap.size + 1), ptr (w.heap.size + 1)] 57)) (.cells #[.int .i64 (k : Int), .map (some w.heap.size), ptr (w.heap.size + 1)] 59)
  rw [s2] at b2
  have b1 := alloc_at (w.alloc (.map #[] 0)) (.cells #[.int .i64 0, .string ⟨#[]⟩, ptr (w.heap.size + 1), ptr (w.heap.size + 1)] 57)
  rw [s1] at b1
  have b1' : (((w.alloc (.map #[] 0)).alloc (.cells #[.int .i64 0, .string ⟨#[]⟩, ptr (w.heap.size + 1), ptr (w.heap.size + 1)] 57)).alloc (.cells #[.int .i64 (k : Int), .map (some w.heap.size), ptr (w.heap.size + 1)] 59)).heap[w.heap.size + 1]? = some (.cells #[.int .i64 0, .string ⟨#[]⟩, ptr (w.heap.size + 1), ptr (w.heap.size + 1)] 57 (0, 0)) := by
    rw [alloc_old _ _ (by rw [s2]; omega)]; exact b1
  have hk : Kept (fun _ => False) (w.alloc (.map #[] 0)) (((w.alloc (.map #[] 0)).alloc (.cells #[.int .i64 0, .string ⟨#[]⟩, ptr (w.heap.size + 1), ptr (w.heap.size + 1)] 57)).alloc (.cells #[.int .i64 (k : Int), .map (some w.heap.size), ptr (w.heap.size + 1)] 59)).drew := (((Kept.refl _ _).alloc _).alloc _).drew
  refine ⟨⟨by rw [Int.toNat_natCast]; exact b2, ⟨⟨_, _, b1'⟩, by simp, ⟨⟨?_, ?_⟩, trivial⟩, by simp⟩, ⟨[], (tab_new w).kept hk (fun h => h), by simp⟩, by simp; omega⟩, ?_, by simp⟩
  · show World.cell? (World.drew _) _ = _
    rw [World.cell?_drew, cell_of b1']; rfl
  · show World.cell? (World.drew _) _ = _
    rw [World.cell?_drew, cell_of b1']; rfl
  · exact ((((Below.refl _ _).alloc (Nat.le_refl _) _).alloc (by simp) _).alloc (by simp; omega) _).drew

set_option maxHeartbeats 400000 in
theorem newIS_no (n : Int) (h : n < 1 ∨ 65536 < n) (w : World) :
    Calls Try.prog 9 #[.int .i64 n] w fun e w' => e = .returned (.tuple #[.pointer none, .int .i64 40]) ∧ w' = w := by
  rcases h with h | h
  · go_enter Try.func9, Try.ntmps9
    go_wp2
    go_ret2
    exact ⟨rfl, rfl⟩
  · have h' : ¬ n < 1 := by omega
    go_enter Try.func9, Try.ntmps9
    go_wp2
    go_ret2
    exact ⟨rfl, rfl⟩

theorem infoKIS : (Try.prog.info? 3).map (fun i => (i.zero, i.size, i.bytes)) = some (some (.int .i64 0), 1, 8) := by kernel_rfl
theorem infoEIS : ∃ i, Try.prog.info? 57 = some i ∧ i.size ≠ 0 := by
  have h : (Try.prog.info? 57).map (fun i => i.size != 0) = some true := by kernel_rfl
  obtain ⟨i, hi, hb⟩ := Option.map_eq_some_iff.1 h
  exact ⟨i, hi, by simpa using hb⟩

set_option maxHeartbeats 1000000 in
theorem keysIS (w : World) (c m r room : Nat) (l : List (Ent Int ByteArray)) (h : ISCache w c m r room l) :
    Calls Try.prog 11 #[.pointer (some ⟨c, 0, none⟩)] w fun en w' => ∃ v, en = .returned v ∧ w'.ownsRow w.heap.size 3 1 v l.length (l.map fun e => (Value.int .i64) e.key) ∧ Below w.heap.size w w' := by
  obtain ⟨i0, hi, hz0, hz1, hz2⟩ := info_parts infoKIS
  obtain ⟨iE, hiE, hsE⟩ := infoEIS
  have c2 : w.cell? ⟨c, 2, none⟩ = some (ptr r) := by rw [cell_of h.cb]; rfl
  have r3 : w.cell? ⟨r, 3, none⟩ = some (ptr (blkAt r l 0)) := h.ring.nextRoot
  have hlen := h.fits.1
  have H := Lib.hid h
  have HI := Lib.hid (And.intro hiE hsE)
  clear h hiE hsE
  go_enter Try.func11, Try.ntmps11
  go_wp2
  go_loopw [3, 4] (fun v x wr => ∃ k : Nat, k ≤ l.length ∧ x = ptr (blkAt r l k) ∧ wr.ownsRow w.heap.size 3 1 v k ((l.take k).map fun e => (Value.int .i64) e.key) ∧ Below w.heap.size w wr) (fun v _ _ => l.length - lenOf v)
  case atStart => exact ⟨0, Nat.zero_le _, rfl, World.ownsRow_nil _ _ _ _, Below.refl _ _⟩
  case round =>
    obtain ⟨k, hk, rfl, hown, hnx⟩ := hrel
    have hcr : ISCache wr c m r room l := H.out.kept (Kept.of_below hnx (fun _ => False)) (fun _ _ h => h)
    have c2r : wr.cell? ⟨c, 2, none⟩ = some (ptr r) := by rw [cell_of hcr.cb]; rfl
    obtain ⟨pr, nr, hrb⟩ := hcr.ring.root
    by_cases hlt : k < l.length
    · have hb : blkAt r l k = (l[k]).blk := blkAt_lt hlt
      have hmem : l[k] ∈ l := List.getElem_mem hlt
      have hnd := hcr.ring.nodes _ hmem
      have hnext := hcr.ring.nextAt hlt
      obtain ⟨b, hbb⟩ : ∃ b, b = blkAt r l k := ⟨_, rfl⟩
      obtain ⟨b', hbb'⟩ : ∃ b', b' = blkAt r l (k + 1) := ⟨_, rfl⟩
      obtain ⟨ky, hky⟩ : ∃ ky, ky = (l[k]).key := ⟨_, rfl⟩
      rw [← hbb, ← hbb'] at hnext
      rw [← hb, ← hbb, ← hky] at hnd
      have hbr : b ≠ r := by
        rw [hbb, hb]
        intro e
        exact (List.nodup_cons.1 hcr.ring.nodup).1 (by rw [← e]; exact List.mem_map.2 ⟨_, hmem, rfl⟩)
      have hneq : (Go.binOp .neq 55 (.pointer (some ⟨b, 0, none⟩)) (.pointer (some ⟨r, 0, none⟩))).run Try.prog wr = .ok (.bool true) wr := by
        obtain ⟨p, n, hnb⟩ := hnd
        exact run_neq_ptr_other wr Try.underlying55 HI.out.1 HI.out.2 (fun e => hbr (congrArg Addr.block e)) hnb hrb
      have k0 : wr.cell? ⟨b, 0, none⟩ = some ((Value.int .i64) ky) := hnd.cell0
      have hbl : b < w.heap.size := by
        rw [hbb, hb]; exact H.out.lt _ (by simp only [List.mem_cons, List.mem_map]; exact .inr (.inr (.inr ⟨_, hmem, rfl⟩)))
      have HN := Lib.hid (And.intro hnext (And.intro hbl hbr))
      have HB := Lib.hid (And.intro hbb (And.intro hbb' hky))
      have HO := Lib.hid (And.intro hown hnx)
      rw [← hbb]
      clear hnext hbl hbr hnd hb hmem hbb hbb' hky hcr hrb
      go_wp2_with (at_builtin; refine wpList_append_own _ rfl _ _ 27 rfl w.heap.size 3 i0 (.int .i64 0) 1 8 Try.underlying27 hi hz0 hz1 hz2 rfl (by decide) _ _ _ rfl (hown.alloc _) ⟨wr.heap.size, 0, none⟩ 1 1 [(Value.int .i64) ky] rfl rfl ?c1 ?c2 ?c3 ?c4 ?c5 ?_)
      case c1 => exact one_new
      case c2 => intro u hu; simp at hu; subst hu; rfl
      case c3 => unfold maxLen; omega
      case c4 => omega
      case c5 => have := hnx.size; simp; omega
      · intro v' w1 hown' hgrow _
        have hn1 : w1.cell? ⟨b, 3, none⟩ = some (ptr b') := by
          refine hgrow.cell (?_ : (wr.alloc _).cell? _ = _) ?_
          · rw [World.cell?_alloc_lt _ _ _ (by have := HN.out.2.1; have := HO.out.2.size; show b < _; omega)]
            exact HN.out.1
          · intro e
            have h1 := (hown.lt _ e.symm).1
            have h2 := HN.out.2.1
            simp only at h1
            omega
        have HW := Lib.hid (And.intro hown' hgrow)
        clear hown' hgrow hown hnx
        go_wp2
        go_roundw
        case rel =>
          obtain ⟨hown', hgrow⟩ := HW.out
          obtain ⟨hown, hnx⟩ := HO.out
          obtain ⟨_, hbb', hky⟩ := HB.out
          refine ⟨k + 1, by omega, by rw [hbb'], ?_, (hnx.alloc hnx.size _).grown hgrow (by have := hnx.size; simp; omega) (fun i hi => (hown.lt _ hi).1)⟩
          rw [List.take_succ_eq_append_getElem hlt, List.map_append]
          simpa [hky] using hown'
        case measure =>
          obtain ⟨hown', _⟩ := HW.out
          rw [lenOf_owns hown', lenOf_owns HO.out.1]
          omega
    · obtain rfl : k = l.length := by omega
      have hneq : (Go.binOp .neq 55 (.pointer (some ⟨r, 0, none⟩)) (.pointer (some ⟨r, 0, none⟩))).run Try.prog wr = .ok (.bool false) wr :=
        run_neq_ptr_one wr _ Try.underlying55 HI.out.1
      have HO := Lib.hid (And.intro hown hnx)
      rw [blkAt_end]
      clear hown hnx hcr hrb hlt
      go_wp2
      go_ret
      obtain ⟨hown, hnx⟩ := HO.out
      rw [List.take_length] at hown
      exact ⟨_, rfl, hown, hnx⟩

/-! ### at [ByteArray, Int] -/
set_option maxHeartbeats 1000000 in
theorem newSI_raw (n : Int) (h1 : 1 ≤ n) (h2 : n ≤ 65536) (w : World) :
    Calls Try.prog 20 #[.int .i64 n] w fun e w' => e = .returned (.tuple #[.pointer (some ⟨w.heap.size + 1 + 1, 0, none⟩), .int .i64 0]) ∧
      w' = (((w.alloc (.map #[] 0)).alloc (.cells #[.string ⟨#[]⟩, .int .i64 0, ptr (w.heap.size + 1), ptr (w.heap.size + 1)] 69)).alloc (.cells #[.int .i64 n, .map (some w.heap.size), ptr (w.heap.size + 1)] 71)).drew := by
  have hmm := @run_makeMap Try.prog
  have d1 : decide (n < 1) = false := by simp; omega
  have d2 : decide (65536 < n) = false := by simp; omega
  go_enter Try.func20, Try.ntmps20
  go_wp2
  go_region
  go_wp2
  go_ret2
  exact ⟨rfl, rfl⟩

theorem newSI (n : Int) (h1 : 1 ≤ n) (h2 : n ≤ 65536) (w : World) :
    Calls Try.prog 20 #[.int .i64 n] w fun e w' => e = .returned (.tuple #[.pointer (some ⟨w.heap.size + 2, 0, none⟩), .int .i64 0]) ∧
      SICache w' (w.heap.size + 2) w.heap.size (w.heap.size + 1) n.toNat [] ∧ Below w.heap.size w w' ∧ w'.heap.size = w.heap.size + 3 := by
  refine (newSI_raw n h1 h2 w).mono fun e w' ⟨he, hw⟩ => ⟨he, ?_⟩
  subst hw
  obtain ⟨k, rfl⟩ := Int.eq_ofNat_of_zero_le (show 0 ≤ n by omega)
  have s1 : (w.alloc (.map #[] 0)).heap.size = w.heap.size + 1 := by simp
  have s2 : ((w.alloc (.map #[] 0)).alloc (.cells #[.string ⟨#[]⟩, .int .i64 0, ptr (w.heap.size + 1), ptr (w.heap.size + 1)] 69)).heap.size = w.heap.size + 2 := by simp
  have b2 := alloc_at ((w.alloc (.map #[] 0)).alloc (.cells #[.string ⟨#[]⟩, .int .i64 0, ptr (w.heap.size + 1), ptr (w.heap.size + 1)] 69)) (.cells #[.int .i64 (k : Int), .map (some w.heap.size), ptr (w.heap.size + 1)] 71)
  rw [s2] at b2
  have b1 := alloc_at (w.alloc (.map #[] 0)) (.cells #[.string ⟨#[]⟩, .int .i64 0, ptr (w.heap.size + 1), ptr (w.heap.size + 1)] 69)
  rw [s1] at b1
  have b1' : (((w.alloc (.map #[] 0)).alloc (.cells #[.string ⟨#[]⟩, .int .i64 0, ptr (w.heap.size + 1), ptr (w.heap.size + 1)] 69)).alloc (.cells #[.int .i64 (k : Int), .map (some w.heap.size), ptr (w.heap.size + 1)] 71)).heap[w.heap.size + 1]? = some (.cells #[.string ⟨#[]⟩, .int .i64 0, ptr (w.heap.size + 1), ptr (w.heap.size + 1)] 69 (0, 0)) := by
    rw [alloc_old _ _ (by rw [s2]; omega)]; exact b1
  have hk : Kept (fun _ => False) (w.alloc (.map #[] 0)) (((w.alloc (.map #[] 0)).alloc (.cells #[.string ⟨#[]⟩, .int .i64 0, ptr (w.heap.size + 1), ptr (w.heap.size + 1)] 69)).alloc (.cells #[.int .i64 (k : Int), .map (some w.heap.size), ptr (w.heap.size + 1)] 71)).drew := (((Kept.refl _ _).alloc _).alloc _).drew
  refine ⟨⟨by rw [Int.toNat_natCast]; exact b2, ⟨⟨_, _, b1'⟩, by simp, ⟨⟨?_, ?_⟩, trivial⟩, by simp⟩, ⟨[], (tab_new w).kept hk (fun h => h), by simp⟩, by simp; omega⟩, ?_, by simp⟩
  · show World.cell? (World.drew _) _ = _
    rw [World.cell?_drew, cell_of b1']; rfl
  · show World.cell? (World.drew _) _ = _
    rw [World.cell?_drew, cell_of b1']; rfl
  · exact ((((Below.refl _ _).alloc (Nat.le_refl _) _).alloc (by simp) _).alloc (by simp; omega) _).drew

set_option maxHeartbeats 400000 in
theorem newSI_no (n : Int) (h : n < 1 ∨ 65536 < n) (w : World) :
    Calls Try.prog 20 #[.int .i64 n] w fun e w' => e = .returned (.tuple #[.pointer none, .int .i64 40]) ∧ w' = w := by
  rcases h with h | h
  · go_enter Try.func20, Try.ntmps20
    go_wp2
    go_ret2
    exact ⟨rfl, rfl⟩
  · have h' : ¬ n < 1 := by omega
    go_enter Try.func20, Try.ntmps20
    go_wp2
    go_ret2
    exact ⟨rfl, rfl⟩

theorem infoKSI : (Try.prog.info? 9).map (fun i => (i.zero, i.size, i.bytes)) = some (some (.string ⟨#[]⟩), 1, 16) := by kernel_rfl
theorem infoESI : ∃ i, Try.prog.info? 69 = some i ∧ i.size ≠ 0 := by
  have h : (Try.prog.info? 69).map (fun i => i.size != 0) = some true := by kernel_rfl
  obtain ⟨i, hi, hb⟩ := Option.map_eq_some_iff.1 h
  exact ⟨i, hi, by simpa using hb⟩

set_option maxHeartbeats 1000000 in
theorem keysSI (w : World) (c m r room : Nat) (l : List (Ent ByteArray Int)) (h : SICache w c m r room l) :
    Calls Try.prog 24 #[.pointer (some ⟨c, 0, none⟩)] w fun en w' => ∃ v, en = .returned v ∧ w'.ownsRow w.heap.size 9 1 v l.length (l.map fun e => (Value.string) e.key) ∧ Below w.heap.size w w' := by
  obtain ⟨i0, hi, hz0, hz1, hz2⟩ := info_parts infoKSI
  obtain ⟨iE, hiE, hsE⟩ := infoESI
  have c2 : w.cell? ⟨c, 2, none⟩ = some (ptr r) := by rw [cell_of h.cb]; rfl
  have r3 : w.cell? ⟨r, 3, none⟩ = some (ptr (blkAt r l 0)) := h.ring.nextRoot
  have hlen := h.fits.1
  have H := Lib.hid h
  have HI := Lib.hid (And.intro hiE hsE)
  clear h hiE hsE
  go_enter Try.func24, Try.ntmps24
  go_wp2
  go_loopw [3, 4] (fun v x wr => ∃ k : Nat, k ≤ l.length ∧ x = ptr (blkAt r l k) ∧ wr.ownsRow w.heap.size 9 1 v k ((l.take k).map fun e => (Value.string) e.key) ∧ Below w.heap.size w wr) (fun v _ _ => l.length - lenOf v)
  case atStart => exact ⟨0, Nat.zero_le _, rfl, World.ownsRow_nil _ _ _ _, Below.refl _ _⟩
  case round =>
    obtain ⟨k, hk, rfl, hown, hnx⟩ := hrel
    have hcr : SICache wr c m r room l := H.out.kept (Kept.of_below hnx (fun _ => False)) (fun _ _ h => h)
    have c2r : wr.cell? ⟨c, 2, none⟩ = some (ptr r) := by rw [cell_of hcr.cb]; rfl
    obtain ⟨pr, nr, hrb⟩ := hcr.ring.root
    by_cases hlt : k < l.length
    · have hb : blkAt r l k = (l[k]).blk := blkAt_lt hlt
      have hmem : l[k] ∈ l := List.getElem_mem hlt
      have hnd := hcr.ring.nodes _ hmem
      have hnext := hcr.ring.nextAt hlt
      obtain ⟨b, hbb⟩ : ∃ b, b = blkAt r l k := ⟨_, rfl⟩
      obtain ⟨b', hbb'⟩ : ∃ b', b' = blkAt r l (k + 1) := ⟨_, rfl⟩
      obtain ⟨ky, hky⟩ : ∃ ky, ky = (l[k]).key := ⟨_, rfl⟩
      rw [← hbb, ← hbb'] at hnext
      rw [← hb, ← hbb, ← hky] at hnd
      have hbr : b ≠ r := by
        rw [hbb, hb]
        intro e
        exact (List.nodup_cons.1 hcr.ring.nodup).1 (by rw [← e]; exact List.mem_map.2 ⟨_, hmem, rfl⟩)
      have hneq : (Go.binOp .neq 67 (.pointer (some ⟨b, 0, none⟩)) (.pointer (some ⟨r, 0, none⟩))).run Try.prog wr = .ok (.bool true) wr := by
        obtain ⟨p, n, hnb⟩ := hnd
        exact run_neq_ptr_other wr Try.underlying67 HI.out.1 HI.out.2 (fun e => hbr (congrArg Addr.block e)) hnb hrb
      have k0 : wr.cell? ⟨b, 0, none⟩ = some ((Value.string) ky) := hnd.cell0
      have hbl : b < w.heap.size := by
        rw [hbb, hb]; exact H.out.lt _ (by simp only [List.mem_cons, List.mem_map]; exact .inr (.inr (.inr ⟨_, hmem, rfl⟩)))
      have HN := Lib.hid (And.intro hnext (And.intro hbl hbr))
      have HB := Lib.hid (And.intro hbb (And.intro hbb' hky))
      have HO := Lib.hid (And.intro hown hnx)
      rw [← hbb]
      clear hnext hbl hbr hnd hb hmem hbb hbb' hky hcr hrb
      go_wp2_with (at_builtin; refine wpList_append_own _ rfl _ _ 50 rfl w.heap.size 9 i0 (.string ⟨#[]⟩) 1 16 Try.underlying50 hi hz0 hz1 hz2 rfl (by decide) _ _ _ rfl (hown.alloc _) ⟨wr.heap.size, 0, none⟩ 1 1 [(Value.string) ky] rfl rfl ?c1 ?c2 ?c3 ?c4 ?c5 ?_)
      case c1 => exact one_new
      case c2 => intro u hu; simp at hu; subst hu; rfl
      case c3 => unfold maxLen; omega
      case c4 => omega
      case c5 => have := hnx.size; simp; omega
      · intro v' w1 hown' hgrow _
        have hn1 : w1.cell? ⟨b, 3, none⟩ = some (ptr b') := by
          refine hgrow.cell (?_ : (wr.alloc _).cell? _ = _) ?_
          · rw [World.cell?_alloc_lt _ _ _ (by have := HN.out.2.1; have := HO.out.2.size; show b < _; omega)]
            exact HN.out.1
          · intro e
            have h1 := (hown.lt _ e.symm).1
            have h2 := HN.out.2.1
            simp only at h1
            omega
        have HW := Lib.hid (And.intro hown' hgrow)
        clear hown' hgrow hown hnx
        go_wp2
        go_roundw
        case rel =>
          obtain ⟨hown', hgrow⟩ := HW.out
          obtain ⟨hown, hnx⟩ := HO.out
          obtain ⟨_, hbb', hky⟩ := HB.out
          refine ⟨k + 1, by omega, by rw [hbb'], ?_, (hnx.alloc hnx.size _).grown hgrow (by have := hnx.size; simp; omega) (fun i hi => (hown.lt _ hi).1)⟩
          rw [List.take_succ_eq_append_getElem hlt, List.map_append]
          simpa [hky] using hown'
        case measure =>
          obtain ⟨hown', _⟩ := HW.out
          rw [lenOf_owns hown', lenOf_owns HO.out.1]
          omega
    · obtain rfl : k = l.length := by omega
      have hneq : (Go.binOp .neq 67 (.pointer (some ⟨r, 0, none⟩)) (.pointer (some ⟨r, 0, none⟩))).run Try.prog wr = .ok (.bool false) wr :=
        run_neq_ptr_one wr _ Try.underlying67 HI.out.1
      have HO := Lib.hid (And.intro hown hnx)
      rw [blkAt_end]
      clear hown hnx hcr hrb hlt
      go_wp2
      go_ret
      obtain ⟨hown, hnx⟩ := HO.out
      rw [List.take_length] at hown
      exact ⟨_, rfl, hown, hnx⟩

end Go.Proofs.Ytggpmnhbplmagaa
