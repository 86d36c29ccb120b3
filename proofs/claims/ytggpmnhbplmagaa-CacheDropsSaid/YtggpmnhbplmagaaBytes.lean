/-
  A text of a few bytes that the code builds, and a number's last six bits. And what two caches say of each other if the keys of one stand for the keys of the other, in plain Lean.
-/
import Derived.Test.YtggpmnhbplmagaaKin
import Derived.Laws.BytesString
import Derived.Laws.BitsLemmas
import Derived.Laws.Cells
namespace Go.Proofs.Ytggpmnhbplmagaa
open Go.RowKit Go.Conc

theorem and63 (n : Int) : 0 ≤ bits .and .i64 n 63 ∧ bits .and .i64 n 63 ≤ 63 := by
  have h : (BitVec.ofInt IntKind.i64.bits n &&& BitVec.ofInt IntKind.i64.bits 63).toNat ≤ 63 := by
    rw [BitVec.toNat_and]
    exact Nat.le_trans Nat.and_le_right (by decide)
  unfold bits
  dsimp only
  rw [IntKind.wrap_i64]
  omega

/-- The text of these bytes. -/
def byteStr (ms : List Int) : ByteArray := ms.foldl (fun r n => r.push (UInt8.ofNat n.toNat)) ByteArray.empty

theorem run_str (u : World) (b n : Nat) (ms : List Int) (hn : n = ms.length) (h : ∀ j m, ms[j]? = some m → u.cell? ⟨b, j, none⟩ = some (.int .u8 m)) :
    (convert 46 9 (.slice (some ⟨b, 0, none⟩) n n)).run Try.prog u = .ok (.string (byteStr ms)) u := by
  subst hn
  rw [run_convert_bytes_string u 46 9 5 _ _ _ Try.underlying46 Try.underlying5 Try.underlying9]
  refine run_bytesToString u _ _ _ ms ?_
  have := run_loadCells_list (P := Try.prog) (w := u) ⟨b, 0, none⟩ (ms.map (Value.int .u8)) (fun j v hj => by
    rw [List.getElem?_map] at hj
    cases hm : ms[j]? with
    | none => rw [hm] at hj; cases hj
    | some m =>
      rw [hm] at hj
      simp only [Option.map_some, Option.some.injEq] at hj
      subst hj
      have := h j m hm
      rw [Addr.add_lit]
      simpa using this)
  rw [List.length_map] at this
  exact this

theorem run_str1 (u : World) (b : Nat) (hb : b = u.heap.size) (m : Int) :
    (convert 46 9 (.slice (some ⟨b, 0, none⟩) 1 1)).run Try.prog (u.alloc (.cells #[.int .u8 m] 5)) = .ok (.string (byteStr [m])) (u.alloc (.cells #[.int .u8 m] 5)) := by
  subst hb
  refine run_str _ _ 1 [m] rfl fun j x hj => ?_
  rw [cell_of (alloc_at u _)]
  match j, hj with
  | 0, hj => simp at hj; subst hj; rfl

theorem run_str2 (u : World) (b : Nat) (hb : b = u.heap.size) (m m' : Int) :
    (convert 46 9 (.slice (some ⟨b, 0, none⟩) 2 2)).run Try.prog (u.alloc (.cells #[.int .u8 m, .int .u8 m'] 5)) = .ok (.string (byteStr [m, m'])) (u.alloc (.cells #[.int .u8 m, .int .u8 m'] 5)) := by
  subst hb
  refine run_str _ _ 2 [m, m'] rfl fun j x hj => ?_
  rw [cell_of (alloc_at u _)]
  match j, hj with
  | 0, hj => simp at hj; subst hj; rfl
  | 1, hj => simp at hj; subst hj; rfl

theorem byteStr1_inj {m m' : Int} (h0 : 0 ≤ m) (h1 : m < 256) (h0' : 0 ≤ m') (h1' : m' < 256) (h : byteStr [m] = byteStr [m']) : m = m' := by
  have e : (byteStr [m]).data = (byteStr [m']).data := by rw [h]
  have e2 : #[UInt8.ofNat m.toNat] = #[UInt8.ofNat m'.toNat] := e
  simp only [Array.mk.injEq, List.cons.injEq, and_true] at e2
  have e3 := congrArg UInt8.toNat e2
  simp only [UInt8.toNat_ofNat'] at e3
  omega

/-- The key of the other cache, and its thing. -/
def keyOf (n : Int) : ByteArray := byteStr [n + 32]
def twin (p : Int × ByteArray) : ByteArray × Int := (keyOf p.1, (p.2.size : Int))
def Low (L : List (Int × ByteArray)) : Prop := ∀ p ∈ L, 0 ≤ p.1 ∧ p.1 ≤ 63

theorem keyOf_inj {m m' : Int} (h : 0 ≤ m ∧ m ≤ 63) (h' : 0 ≤ m' ∧ m' ≤ 63) (e : keyOf m = keyOf m') : m = m' := by
  have := byteStr1_inj (by omega) (by omega) (by omega) (by omega) e
  omega

theorem look_twin {n : Int} {L : List (Int × ByteArray)} (hn : 0 ≤ n ∧ n ≤ 63) (hL : Low L) : look (keyOf n) (L.map twin) = (look n L).map fun s => (s.size : Int) := by
  induction L with
  | nil => rfl
  | cons p L ih =>
    have ih := ih (fun q hq => hL q (List.mem_cons_of_mem _ hq))
    simp only [List.map_cons, look]
    by_cases hp : p.1 = n
    · rw [if_pos hp, if_pos (by simp [twin, hp])]; rfl
    · have hk : ¬ (twin p).1 = keyOf n := fun e => hp (keyOf_inj (hL p (List.mem_cons_self ..)) hn e)
      rw [if_neg hp, if_neg hk, ih]

theorem without_twin {n : Int} {L : List (Int × ByteArray)} (hn : 0 ≤ n ∧ n ≤ 63) (hL : Low L) : without (keyOf n) (L.map twin) = (without n L).map twin := by
  unfold without
  rw [List.filter_map]
  congr 1
  refine List.filter_congr fun p hp => ?_
  have hk : keyOf p.1 = keyOf n ↔ p.1 = n := ⟨fun e => keyOf_inj (hL p hp) hn e, fun e => by rw [e]⟩
  simp only [Function.comp, twin, ne_eq, hk]

theorem Low.without {n : Int} {L : List (Int × ByteArray)} (hL : Low L) : Low (without n L) := fun p hp => hL p (List.mem_filter.1 hp).1
theorem look_mem {n : Int} {s : ByteArray} {L : List (Int × ByteArray)} (h : look n L = some s) : (n, s) ∈ L := by
  obtain ⟨L1, L2, rfl, _⟩ := look_some h
  simp

theorem used_twin {n : Int} {L : List (Int × ByteArray)} (hn : 0 ≤ n ∧ n ≤ 63) (hL : Low L) : used (keyOf n) (L.map twin) = (used n L).map twin := by
  unfold used
  rw [look_twin hn hL]
  cases look n L with
  | none => rfl
  | some s => simp only [Option.map_some, List.map_cons, without_twin hn hL]; rfl
theorem Low.used {n : Int} {L : List (Int × ByteArray)} (hn : 0 ≤ n ∧ n ≤ 63) (hL : Low L) : Low (used n L) := by
  unfold Ytggpmnhbplmagaa.used
  split
  · intro p hp
    rcases List.mem_cons.1 hp with rfl | hp
    · exact hn
    · exact hL.without p hp
  · exact hL
theorem putIn_twin {room : Nat} {n : Int} {s : ByteArray} {L : List (Int × ByteArray)} (hn : 0 ≤ n ∧ n ≤ 63) (hL : Low L) : putIn room (keyOf n) (s.size : Int) (L.map twin) = (putIn room n s L).map twin := by
  unfold putIn
  rw [look_twin hn hL]
  cases look n L with
  | none =>
    simp only [Option.map_none, List.length_map]
    split
    · rfl
    · simp [List.map_dropLast, twin]
  | some s' => simp only [Option.map_some, List.map_cons, without_twin hn hL]; rfl
theorem Low.putIn {room : Nat} {n : Int} {s : ByteArray} {L : List (Int × ByteArray)} (hn : 0 ≤ n ∧ n ≤ 63) (hL : Low L) : Low (putIn room n s L) := by
  unfold Ytggpmnhbplmagaa.putIn
  intro p hp
  split at hp
  · rcases List.mem_cons.1 hp with rfl | hp
    · exact hn
    · exact hL.without p hp
  · split at hp
    · rcases List.mem_cons.1 hp with rfl | hp
      · exact hn
      · exact hL p hp
    · rcases List.mem_cons.1 hp with rfl | hp
      · exact hn
      · exact hL p (List.dropLast_subset L hp)
theorem goes_twin {room : Nat} {n : Int} {L : List (Int × ByteArray)} (hn : 0 ≤ n ∧ n ≤ 63) (hL : Low L) : goes room (keyOf n) (L.map twin) = (goes room n L).map keyOf := by
  unfold goes
  rw [look_twin hn hL]
  cases look n L with
  | none =>
    simp only [Option.map_none, List.length_map]
    split
    · rfl
    · rw [List.getLast?_map]; cases L.getLast? <;> rfl
  | some s' => rfl
theorem goes_low {room : Nat} {n g : Int} {L : List (Int × ByteArray)} (hL : Low L) (h : goes room n L = some g) : 0 ≤ g ∧ g ≤ 63 := by
  unfold goes at h
  split at h
  · cases h
  · split at h
    · cases h
    · cases hl : L.getLast? with
      | none => rw [hl] at h; cases h
      | some p =>
        rw [hl] at h
        simp only [Option.map_some, Option.some.injEq] at h
        subst h
        exact hL p (List.mem_of_getLast? hl)

end Go.Proofs.Ytggpmnhbplmagaa
