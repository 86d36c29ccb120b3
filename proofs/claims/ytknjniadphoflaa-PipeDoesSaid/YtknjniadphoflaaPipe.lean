/-
  What each call of package pipe does to a pipe that is known by its room, its things and whether it is closed; at int and at string. Printed by wip/gen/pipe_con.py.
-/
import Derived.Test.YtknjniadphoflaaChan
import Derived.Deep.QuietTactic
import Derived.BigQuiet
import Derived.Deep.RegionHeld3
namespace Go.Proofs.Ytknjniadphoflaa
open Go.RowKit Go.Conc

/-- A pipe: its block, its channel's block. -/
structure PipeAt {α : Type} (T : TypeId) (mk : α → Value) (w : World) (p c room : Nat) (l : List α) (cl : Bool) : Prop where
  pb : w.heap[p]? = some (.cells #[.chan (some c), .bool cl] T (0, 0))
  cb : ∃ s r, w.heap[c]? = some (.chan room (l.map mk).toArray false s r false)
  fits : l.length ≤ room ∧ room ≤ 4096

theorem PipeAt.ne {α : Type} {T : TypeId} {mk : α → Value} {w : World} {p c room : Nat} {l : List α} {cl : Bool} (h : PipeAt T mk w p c room l cl) : p ≠ c := by
  obtain ⟨pb, ⟨s, r, cb⟩, _⟩ := h
  rintro rfl
  rw [pb] at cb
  simp at cb

theorem PipeAt.kept {α : Type} {T : TypeId} {mk : α → Value} {w w' : World} {p c room : Nat} {l : List α} {cl : Bool} {S : Nat → Prop} (h : PipeAt T mk w p c room l cl) (k : Kept S w w') (hp : ¬ S p) (hc : ¬ S c) : PipeAt T mk w' p c room l cl := by
  obtain ⟨pb, ⟨s, r, cb⟩, hf⟩ := h
  exact ⟨k.get pb hp, ⟨s, r, k.get cb hc⟩, hf⟩

theorem PipeAt.lt {α : Type} {T : TypeId} {mk : α → Value} {w : World} {p c room : Nat} {l : List α} {cl : Bool} (h : PipeAt T mk w p c room l cl) : p < w.heap.size ∧ c < w.heap.size := by
  obtain ⟨pb, ⟨s, r, cb⟩, _⟩ := h
  exact ⟨lt_of_block pb, lt_of_block cb⟩

/-- Is there room for one more? -/
def sends {α : Type} (room : Nat) (l : List α) (cl : Bool) : Bool := !cl && decide (l.length < room)
/-- What the pipe holds behind Send. -/
def sent {α : Type} (room : Nat) (l : List α) (cl : Bool) (x : α) : List α := if sends room l cl then l ++ [x] else l
/-- What Take hands over. -/
def headOr {α : Type} (mk : α → Value) (zero : Value) : List α → Value
  | [] => zero
  | x :: _ => mk x
/-- How many things Move moves. -/
def moved {α β : Type} (la : List α) (room : Nat) (lb : List β) (clb : Bool) : Nat := if clb then 0 else min la.length (room - lb.length)

theorem setChan_at {w : World} {c : Nat} {o : Obj} (h : w.heap[c]? = some o) (cap : Nat) (buf : Array Value) (cl : Bool) (s r : Nat) (tm : Bool) : (w.setChan c cap buf cl s r tm).heap[c]? = some (.chan cap buf cl s r tm) :=
  heap_setChan w c cap buf cl s r tm (lt_of_block h)
theorem setChan_ne (w : World) {c k : Nat} (cap : Nat) (buf : Array Value) (cl : Bool) (s r : Nat) (tm : Bool) (h : c ≠ k) : (w.setChan c cap buf cl s r tm).heap[k]? = w.heap[k]? := by
  simp [World.setChan, Array.getElem?_setIfInBounds_ne h]
theorem kept_setChan (w : World) (c cap : Nat) (buf : Array Value) (cl : Bool) (s r : Nat) (tm : Bool) : Kept (· = c) w (w.setChan c cap buf cl s r tm) :=
  (Kept.refl _ _).setChan c cap buf cl s r tm (fun _ => rfl)

/-! ### at Int -/
abbrev IntPipe (w : World) (p c room : Nat) (l : List Int) (cl : Bool) : Prop := PipeAt 62 (Value.int .i64) w p c room l cl

theorem bytes3 : ∃ i, Try.prog.info? 3 = some i ∧ i.bytes = 8 := by
  have h : (Try.prog.info? 3).map (·.bytes) = some 8 := by kernel_rfl
  obtain ⟨i, hi, hb⟩ := Option.map_eq_some_iff.1 h
  exact ⟨i, hi, hb⟩

theorem mkInt (n : Int) (h1 : 1 ≤ n) (h2 : n ≤ 4096) (w : World) : (Instr.makeChan 60 (.int .i64 n)).run Try.prog w = .ok (.chan (some w.heap.size)) (w.alloc (.chan n.toNat #[] false 0 0 false)) := by
  obtain ⟨i, hi, hb⟩ := bytes3
  obtain ⟨k, rfl⟩ := Int.eq_ofNat_of_zero_le (show 0 ≤ n by omega)
  simpa using run_makeChan (P := Try.prog) (w := w) Try.underlying60 hi .i64 k (by omega) (by rw [hb]; omega)

set_option maxHeartbeats 400000 in
theorem newInt_yes (n : Int) (h1 : 1 ≤ n) (h2 : n ≤ 4096) (w : World) :
    Calls Try.prog 11 #[.int .i64 n] w fun e w' => e = .returned (.tuple #[.pointer (some ⟨w.heap.size + 1, 0, none⟩), .int .i64 0]) ∧
      w' = (w.alloc (.chan n.toNat #[] false 0 0 false)).alloc (.cells #[.chan (some w.heap.size), .bool false] 62) := by
  have hmk := mkInt n h1 h2
  go_enter Try.func11, Try.ntmps11
  go_wp2
  go_ret2
  exact ⟨rfl, rfl⟩

set_option maxHeartbeats 400000 in
theorem newInt_no (n : Int) (h : n < 1 ∨ 4096 < n) (w : World) :
    Calls Try.prog 11 #[.int .i64 n] w fun e w' => e = .returned (.tuple #[.pointer none, .int .i64 50]) ∧ w' = w := by
  rcases h with h | h
  · go_enter Try.func11, Try.ntmps11
    go_wp2
    go_ret2
    exact ⟨rfl, rfl⟩
  · have h' : ¬ n < 1 := by omega
    go_enter Try.func11, Try.ntmps11
    go_wp2
    go_ret2
    exact ⟨rfl, rfl⟩

/-- A new pipe: where it lies, and that nothing else has turned. -/
theorem newInt (n : Int) (h1 : 1 ≤ n) (h2 : n ≤ 4096) (w : World) :
    Calls Try.prog 11 #[.int .i64 n] w fun e w' => e = .returned (.tuple #[.pointer (some ⟨w.heap.size + 1, 0, none⟩), .int .i64 0]) ∧
      IntPipe w' (w.heap.size + 1) w.heap.size n.toNat [] false ∧ Below w.heap.size w w' ∧ w'.heap.size = w.heap.size + 2 := by
  refine (newInt_yes n h1 h2 w).mono fun e w' ⟨he, hw⟩ => ⟨he, ?_⟩
  subst hw
  have hs : (w.alloc (.chan n.toNat #[] false 0 0 false)).heap.size = w.heap.size + 1 := by simp
  refine ⟨⟨?_, ⟨0, 0, ?_⟩, ?_⟩, ((Below.refl _ _).alloc (Nat.le_refl _) _).alloc (by simp) _, by simp⟩
  · have := alloc_at (w.alloc (.chan n.toNat #[] false 0 0 false)) (.cells #[.chan (some w.heap.size), .bool false] 62)
    rwa [hs] at this
  · rw [alloc_old _ _ (by rw [hs]; omega)]
    exact alloc_at _ _
  · simp; omega

set_option maxHeartbeats 400000 in
theorem lenInt (w : World) (p c room : Nat) (l : List Int) (cl : Bool) (h : IntPipe w p c room l cl) :
    Calls Try.prog 22 #[.pointer (some ⟨p, 0, none⟩)] w fun e w' => e = .returned (.int .i64 l.length) ∧ w' = w := by
  obtain ⟨pb, ⟨s, r, cb⟩, _⟩ := h
  have c0 : w.cell? ⟨p, 0, none⟩ = some (.chan (some c)) := by rw [cell_of pb]; rfl
  have hlen := fun ty => run_len_chan (P := Try.prog) 60 ty Try.underlying60 cb
  go_enter Try.func22, Try.ntmps22
  go_wp2
  go_ret
  exact ⟨by simp, rfl⟩

set_option maxHeartbeats 400000 in
theorem sendInt_shut (w : World) (p c : Nat) (x : Int) (pb : w.heap[p]? = some (.cells #[.chan (some c), .bool true] 62 (0, 0))) :
    Calls Try.prog 12 #[.pointer (some ⟨p, 0, none⟩), Value.int .i64 x] w fun e w' => e = .returned (.bool false) ∧ w' = w := by
  have c1 : w.cell? ⟨p, 1, none⟩ = some (.bool true) := by rw [cell_of pb]; rfl
  go_enter Try.func12, Try.ntmps12
  go_wp2
  go_ret
  exact ⟨rfl, rfl⟩

theorem sendInt (w : World) (p c room : Nat) (l : List Int) (cl : Bool) (x : Int) (h : IntPipe w p c room l cl) :
    Calls Try.prog 12 #[.pointer (some ⟨p, 0, none⟩), Value.int .i64 x] w fun e w' => e = .returned (.bool (sends room l cl)) ∧
      IntPipe w' p c room (sent room l cl x) cl ∧ Kept (· = c) w w' ∧ w'.heap.size = w.heap.size := by
  have hne := h.ne
  have h' := h
  obtain ⟨pb, ⟨s, r, cb⟩, hf⟩ := h
  cases cl with
  | true =>
    refine (sendInt_shut w p c x pb).mono fun e w' ⟨he, hw⟩ => ?_
    subst hw
    exact ⟨by simpa [sends] using he, by simpa [sent, sends] using h', Kept.refl _ _, rfl⟩
  | false =>
    by_cases hroom : l.length < room
    · refine (sendInt_room w p c room l x hroom pb s r cb).mono fun e w' ⟨he, hw⟩ => ?_
      subst hw
      refine ⟨by simpa [sends, hroom] using he, ⟨?_, ⟨s + 1, r, ?_⟩, ?_⟩, kept_setChan _ _ _ _ _ _ _ _, by simp [World.setChan]⟩
      · rw [setChan_ne _ _ _ _ _ _ _ (Ne.symm hne)]; exact pb
      · simpa [sent, sends, hroom] using setChan_at cb room ((l ++ [x]).map (Value.int .i64)).toArray false (s + 1) r false
      · simp [sent, sends, hroom]; omega
    · refine (sendInt_full w p c room l x (by omega) pb s r cb).mono fun e w' ⟨he, hw⟩ => ?_
      subst hw
      exact ⟨by simpa [sends, hroom] using he, by simpa [sent, sends, hroom] using h', Kept.refl _ _, rfl⟩

theorem takeInt (w : World) (p c room : Nat) (l : List Int) (cl : Bool) (h : IntPipe w p c room l cl) :
    Calls Try.prog 14 #[.pointer (some ⟨p, 0, none⟩)] w fun e w' => e = .returned (.tuple #[headOr (Value.int .i64) (.int .i64 0) l, .bool (!l.isEmpty)]) ∧
      IntPipe w' p c room l.tail cl ∧ Kept (· = c) w w' ∧ w'.heap.size = w.heap.size := by
  have hne := h.ne
  have h' := h
  obtain ⟨pb, ⟨s, r, cb⟩, hf⟩ := h
  cases l with
  | nil =>
    refine (takeInt_none w p c room cl pb s r cb).mono fun e w' ⟨he, hw⟩ => ?_
    subst hw
    exact ⟨by simpa [headOr] using he, h', Kept.refl _ _, rfl⟩
  | cons x l =>
    refine (takeInt_some w p c room cl pb x l s r cb).mono fun e w' ⟨he, hw⟩ => ?_
    subst hw
    refine ⟨by simpa [headOr] using he, ⟨?_, ⟨s, r + 1, ?_⟩, ?_⟩, kept_setChan _ _ _ _ _ _ _ _, by simp [World.setChan]⟩
    · rw [setChan_ne _ _ _ _ _ _ _ (Ne.symm hne)]; exact pb
    · exact setChan_at cb room (l.map (Value.int .i64)).toArray false s (r + 1) false
    · simp at hf ⊢; omega

/-! ### at ByteArray -/
abbrev StrPipe (w : World) (p c room : Nat) (l : List ByteArray) (cl : Bool) : Prop := PipeAt 59 (Value.string) w p c room l cl

theorem bytes9 : ∃ i, Try.prog.info? 9 = some i ∧ i.bytes = 16 := by
  have h : (Try.prog.info? 9).map (·.bytes) = some 16 := by kernel_rfl
  obtain ⟨i, hi, hb⟩ := Option.map_eq_some_iff.1 h
  exact ⟨i, hi, hb⟩

theorem mkStr (n : Int) (h1 : 1 ≤ n) (h2 : n ≤ 4096) (w : World) : (Instr.makeChan 57 (.int .i64 n)).run Try.prog w = .ok (.chan (some w.heap.size)) (w.alloc (.chan n.toNat #[] false 0 0 false)) := by
  obtain ⟨i, hi, hb⟩ := bytes9
  obtain ⟨k, rfl⟩ := Int.eq_ofNat_of_zero_le (show 0 ≤ n by omega)
  simpa using run_makeChan (P := Try.prog) (w := w) Try.underlying57 hi .i64 k (by omega) (by rw [hb]; omega)

set_option maxHeartbeats 400000 in
theorem newStr_yes (n : Int) (h1 : 1 ≤ n) (h2 : n ≤ 4096) (w : World) :
    Calls Try.prog 8 #[.int .i64 n] w fun e w' => e = .returned (.tuple #[.pointer (some ⟨w.heap.size + 1, 0, none⟩), .int .i64 0]) ∧
      w' = (w.alloc (.chan n.toNat #[] false 0 0 false)).alloc (.cells #[.chan (some w.heap.size), .bool false] 59) := by
  have hmk := mkStr n h1 h2
  go_enter Try.func8, Try.ntmps8
  go_wp2
  go_ret2
  exact ⟨rfl, rfl⟩

set_option maxHeartbeats 400000 in
theorem newStr_no (n : Int) (h : n < 1 ∨ 4096 < n) (w : World) :
    Calls Try.prog 8 #[.int .i64 n] w fun e w' => e = .returned (.tuple #[.pointer none, .int .i64 50]) ∧ w' = w := by
  rcases h with h | h
  · go_enter Try.func8, Try.ntmps8
    go_wp2
    go_ret2
    exact ⟨rfl, rfl⟩
  · have h' : ¬ n < 1 := by omega
    go_enter Try.func8, Try.ntmps8
    go_wp2
    go_ret2
    exact ⟨rfl, rfl⟩

/-- A new pipe: where it lies, and that nothing else has turned. -/
theorem newStr (n : Int) (h1 : 1 ≤ n) (h2 : n ≤ 4096) (w : World) :
    Calls Try.prog 8 #[.int .i64 n] w fun e w' => e = .returned (.tuple #[.pointer (some ⟨w.heap.size + 1, 0, none⟩), .int .i64 0]) ∧
      StrPipe w' (w.heap.size + 1) w.heap.size n.toNat [] false ∧ Below w.heap.size w w' ∧ w'.heap.size = w.heap.size + 2 := by
  refine (newStr_yes n h1 h2 w).mono fun e w' ⟨he, hw⟩ => ⟨he, ?_⟩
  subst hw
  have hs : (w.alloc (.chan n.toNat #[] false 0 0 false)).heap.size = w.heap.size + 1 := by simp
  refine ⟨⟨?_, ⟨0, 0, ?_⟩, ?_⟩, ((Below.refl _ _).alloc (Nat.le_refl _) _).alloc (by simp) _, by simp⟩
  · have := alloc_at (w.alloc (.chan n.toNat #[] false 0 0 false)) (.cells #[.chan (some w.heap.size), .bool false] 59)
    rwa [hs] at this
  · rw [alloc_old _ _ (by rw [hs]; omega)]
    exact alloc_at _ _
  · simp; omega

set_option maxHeartbeats 400000 in
theorem lenStr (w : World) (p c room : Nat) (l : List ByteArray) (cl : Bool) (h : StrPipe w p c room l cl) :
    Calls Try.prog 10 #[.pointer (some ⟨p, 0, none⟩)] w fun e w' => e = .returned (.int .i64 l.length) ∧ w' = w := by
  obtain ⟨pb, ⟨s, r, cb⟩, _⟩ := h
  have c0 : w.cell? ⟨p, 0, none⟩ = some (.chan (some c)) := by rw [cell_of pb]; rfl
  have hlen := fun ty => run_len_chan (P := Try.prog) 57 ty Try.underlying57 cb
  go_enter Try.func10, Try.ntmps10
  go_wp2
  go_ret
  exact ⟨by simp, rfl⟩

set_option maxHeartbeats 400000 in
theorem sendStr_shut (w : World) (p c : Nat) (x : ByteArray) (pb : w.heap[p]? = some (.cells #[.chan (some c), .bool true] 59 (0, 0))) :
    Calls Try.prog 23 #[.pointer (some ⟨p, 0, none⟩), Value.string x] w fun e w' => e = .returned (.bool false) ∧ w' = w := by
  have c1 : w.cell? ⟨p, 1, none⟩ = some (.bool true) := by rw [cell_of pb]; rfl
  go_enter Try.func23, Try.ntmps23
  go_wp2
  go_ret
  exact ⟨rfl, rfl⟩

theorem sendStr (w : World) (p c room : Nat) (l : List ByteArray) (cl : Bool) (x : ByteArray) (h : StrPipe w p c room l cl) :
    Calls Try.prog 23 #[.pointer (some ⟨p, 0, none⟩), Value.string x] w fun e w' => e = .returned (.bool (sends room l cl)) ∧
      StrPipe w' p c room (sent room l cl x) cl ∧ Kept (· = c) w w' ∧ w'.heap.size = w.heap.size := by
  have hne := h.ne
  have h' := h
  obtain ⟨pb, ⟨s, r, cb⟩, hf⟩ := h
  cases cl with
  | true =>
    refine (sendStr_shut w p c x pb).mono fun e w' ⟨he, hw⟩ => ?_
    subst hw
    exact ⟨by simpa [sends] using he, by simpa [sent, sends] using h', Kept.refl _ _, rfl⟩
  | false =>
    by_cases hroom : l.length < room
    · refine (sendStr_room w p c room l x hroom pb s r cb).mono fun e w' ⟨he, hw⟩ => ?_
      subst hw
      refine ⟨by simpa [sends, hroom] using he, ⟨?_, ⟨s + 1, r, ?_⟩, ?_⟩, kept_setChan _ _ _ _ _ _ _ _, by simp [World.setChan]⟩
      · rw [setChan_ne _ _ _ _ _ _ _ (Ne.symm hne)]; exact pb
      · simpa [sent, sends, hroom] using setChan_at cb room ((l ++ [x]).map (Value.string)).toArray false (s + 1) r false
      · simp [sent, sends, hroom]; omega
    · refine (sendStr_full w p c room l x (by omega) pb s r cb).mono fun e w' ⟨he, hw⟩ => ?_
      subst hw
      exact ⟨by simpa [sends, hroom] using he, by simpa [sent, sends, hroom] using h', Kept.refl _ _, rfl⟩

theorem takeStr (w : World) (p c room : Nat) (l : List ByteArray) (cl : Bool) (h : StrPipe w p c room l cl) :
    Calls Try.prog 25 #[.pointer (some ⟨p, 0, none⟩)] w fun e w' => e = .returned (.tuple #[headOr (Value.string) (.string ⟨#[]⟩) l, .bool (!l.isEmpty)]) ∧
      StrPipe w' p c room l.tail cl ∧ Kept (· = c) w w' ∧ w'.heap.size = w.heap.size := by
  have hne := h.ne
  have h' := h
  obtain ⟨pb, ⟨s, r, cb⟩, hf⟩ := h
  cases l with
  | nil =>
    refine (takeStr_none w p c room cl pb s r cb).mono fun e w' ⟨he, hw⟩ => ?_
    subst hw
    exact ⟨by simpa [headOr] using he, h', Kept.refl _ _, rfl⟩
  | cons x l =>
    refine (takeStr_some w p c room cl pb x l s r cb).mono fun e w' ⟨he, hw⟩ => ?_
    subst hw
    refine ⟨by simpa [headOr] using he, ⟨?_, ⟨s, r + 1, ?_⟩, ?_⟩, kept_setChan _ _ _ _ _ _ _ _, by simp [World.setChan]⟩
    · rw [setChan_ne _ _ _ _ _ _ _ (Ne.symm hne)]; exact pb
    · exact setChan_at cb room (l.map (Value.string)).toArray false s (r + 1) false
    · simp at hf ⊢; omega

set_option maxHeartbeats 400000 in
theorem closeInt_raw (w : World) (p c : Nat) (cl : Bool) (pb : w.heap[p]? = some (.cells #[.chan (some c), .bool cl] 62 (0, 0))) :
    Calls Try.prog 16 #[.pointer (some ⟨p, 0, none⟩)] w fun e w' => e = .returned (.bool (!cl)) ∧ w' = w.setCell ⟨p, 1, none⟩ (.bool true) := by
  have c1 : w.cell? ⟨p, 1, none⟩ = some (.bool cl) := by rw [cell_of pb]; rfl
  have f1 : w.frozen? ⟨p, 1, none⟩ = false := free_of pb 1
  go_enter Try.func16, Try.ntmps16
  go_wp2
  go_ret
  exact ⟨by rfl, rfl⟩

theorem closeInt (w : World) (p c room : Nat) (l : List Int) (cl : Bool) (h : IntPipe w p c room l cl) :
    Calls Try.prog 16 #[.pointer (some ⟨p, 0, none⟩)] w fun e w' => e = .returned (.bool (!cl)) ∧
      IntPipe w' p c room l true ∧ Kept (· = p) w w' ∧ w'.heap.size = w.heap.size := by
  have hne := h.ne
  obtain ⟨pb, ⟨s, r, cb⟩, hf⟩ := h
  refine (closeInt_raw w p c cl pb).mono fun e w' ⟨he, hw⟩ => ?_
  subst hw
  refine ⟨he, ⟨?_, ⟨s, r, ?_⟩, hf⟩, (Kept.refl _ _).setCell _ _ (fun _ => rfl), by simp⟩
  · simpa using setCell_at pb 1 (.bool true)
  · rw [setCell_ne _ _ _ (Ne.symm hne)]; exact cb

end Go.Proofs.Ytknjniadphoflaa
