/-
  What Either (at int) and Move (at int and string) do to two pipes. Printed by wip/gen/pipe_con2.py.
-/
import Derived.Test.YtknjniadphoflaaPipe
import Derived.LaidEqlPtr
namespace Go.Proofs.Ytknjniadphoflaa
open Go.RowKit Go.Conc

theorem PipeAt.ne2 {α : Type} {T : TypeId} {mk : α → Value} {w : World} {p c room q d room' : Nat} {l l' : List α} {cl cl' : Bool} (h : PipeAt T mk w p c room l cl) (h' : PipeAt T mk w q d room' l' cl') : c ≠ q := by
  obtain ⟨pb, ⟨s, r, cb⟩, _⟩ := h
  have qb := h'.pb
  rintro rfl
  rw [qb] at cb
  simp at cb

theorem Kept.drewN {S : Nat → Prop} {a b : World} (h : Kept S a b) (n : Nat) : Kept S a (b.drewN n) := ⟨h.os, h.tape, h.output, h.size, h.block⟩

set_option maxHeartbeats 400000 in
theorem eitherInt_first (w : World) (p c room q : Nat) (x : Int) (l : List Int) (cl : Bool) (h : IntPipe w p c room (x :: l) cl) :
    Calls Try.prog 18 #[.pointer (some ⟨p, 0, none⟩), .pointer (some ⟨q, 0, none⟩)] w fun e w' => e = .returned (.tuple #[.int .i64 x, .int .i64 1]) ∧
      IntPipe w' p c room l cl ∧ Kept (· = c) w w' ∧ w'.heap.size = w.heap.size := by
  have t1 := takeInt w p c room (x :: l) cl h
  simp only [headOr, List.isEmpty_cons, Bool.not_false, List.tail_cons] at t1
  have T1 := Lib.hid t1
  clear t1
  go_enter Try.func18, Try.ntmps18
  go_wp2_with fail
  refine T1.out.mono ?_
  rintro e w' ⟨rfl, h1⟩
  have H1 := Lib.hid h1
  clear h1
  go_wp2_with fail
  go_ret2
  exact ⟨rfl, H1.out⟩

set_option maxHeartbeats 400000 in
theorem eitherInt_second (w : World) (p c room q d room' : Nat) (l : List Int) (cl cl' : Bool) (h : IntPipe w p c room [] cl) (h' : IntPipe w q d room' l cl') (hcq : c ≠ q) (hcd : c ≠ d) :
    Calls Try.prog 18 #[.pointer (some ⟨p, 0, none⟩), .pointer (some ⟨q, 0, none⟩)] w fun e w' => e = .returned (.tuple #[headOr (Value.int .i64) (.int .i64 0) l, .int .i64 (if l.isEmpty then 0 else 2)]) ∧
      IntPipe w' p c room [] cl ∧ IntPipe w' q d room' l.tail cl' ∧ Kept (fun k => k = c ∨ k = d) w w' ∧ w'.heap.size = w.heap.size := by
  have t1 := takeInt w p c room [] cl h
  simp only [headOr, List.isEmpty_nil, Bool.not_true, List.tail_nil] at t1
  have T1 := Lib.hid t1
  have HQ := Lib.hid h'
  have HC := Lib.hid (And.intro hcq hcd)
  clear t1 h' hcq hcd
  go_enter Try.func18, Try.ntmps18
  go_wp2_with fail
  refine T1.out.mono ?_
  rintro e w1 ⟨rfl, hp1, hk1, hs1⟩
  have hq1 := HQ.out.kept hk1 (fun e => HC.out.1 e.symm) (fun e => HC.out.2 e.symm)
  have H1 := Lib.hid (And.intro hp1 (And.intro hk1 (And.intro hs1 hq1)))
  have ht := takeInt w1 q d room' l cl' hq1
  have HT := Lib.hid ht
  clear hp1 hk1 hs1 hq1 ht
  cases l with
  | nil =>
    have ht := HT.out
    simp only [headOr, List.isEmpty_nil, Bool.not_true, List.tail_nil] at ht
    have HT' := Lib.hid ht
    clear ht HT
    go_wp2_with fail
    refine HT'.out.mono ?_
    rintro e w2 ⟨rfl, hp2, hk2, hs2⟩
    have H2 := Lib.hid (And.intro hp2 (And.intro hk2 hs2))
    clear hp2 hk2 hs2
    go_wp2_with fail
    go_ret2
    obtain ⟨hp1, hk1, hs1, hq1⟩ := H1.out
    obtain ⟨hp2, hk2, hs2⟩ := H2.out
    have hpd : ¬ (p = d) := fun e => by subst e; have a := hp1.pb; obtain ⟨s, r, b⟩ := hq1.cb; rw [a] at b; simp at b
    exact ⟨rfl, hp1.kept hk2 hpd HC.out.2, hp2, (hk1.mono fun _ _ e => .inl e).trans (hk2.mono fun _ _ e => .inr e), by omega⟩
  | cons x l =>
    have ht := HT.out
    simp only [headOr, List.isEmpty_cons, Bool.not_false, List.tail_cons] at ht
    have HT' := Lib.hid ht
    clear ht HT
    go_wp2_with fail
    refine HT'.out.mono ?_
    rintro e w2 ⟨rfl, hp2, hk2, hs2⟩
    have H2 := Lib.hid (And.intro hp2 (And.intro hk2 hs2))
    clear hp2 hk2 hs2
    go_wp2_with fail
    go_ret2
    obtain ⟨hp1, hk1, hs1, hq1⟩ := H1.out
    obtain ⟨hp2, hk2, hs2⟩ := H2.out
    have hpd : ¬ (p = d) := fun e => by subst e; have a := hp1.pb; obtain ⟨s, r, b⟩ := hq1.cb; rw [a] at b; simp at b
    exact ⟨rfl, hp1.kept hk2 hpd HC.out.2, hp2, (hk1.mono fun _ _ e => .inl e).trans (hk2.mono fun _ _ e => .inr e), by omega⟩

theorem IntPipe.drewN {w : World} {p c room : Nat} {l : List Int} {cl : Bool} (h : IntPipe w p c room l cl) (n : Nat) : IntPipe (w.drewN n) p c room l cl := ⟨h.pb, h.cb, h.fits⟩

/-- Behind k rounds of Move. -/
def MidInt (w : World) (p c ra q d rb : Nat) (la lb : List Int) (cla clb : Bool) (k : Nat) (wr : World) : Prop :=
  IntPipe wr p c ra (la.drop k) cla ∧ IntPipe wr q d rb (lb ++ la.take k) clb ∧ Kept (fun k => k = c ∨ k = d) w wr ∧ wr.heap.size = w.heap.size

set_option maxHeartbeats 1000000 in
theorem moveInt (w : World) (p c ra q d rb : Nat) (la lb : List Int) (cla clb : Bool) (h : IntPipe w p c ra la cla) (h' : IntPipe w q d rb lb clb) (hpq : p ≠ q) (hcd : c ≠ d) :
    Calls Try.prog 21 #[.pointer (some ⟨p, 0, none⟩), .pointer (some ⟨q, 0, none⟩)] w fun e w' => e = .returned (.int .i64 (moved la rb lb clb)) ∧
      IntPipe w' p c ra (la.drop (moved la rb lb clb)) cla ∧ IntPipe w' q d rb (lb ++ la.take (moved la rb lb clb)) clb ∧ Kept (fun k => k = c ∨ k = d) w w' ∧ w'.heap.size = w.heap.size := by
  have Hp := Lib.hid h
  have Hq := Lib.hid h'
  have Hcd := Lib.hid hcd
  have Hfa := h.fits
  have Hfb := h'.fits
  have heq : (Go.binOp .eql 33 (.pointer (some ⟨p, 0, none⟩)) (.pointer (some ⟨q, 0, none⟩))).run Try.prog w = .ok (.bool false) w := by
    obtain ⟨i, hi⟩ : ∃ i, Try.prog.info? 62 = some i ∧ i.size ≠ 0 := by
      have h : (Try.prog.info? 62).map (fun i => i.size != 0) = some true := by kernel_rfl
      obtain ⟨i, hi, hb⟩ := Option.map_eq_some_iff.1 h
      exact ⟨i, hi, by simpa using hb⟩
    exact run_eql_ptr_other w Try.underlying33 hi.1 hi.2 (fun e => hpq (congrArg Addr.block e)) h.pb h'.pb
  have Hpq := Lib.hid hpq
  clear h h' hcd hpq
  go_enter Try.func21, Try.ntmps21
  go_wp2
  go_loopw [5] (fun n wr => ∃ k : Nat, k ≤ moved la rb lb clb ∧ n = .int .i64 k ∧ MidInt w p c ra q d rb la lb cla clb k wr) (fun n _ => moved la rb lb clb - (intOf n).toNat)
  case atStart => exact ⟨0, Nat.zero_le _, rfl, by simpa using Hp.out, by simpa using Hq.out, Kept.refl _ _, rfl⟩
  case round =>
    obtain ⟨k, hk, rfl, hm⟩ := hrel
    obtain ⟨hp, hq, hkept, hsz⟩ := hm
    have b0 : wr.cell? ⟨q, 0, none⟩ = some (.chan (some d)) := by rw [cell_of hq.pb]; rfl
    have b1 : wr.cell? ⟨q, 1, none⟩ = some (.bool clb) := by rw [cell_of hq.pb]; rfl
    have hcap : ∀ n ty, (Builtin.cap_ #[60] ty #[.chan (some d)]).run Try.prog (wr.drewN n) = .ok (goInt rb) (wr.drewN n) := by
      obtain ⟨s, r, cb⟩ := hq.cb
      exact fun n ty => run_cap_chan (P := Try.prog) (w := wr.drewN n) 60 ty Try.underlying60 cb
    obtain ⟨m, hme⟩ : ∃ m, m = (lb ++ la.take k).length := ⟨_, rfl⟩
    have hlen : ∀ n, Calls Try.prog 22 #[.pointer (some ⟨q, 0, none⟩)] (wr.drewN n) fun e w' => e = .returned (.int .i64 m) ∧ w' = wr.drewN n := fun n => hme ▸ lenInt _ q d rb _ clb (hq.drewN n)
    have HM := Lib.hid (And.intro hp (And.intro hq (And.intro hkept hsz)))
    have HL := Lib.hid hlen
    have Hm := Lib.hid hme
    clear hp hq hkept hsz hlen hme
    cases clb with
    | true =>
      go_wp2_with fail
      go_quiet (fail)
      go_wp2
      go_ret
      obtain ⟨hp, hq, hkept, hsz⟩ := HM.out
      obtain rfl : k = 0 := by simpa [moved] using hk
      refine ⟨rfl, ?_⟩
      simp only [moved, if_true, List.drop_zero, List.take_zero, List.append_nil] at hp hq ⊢
      exact ⟨hp.drewN _, hq.drewN _, hkept.drewN _, hsz⟩
    | false =>
      by_cases hroom : m < rb
      · cases hd : la.drop k with
        | nil =>
          have ht : ∀ n, Calls Try.prog 14 #[.pointer (some ⟨p, 0, none⟩)] (wr.drewN n) fun e w' => e = .returned (.tuple #[(.int .i64 0), .bool false]) ∧ IntPipe w' p c ra [] cla ∧ Kept (· = c) (wr.drewN n) w' ∧ w'.heap.size = (wr.drewN n).heap.size := fun n => by
            have := takeInt _ p c ra _ cla (HM.out.1.drewN n)
            rw [hd] at this
            exact this
          have HT := Lib.hid ht
          have HD := Lib.hid hd
          clear ht hd
          go_wp2_with fail
          go_quiet ((go_at_call 22; exact Calls.quiet_of_same (HL.out _)))
          go_wp2_with fail
          refine (HT.out _).mono ?_
          rintro e w2 ⟨rfl, h2⟩
          have H2 := Lib.hid h2
          clear h2
          go_wp2_with fail
          go_ret
          obtain ⟨hp, hq, hkept, hsz⟩ := HM.out
          obtain ⟨hp2, hk2, hs2⟩ := H2.out
          have hlk : la.length ≤ k := by simpa using HD.out
          obtain rfl : k = la.length := by have := Nat.min_le_left la.length (rb - lb.length); simp only [moved, Bool.false_eq_true, if_false] at hk; omega
          have hkk : moved la rb lb false = la.length := by simp only [moved, Bool.false_eq_true, if_false] at hk ⊢; omega
          rw [hkk, List.drop_length, List.take_length]
          have hqd := hq.ne
          rw [List.take_length] at hq
          exact ⟨rfl, hp2, (hq.drewN _).kept hk2 (fun e => PipeAt.ne2 Hp.out Hq.out e.symm) (fun e => Hcd.out e.symm), (hkept.drewN _).trans (hk2.mono fun _ _ e => .inl e), hs2.trans hsz⟩
        | cons x r =>
          have ht : ∀ n, Calls Try.prog 14 #[.pointer (some ⟨p, 0, none⟩)] (wr.drewN n) fun e w' => e = .returned (.tuple #[Value.int .i64 x, .bool true]) ∧ IntPipe w' p c ra r cla ∧ Kept (· = c) (wr.drewN n) w' ∧ w'.heap.size = (wr.drewN n).heap.size := fun n => by
            have := takeInt _ p c ra _ cla (HM.out.1.drewN n)
            rw [hd] at this
            exact this
          have HT := Lib.hid ht
          have HD := Lib.hid hd
          clear ht hd
          go_wp2_with fail
          go_quiet ((go_at_call 22; exact Calls.quiet_of_same (HL.out _)))
          go_wp2_with fail
          refine (HT.out _).mono ?_
          rintro e w2 ⟨rfl, h2⟩
          have hq2 : IntPipe w2 q d rb (lb ++ la.take k) false := (HM.out.2.1.drewN _).kept h2.2.1 (fun e => PipeAt.ne2 Hp.out Hq.out e.symm) (fun e => Hcd.out e.symm)
          have hsd := sendInt w2 q d rb (lb ++ la.take k) false x hq2
          have H2 := Lib.hid h2
          have HS := Lib.hid hsd
          clear h2 hsd hq2
          go_wp2_with fail
          refine HS.out.mono ?_
          rintro e w3 ⟨rfl, h3⟩
          have H3 := Lib.hid h3
          clear h3
          have hkb : k < 4096 := by
            have := congrArg List.length HD.out
            simp at this
            omega
          go_wp2
          go_roundw
          case rel =>
            obtain ⟨hp, hq, hkept, hsz⟩ := HM.out
            obtain ⟨hp2, hk2, hs2⟩ := H2.out
            obtain ⟨hq3, hk3, hs3⟩ := H3.out
            have hkl : k < la.length := by
              have := congrArg List.length HD.out
              simp at this
              omega
            have hml : lb.length + k < rb := by have := Hm.out; simp at this; omega
            have hdr : la.drop (k + 1) = r := by
              have := congrArg List.tail HD.out
              simpa using this
            have htk : lb ++ la.take (k + 1) = (lb ++ la.take k) ++ [x] := by
              have hx : la[k] = x := by
                have := HD.out
                rw [List.drop_eq_getElem_cons hkl] at this
                exact (List.cons.inj this).1
              rw [List.take_succ_eq_append_getElem hkl, hx, List.append_assoc]
            have hse : sent rb (lb ++ la.take k) false x = lb ++ la.take (k + 1) := by
              rw [htk]
              simp only [sent, sends]
              have : (lb ++ la.take k).length < rb := by rw [← Hm.out]; exact hroom
              simp only [this, decide_true, Bool.not_false, Bool.and_self, if_true]
            rw [hse] at hq3
            refine ⟨k + 1, ?_, by go_num, ?_, hq3, ?_, by have := hs3.trans (hs2.trans hsz); simpa using this⟩
            · simp only [moved, Bool.false_eq_true, if_false] at hk ⊢; omega
            · rw [hdr]; exact hp2.kept hk3 (fun e => PipeAt.ne2 Hq.out Hp.out e.symm) Hcd.out
            · exact ((hkept.drewN _).trans (hk2.mono fun _ _ e => .inl e)).trans (hk3.mono fun _ _ e => .inr e)
          case measure =>
            have hkl : k < la.length := by
              have := congrArg List.length HD.out
              simp at this
              omega
            have hml : lb.length + k < rb := by have := Hm.out; simp at this; omega
            simp only [intOf, moved, Bool.false_eq_true, if_false]
            omega
      · go_wp2_with fail
        go_quiet ((go_at_call 22; exact Calls.quiet_of_same (HL.out _)))
        go_wp2_with fail
        go_ret
        obtain ⟨hp, hq, hkept, hsz⟩ := HM.out
        have hkk : moved la rb lb false = k := by have := Hm.out; simp at this; simp only [moved, Bool.false_eq_true, if_false] at hk ⊢; omega
        rw [hkk]
        exact ⟨rfl, hp.drewN _, hq.drewN _, hkept.drewN _, hsz⟩

theorem StrPipe.drewN {w : World} {p c room : Nat} {l : List ByteArray} {cl : Bool} (h : StrPipe w p c room l cl) (n : Nat) : StrPipe (w.drewN n) p c room l cl := ⟨h.pb, h.cb, h.fits⟩

/-- Behind k rounds of Move. -/
def MidStr (w : World) (p c ra q d rb : Nat) (la lb : List ByteArray) (cla clb : Bool) (k : Nat) (wr : World) : Prop :=
  StrPipe wr p c ra (la.drop k) cla ∧ StrPipe wr q d rb (lb ++ la.take k) clb ∧ Kept (fun k => k = c ∨ k = d) w wr ∧ wr.heap.size = w.heap.size

set_option maxHeartbeats 1000000 in
theorem moveStr (w : World) (p c ra q d rb : Nat) (la lb : List ByteArray) (cla clb : Bool) (h : StrPipe w p c ra la cla) (h' : StrPipe w q d rb lb clb) (hpq : p ≠ q) (hcd : c ≠ d) :
    Calls Try.prog 24 #[.pointer (some ⟨p, 0, none⟩), .pointer (some ⟨q, 0, none⟩)] w fun e w' => e = .returned (.int .i64 (moved la rb lb clb)) ∧
      StrPipe w' p c ra (la.drop (moved la rb lb clb)) cla ∧ StrPipe w' q d rb (lb ++ la.take (moved la rb lb clb)) clb ∧ Kept (fun k => k = c ∨ k = d) w w' ∧ w'.heap.size = w.heap.size := by
  have Hp := Lib.hid h
  have Hq := Lib.hid h'
  have Hcd := Lib.hid hcd
  have Hfa := h.fits
  have Hfb := h'.fits
  have heq : (Go.binOp .eql 22 (.pointer (some ⟨p, 0, none⟩)) (.pointer (some ⟨q, 0, none⟩))).run Try.prog w = .ok (.bool false) w := by
    obtain ⟨i, hi⟩ : ∃ i, Try.prog.info? 59 = some i ∧ i.size ≠ 0 := by
      have h : (Try.prog.info? 59).map (fun i => i.size != 0) = some true := by kernel_rfl
      obtain ⟨i, hi, hb⟩ := Option.map_eq_some_iff.1 h
      exact ⟨i, hi, by simpa using hb⟩
    exact run_eql_ptr_other w Try.underlying22 hi.1 hi.2 (fun e => hpq (congrArg Addr.block e)) h.pb h'.pb
  have Hpq := Lib.hid hpq
  clear h h' hcd hpq
  go_enter Try.func24, Try.ntmps24
  go_wp2
  go_loopw [5] (fun n wr => ∃ k : Nat, k ≤ moved la rb lb clb ∧ n = .int .i64 k ∧ MidStr w p c ra q d rb la lb cla clb k wr) (fun n _ => moved la rb lb clb - (intOf n).toNat)
  case atStart => exact ⟨0, Nat.zero_le _, rfl, by simpa using Hp.out, by simpa using Hq.out, Kept.refl _ _, rfl⟩
  case round =>
    obtain ⟨k, hk, rfl, hm⟩ := hrel
    obtain ⟨hp, hq, hkept, hsz⟩ := hm
    have b0 : wr.cell? ⟨q, 0, none⟩ = some (.chan (some d)) := by rw [cell_of hq.pb]; rfl
    have b1 : wr.cell? ⟨q, 1, none⟩ = some (.bool clb) := by rw [cell_of hq.pb]; rfl
    have hcap : ∀ n ty, (Builtin.cap_ #[57] ty #[.chan (some d)]).run Try.prog (wr.drewN n) = .ok (goInt rb) (wr.drewN n) := by
      obtain ⟨s, r, cb⟩ := hq.cb
      exact fun n ty => run_cap_chan (P := Try.prog) (w := wr.drewN n) 57 ty Try.underlying57 cb
    obtain ⟨m, hme⟩ : ∃ m, m = (lb ++ la.take k).length := ⟨_, rfl⟩
    have hlen : ∀ n, Calls Try.prog 10 #[.pointer (some ⟨q, 0, none⟩)] (wr.drewN n) fun e w' => e = .returned (.int .i64 m) ∧ w' = wr.drewN n := fun n => hme ▸ lenStr _ q d rb _ clb (hq.drewN n)
    have HM := Lib.hid (And.intro hp (And.intro hq (And.intro hkept hsz)))
    have HL := Lib.hid hlen
    have Hm := Lib.hid hme
    clear hp hq hkept hsz hlen hme
    cases clb with
    | true =>
      go_wp2_with fail
      go_quiet (fail)
      go_wp2
      go_ret
      obtain ⟨hp, hq, hkept, hsz⟩ := HM.out
      obtain rfl : k = 0 := by simpa [moved] using hk
      refine ⟨rfl, ?_⟩
      simp only [moved, if_true, List.drop_zero, List.take_zero, List.append_nil] at hp hq ⊢
      exact ⟨hp.drewN _, hq.drewN _, hkept.drewN _, hsz⟩
    | false =>
      by_cases hroom : m < rb
      · cases hd : la.drop k with
        | nil =>
          have ht : ∀ n, Calls Try.prog 25 #[.pointer (some ⟨p, 0, none⟩)] (wr.drewN n) fun e w' => e = .returned (.tuple #[(.string ⟨#[]⟩), .bool false]) ∧ StrPipe w' p c ra [] cla ∧ Kept (· = c) (wr.drewN n) w' ∧ w'.heap.size = (wr.drewN n).heap.size := fun n => by
            have := takeStr _ p c ra _ cla (HM.out.1.drewN n)
            rw [hd] at this
            exact this
          have HT := Lib.hid ht
          have HD := Lib.hid hd
          clear ht hd
          go_wp2_with fail
          go_quiet ((go_at_call 10; exact Calls.quiet_of_same (HL.out _)))
          go_wp2_with fail
          refine (HT.out _).mono ?_
          rintro e w2 ⟨rfl, h2⟩
          have H2 := Lib.hid h2
          clear h2
          go_wp2_with fail
          go_ret
          obtain ⟨hp, hq, hkept, hsz⟩ := HM.out
          obtain ⟨hp2, hk2, hs2⟩ := H2.out
          have hlk : la.length ≤ k := by simpa using HD.out
          obtain rfl : k = la.length := by have := Nat.min_le_left la.length (rb - lb.length); simp only [moved, Bool.false_eq_true, if_false] at hk; omega
          have hkk : moved la rb lb false = la.length := by simp only [moved, Bool.false_eq_true, if_false] at hk ⊢; omega
          rw [hkk, List.drop_length, List.take_length]
          have hqd := hq.ne
          rw [List.take_length] at hq
          exact ⟨rfl, hp2, (hq.drewN _).kept hk2 (fun e => PipeAt.ne2 Hp.out Hq.out e.symm) (fun e => Hcd.out e.symm), (hkept.drewN _).trans (hk2.mono fun _ _ e => .inl e), hs2.trans hsz⟩
        | cons x r =>
          have ht : ∀ n, Calls Try.prog 25 #[.pointer (some ⟨p, 0, none⟩)] (wr.drewN n) fun e w' => e = .returned (.tuple #[Value.string x, .bool true]) ∧ StrPipe w' p c ra r cla ∧ Kept (· = c) (wr.drewN n) w' ∧ w'.heap.size = (wr.drewN n).heap.size := fun n => by
            have := takeStr _ p c ra _ cla (HM.out.1.drewN n)
            rw [hd] at this
            exact this
          have HT := Lib.hid ht
          have HD := Lib.hid hd
          clear ht hd
          go_wp2_with fail
          go_quiet ((go_at_call 10; exact Calls.quiet_of_same (HL.out _)))
          go_wp2_with fail
          refine (HT.out _).mono ?_
          rintro e w2 ⟨rfl, h2⟩
          have hq2 : StrPipe w2 q d rb (lb ++ la.take k) false := (HM.out.2.1.drewN _).kept h2.2.1 (fun e => PipeAt.ne2 Hp.out Hq.out e.symm) (fun e => Hcd.out e.symm)
          have hsd := sendStr w2 q d rb (lb ++ la.take k) false x hq2
          have H2 := Lib.hid h2
          have HS := Lib.hid hsd
          clear h2 hsd hq2
          go_wp2_with fail
          refine HS.out.mono ?_
          rintro e w3 ⟨rfl, h3⟩
          have H3 := Lib.hid h3
          clear h3
          have hkb : k < 4096 := by
            have := congrArg List.length HD.out
            simp at this
            omega
          go_wp2
          go_roundw
          case rel =>
            obtain ⟨hp, hq, hkept, hsz⟩ := HM.out
            obtain ⟨hp2, hk2, hs2⟩ := H2.out
            obtain ⟨hq3, hk3, hs3⟩ := H3.out
            have hkl : k < la.length := by
              have := congrArg List.length HD.out
              simp at this
              omega
            have hml : lb.length + k < rb := by have := Hm.out; simp at this; omega
            have hdr : la.drop (k + 1) = r := by
              have := congrArg List.tail HD.out
              simpa using this
            have htk : lb ++ la.take (k + 1) = (lb ++ la.take k) ++ [x] := by
              have hx : la[k] = x := by
                have := HD.out
                rw [List.drop_eq_getElem_cons hkl] at this
                exact (List.cons.inj this).1
              rw [List.take_succ_eq_append_getElem hkl, hx, List.append_assoc]
            have hse : sent rb (lb ++ la.take k) false x = lb ++ la.take (k + 1) := by
              rw [htk]
              simp only [sent, sends]
              have : (lb ++ la.take k).length < rb := by rw [← Hm.out]; exact hroom
              simp only [this, decide_true, Bool.not_false, Bool.and_self, if_true]
            rw [hse] at hq3
            refine ⟨k + 1, ?_, by go_num, ?_, hq3, ?_, by have := hs3.trans (hs2.trans hsz); simpa using this⟩
            · simp only [moved, Bool.false_eq_true, if_false] at hk ⊢; omega
            · rw [hdr]; exact hp2.kept hk3 (fun e => PipeAt.ne2 Hq.out Hp.out e.symm) Hcd.out
            · exact ((hkept.drewN _).trans (hk2.mono fun _ _ e => .inl e)).trans (hk3.mono fun _ _ e => .inr e)
          case measure =>
            have hkl : k < la.length := by
              have := congrArg List.length HD.out
              simp at this
              omega
            have hml : lb.length + k < rb := by have := Hm.out; simp at this; omega
            simp only [intOf, moved, Bool.false_eq_true, if_false]
            omega
      · go_wp2_with fail
        go_quiet ((go_at_call 10; exact Calls.quiet_of_same (HL.out _)))
        go_wp2_with fail
        go_ret
        obtain ⟨hp, hq, hkept, hsz⟩ := HM.out
        have hkk : moved la rb lb false = k := by have := Hm.out; simp at this; simp only [moved, Bool.false_eq_true, if_false] at hk ⊢; omega
        rw [hkk]
        exact ⟨rfl, hp.drewN _, hq.drewN _, hkept.drewN _, hsz⟩

end Go.Proofs.Ytknjniadphoflaa
