/-
  Send and Take of a pipe, each way through their select, over the machine of one goroutine. Printed by wip/gen/pipe_chan.py.
-/
import Derived.Test.YtknjniadphoflaaBase
namespace Go.Proofs.Ytknjniadphoflaa
open Go.RowKit Go.Conc

set_option maxRecDepth 100000 in
set_option maxHeartbeats 800000 in
theorem sendInt_room (w : World) (p c room : Nat) (l : List Int) (x : Int) (hroom : l.length < room) (pb : w.heap[p]? = some (.cells #[.chan (some c), .bool false] 62 (0, 0))) (s r : Nat) (cb : w.heap[c]? = some (.chan room (l.map (Value.int .i64)).toArray false s r false)) :
    Calls Try.prog 12 #[.pointer (some ⟨p, 0, none⟩), Value.int .i64 x] w fun e w' => e = .returned (.bool true) ∧ w' = w.setChan c room ((l ++ [x]).map (Value.int .i64)).toArray false (s + 1) r false := by
  refine calls_of_loneTo fun cs => ?_
  have e : Frame.enter Try.prog 12 #[.pointer (some ⟨p, 0, none⟩), Value.int .i64 x] .normal = (base 12).at ⟨#[.pointer (some ⟨p, 0, none⟩), Value.int .i64 x, undef, undef, undef, undef, undef, undef, undef, undef, undef, undef, undef, undef, undef, undef, undef], []⟩ [.code (Try.f12.body.getD .skip)] := by
    simp [Frame.enter, Frame.at, Try.func12, base, Try.f12]
  rw [e]
  have c0 : w.cell? ⟨p, 0, none⟩ = some (.chan (some c)) := by rw [cell_of pb]; rfl
  have c1 : w.cell? ⟨p, 1, none⟩ = some (.bool false) := by rw [cell_of pb]; rfl
  refine LoneTo.goes (n := 27) ?_
  simp only [Try.f12, Option.getD_some]
  s_c stepG_seq
  s_reg
  s_op
  s_c stepG_region_end
  s_c stepG_seq
  s_c stepG_seq
  s_reg
  s_op
  s_op
  s_op
  s_op
  s_c stepG_region_end
  s_cond false
  s_c stepG_skip
  s_c stepG_seq
  s_c stepG_seq
  s_reg
  s_op
  s_op
  s_op
  s_op
  s_c stepG_region_end
  s_reg
  s_op
  s_c stepG_region_end
  s_c stepG_seq
  s_reg
  s_stop
  refine LoneTo.step (step_lone_select_send_room (c := c) (cap := room) (buf := (l.map (Value.int .i64)).toArray) (s := s) (r := r) (tm := false) (stepG_comm (cases := #[scase c (Value.int .i64 x) (.int .i64 0)]) (blocking := false) (shape := .select) (w' := w) rfl rfl (by decide) (by simp [go_sem, execOp, scase, Act.eval])) cb (by simpa using hroom)) ?_
  rw [Frame.finish_at]
  walk_nrm
  refine LoneTo.goes (n := 10) ?_
  s_op
  s_op
  s_c stepG_region_end
  s_c stepG_block
  s_cond true
  s_c stepG_seq
  s_reg
  s_op
  s_c stepG_region_end
  s_c stepG_ret'
  s_stop
  exact LoneTo.done ⟨.returned (.bool true), _, rfl, ⟨rfl, by simp⟩, rfl, rfl, rfl, rfl, _, Try.func12, by simp [results, Try.f12, Frame.at]⟩

set_option maxRecDepth 100000 in
set_option maxHeartbeats 800000 in
theorem sendInt_full (w : World) (p c room : Nat) (l : List Int) (x : Int) (hroom : room ≤ l.length) (pb : w.heap[p]? = some (.cells #[.chan (some c), .bool false] 62 (0, 0))) (s r : Nat) (cb : w.heap[c]? = some (.chan room (l.map (Value.int .i64)).toArray false s r false)) :
    Calls Try.prog 12 #[.pointer (some ⟨p, 0, none⟩), Value.int .i64 x] w fun e w' => e = .returned (.bool false) ∧ w' = w := by
  refine calls_of_loneTo fun cs => ?_
  have e : Frame.enter Try.prog 12 #[.pointer (some ⟨p, 0, none⟩), Value.int .i64 x] .normal = (base 12).at ⟨#[.pointer (some ⟨p, 0, none⟩), Value.int .i64 x, undef, undef, undef, undef, undef, undef, undef, undef, undef, undef, undef, undef, undef, undef, undef], []⟩ [.code (Try.f12.body.getD .skip)] := by
    simp [Frame.enter, Frame.at, Try.func12, base, Try.f12]
  rw [e]
  have c0 : w.cell? ⟨p, 0, none⟩ = some (.chan (some c)) := by rw [cell_of pb]; rfl
  have c1 : w.cell? ⟨p, 1, none⟩ = some (.bool false) := by rw [cell_of pb]; rfl
  refine LoneTo.goes (n := 27) ?_
  simp only [Try.f12, Option.getD_some]
  s_c stepG_seq
  s_reg
  s_op
  s_c stepG_region_end
  s_c stepG_seq
  s_c stepG_seq
  s_reg
  s_op
  s_op
  s_op
  s_op
  s_c stepG_region_end
  s_cond false
  s_c stepG_skip
  s_c stepG_seq
  s_c stepG_seq
  s_reg
  s_op
  s_op
  s_op
  s_op
  s_c stepG_region_end
  s_reg
  s_op
  s_c stepG_region_end
  s_c stepG_seq
  s_reg
  s_stop
  refine LoneTo.step (step_lone_select_send_full (c := c) (cap := room) (buf := (l.map (Value.int .i64)).toArray) (s := s) (r := r) (tm := false) (stepG_comm (cases := #[scase c (Value.int .i64 x) (.int .i64 0)]) (blocking := false) (shape := .select) (w' := w) rfl rfl (by decide) (by simp [go_sem, execOp, scase, Act.eval])) cb (by simpa using hroom)) ?_
  rw [Frame.finish_at]
  walk_nrm
  refine LoneTo.goes (n := 10) ?_
  s_op
  s_op
  s_c stepG_region_end
  s_c stepG_block
  s_cond false
  s_c stepG_seq
  s_reg
  s_op
  s_c stepG_region_end
  s_c stepG_ret'
  s_stop
  exact LoneTo.done ⟨.returned (.bool false), _, rfl, ⟨rfl, rfl⟩, rfl, rfl, rfl, rfl, _, Try.func12, by simp [results, Try.f12, Frame.at]⟩

set_option maxRecDepth 100000 in
set_option maxHeartbeats 800000 in
theorem takeInt_some (w : World) (p c room : Nat) (cl : Bool) (pb : w.heap[p]? = some (.cells #[.chan (some c), .bool cl] 62 (0, 0))) (x : Int) (l : List Int) (s r : Nat) (cb : w.heap[c]? = some (.chan room ((x :: l).map (Value.int .i64)).toArray false s r false)) :
    Calls Try.prog 14 #[.pointer (some ⟨p, 0, none⟩)] w fun e w' => e = .returned (.tuple #[Value.int .i64 x, .bool true]) ∧ w' = w.setChan c room (l.map (Value.int .i64)).toArray false s (r + 1) false := by
  refine calls_of_loneTo fun cs => ?_
  have e : Frame.enter Try.prog 14 #[.pointer (some ⟨p, 0, none⟩)] .normal = (base 14).at ⟨#[.pointer (some ⟨p, 0, none⟩), undef, undef, undef, undef, undef, undef, undef, undef, undef, undef, undef, undef, undef, undef, undef], []⟩ [.code (Try.f14.body.getD .skip)] := by
    simp [Frame.enter, Frame.at, Try.func14, base, Try.f14]
  rw [e]
  have c0 : w.cell? ⟨p, 0, none⟩ = some (.chan (some c)) := by rw [cell_of pb]; rfl
  refine LoneTo.goes (n := 14) ?_
  simp only [Try.f14, Option.getD_some]
  s_c stepG_seq
  s_reg
  s_op
  s_op
  s_c stepG_region_end
  s_c stepG_seq
  s_reg
  s_op
  s_op
  s_op
  s_op
  s_c stepG_region_end
  s_c stepG_seq
  s_reg
  s_stop
  refine LoneTo.step (step_lone_select_recv_buf (c := c) (cap := room) (buf := ((x :: l).map (Value.int .i64)).toArray) (z := .int .i64 0) (closed := false) (s := s) (r := r) (tm := false) (stepG_comm (cases := #[rcase c (.int .i64 0)]) (blocking := false) (shape := .select) (w' := w) rfl rfl (by decide) (by simp [go_sem, execOp, rcase, Act.eval])) cb (by simp)) ?_
  rw [Frame.finish_at]
  have hgd : ((List.map (Value.int .i64) (x :: l)).toArray.getD 0 undef) = Value.int .i64 x := by simp
  have hext : ((List.map (Value.int .i64) (x :: l)).toArray.extract 1 (List.map (Value.int .i64) (x :: l)).toArray.size) = (l.map (Value.int .i64)).toArray := by
    rw [List.extract_toArray]
    simp [List.extract, List.take_of_length_le]
  rw [hgd, hext]
  walk_nrm
  refine LoneTo.goes (n := 17) ?_
  s_op
  s_op
  s_c stepG_region_end
  s_c stepG_block
  s_cond true
  s_c stepG_seq
  s_reg
  s_op
  s_op
  s_c stepG_region_end
  s_c stepG_seq
  s_reg
  s_op
  s_op
  s_op
  s_c stepG_region_end
  s_c stepG_ret'
  s_stop
  exact LoneTo.done ⟨.returned (.tuple #[Value.int .i64 x, .bool true]), _, rfl, ⟨rfl, rfl⟩, rfl, rfl, rfl, rfl, _, Try.func14, by simp [results, Try.f14, Frame.at]⟩

set_option maxRecDepth 100000 in
set_option maxHeartbeats 800000 in
theorem takeInt_none (w : World) (p c room : Nat) (cl : Bool) (pb : w.heap[p]? = some (.cells #[.chan (some c), .bool cl] 62 (0, 0))) (s r : Nat) (cb : w.heap[c]? = some (.chan room #[] false s r false)) :
    Calls Try.prog 14 #[.pointer (some ⟨p, 0, none⟩)] w fun e w' => e = .returned (.tuple #[.int .i64 0, .bool false]) ∧ w' = w := by
  refine calls_of_loneTo fun cs => ?_
  have e : Frame.enter Try.prog 14 #[.pointer (some ⟨p, 0, none⟩)] .normal = (base 14).at ⟨#[.pointer (some ⟨p, 0, none⟩), undef, undef, undef, undef, undef, undef, undef, undef, undef, undef, undef, undef, undef, undef, undef], []⟩ [.code (Try.f14.body.getD .skip)] := by
    simp [Frame.enter, Frame.at, Try.func14, base, Try.f14]
  rw [e]
  have c0 : w.cell? ⟨p, 0, none⟩ = some (.chan (some c)) := by rw [cell_of pb]; rfl
  refine LoneTo.goes (n := 14) ?_
  simp only [Try.f14, Option.getD_some]
  s_c stepG_seq
  s_reg
  s_op
  s_op
  s_c stepG_region_end
  s_c stepG_seq
  s_reg
  s_op
  s_op
  s_op
  s_op
  s_c stepG_region_end
  s_c stepG_seq
  s_reg
  s_stop
  refine LoneTo.step (step_lone_select_default (c := c) (cap := room) (z := .int .i64 0) (s := s) (r := r) (tm := false) (stepG_comm (cases := #[rcase c (.int .i64 0)]) (blocking := false) (shape := .select) (w' := w) rfl rfl (by decide) (by simp [go_sem, execOp, rcase, Act.eval])) cb) ?_
  rw [Frame.finish_at]
  walk_nrm
  refine LoneTo.goes (n := 16) ?_
  s_op
  s_op
  s_c stepG_region_end
  s_c stepG_block
  s_cond false
  s_c stepG_seq
  s_reg
  s_op
  s_c stepG_region_end
  s_c stepG_seq
  s_reg
  s_op
  s_op
  s_op
  s_c stepG_region_end
  s_c stepG_ret'
  s_stop
  exact LoneTo.done ⟨.returned (.tuple #[.int .i64 0, .bool false]), _, rfl, ⟨rfl, rfl⟩, rfl, rfl, rfl, rfl, _, Try.func14, by simp [results, Try.f14, Frame.at]⟩

set_option maxRecDepth 100000 in
set_option maxHeartbeats 800000 in
theorem sendStr_room (w : World) (p c room : Nat) (l : List ByteArray) (x : ByteArray) (hroom : l.length < room) (pb : w.heap[p]? = some (.cells #[.chan (some c), .bool false] 59 (0, 0))) (s r : Nat) (cb : w.heap[c]? = some (.chan room (l.map (Value.string)).toArray false s r false)) :
    Calls Try.prog 23 #[.pointer (some ⟨p, 0, none⟩), Value.string x] w fun e w' => e = .returned (.bool true) ∧ w' = w.setChan c room ((l ++ [x]).map (Value.string)).toArray false (s + 1) r false := by
  refine calls_of_loneTo fun cs => ?_
  have e : Frame.enter Try.prog 23 #[.pointer (some ⟨p, 0, none⟩), Value.string x] .normal = (base 23).at ⟨#[.pointer (some ⟨p, 0, none⟩), Value.string x, undef, undef, undef, undef, undef, undef, undef, undef, undef, undef, undef, undef, undef, undef, undef], []⟩ [.code (Try.f23.body.getD .skip)] := by
    simp [Frame.enter, Frame.at, Try.func23, base, Try.f23]
  rw [e]
  have c0 : w.cell? ⟨p, 0, none⟩ = some (.chan (some c)) := by rw [cell_of pb]; rfl
  have c1 : w.cell? ⟨p, 1, none⟩ = some (.bool false) := by rw [cell_of pb]; rfl
  refine LoneTo.goes (n := 27) ?_
  simp only [Try.f23, Option.getD_some]
  s_c stepG_seq
  s_reg
  s_op
  s_c stepG_region_end
  s_c stepG_seq
  s_c stepG_seq
  s_reg
  s_op
  s_op
  s_op
  s_op
  s_c stepG_region_end
  s_cond false
  s_c stepG_skip
  s_c stepG_seq
  s_c stepG_seq
  s_reg
  s_op
  s_op
  s_op
  s_op
  s_c stepG_region_end
  s_reg
  s_op
  s_c stepG_region_end
  s_c stepG_seq
  s_reg
  s_stop
  refine LoneTo.step (step_lone_select_send_room (c := c) (cap := room) (buf := (l.map (Value.string)).toArray) (s := s) (r := r) (tm := false) (stepG_comm (cases := #[scase c (Value.string x) (.string ⟨#[]⟩)]) (blocking := false) (shape := .select) (w' := w) rfl rfl (by decide) (by simp [go_sem, execOp, scase, Act.eval])) cb (by simpa using hroom)) ?_
  rw [Frame.finish_at]
  walk_nrm
  refine LoneTo.goes (n := 10) ?_
  s_op
  s_op
  s_c stepG_region_end
  s_c stepG_block
  s_cond true
  s_c stepG_seq
  s_reg
  s_op
  s_c stepG_region_end
  s_c stepG_ret'
  s_stop
  exact LoneTo.done ⟨.returned (.bool true), _, rfl, ⟨rfl, by simp⟩, rfl, rfl, rfl, rfl, _, Try.func23, by simp [results, Try.f23, Frame.at]⟩

set_option maxRecDepth 100000 in
set_option maxHeartbeats 800000 in
theorem sendStr_full (w : World) (p c room : Nat) (l : List ByteArray) (x : ByteArray) (hroom : room ≤ l.length) (pb : w.heap[p]? = some (.cells #[.chan (some c), .bool false] 59 (0, 0))) (s r : Nat) (cb : w.heap[c]? = some (.chan room (l.map (Value.string)).toArray false s r false)) :
    Calls Try.prog 23 #[.pointer (some ⟨p, 0, none⟩), Value.string x] w fun e w' => e = .returned (.bool false) ∧ w' = w := by
  refine calls_of_loneTo fun cs => ?_
  have e : Frame.enter Try.prog 23 #[.pointer (some ⟨p, 0, none⟩), Value.string x] .normal = (base 23).at ⟨#[.pointer (some ⟨p, 0, none⟩), Value.string x, undef, undef, undef, undef, undef, undef, undef, undef, undef, undef, undef, undef, undef, undef, undef], []⟩ [.code (Try.f23.body.getD .skip)] := by
    simp [Frame.enter, Frame.at, Try.func23, base, Try.f23]
  rw [e]
  have c0 : w.cell? ⟨p, 0, none⟩ = some (.chan (some c)) := by rw [cell_of pb]; rfl
  have c1 : w.cell? ⟨p, 1, none⟩ = some (.bool false) := by rw [cell_of pb]; rfl
  refine LoneTo.goes (n := 27) ?_
  simp only [Try.f23, Option.getD_some]
  s_c stepG_seq
  s_reg
  s_op
  s_c stepG_region_end
  s_c stepG_seq
  s_c stepG_seq
  s_reg
  s_op
  s_op
  s_op
  s_op
  s_c stepG_region_end
  s_cond false
  s_c stepG_skip
  s_c stepG_seq
  s_c stepG_seq
  s_reg
  s_op
  s_op
  s_op
  s_op
  s_c stepG_region_end
  s_reg
  s_op
  s_c stepG_region_end
  s_c stepG_seq
  s_reg
  s_stop
  refine LoneTo.step (step_lone_select_send_full (c := c) (cap := room) (buf := (l.map (Value.string)).toArray) (s := s) (r := r) (tm := false) (stepG_comm (cases := #[scase c (Value.string x) (.string ⟨#[]⟩)]) (blocking := false) (shape := .select) (w' := w) rfl rfl (by decide) (by simp [go_sem, execOp, scase, Act.eval])) cb (by simpa using hroom)) ?_
  rw [Frame.finish_at]
  walk_nrm
  refine LoneTo.goes (n := 10) ?_
  s_op
  s_op
  s_c stepG_region_end
  s_c stepG_block
  s_cond false
  s_c stepG_seq
  s_reg
  s_op
  s_c stepG_region_end
  s_c stepG_ret'
  s_stop
  exact LoneTo.done ⟨.returned (.bool false), _, rfl, ⟨rfl, rfl⟩, rfl, rfl, rfl, rfl, _, Try.func23, by simp [results, Try.f23, Frame.at]⟩

set_option maxRecDepth 100000 in
set_option maxHeartbeats 800000 in
theorem takeStr_some (w : World) (p c room : Nat) (cl : Bool) (pb : w.heap[p]? = some (.cells #[.chan (some c), .bool cl] 59 (0, 0))) (x : ByteArray) (l : List ByteArray) (s r : Nat) (cb : w.heap[c]? = some (.chan room ((x :: l).map (Value.string)).toArray false s r false)) :
    Calls Try.prog 25 #[.pointer (some ⟨p, 0, none⟩)] w fun e w' => e = .returned (.tuple #[Value.string x, .bool true]) ∧ w' = w.setChan c room (l.map (Value.string)).toArray false s (r + 1) false := by
  refine calls_of_loneTo fun cs => ?_
  have e : Frame.enter Try.prog 25 #[.pointer (some ⟨p, 0, none⟩)] .normal = (base 25).at ⟨#[.pointer (some ⟨p, 0, none⟩), undef, undef, undef, undef, undef, undef, undef, undef, undef, undef, undef, undef, undef, undef, undef], []⟩ [.code (Try.f25.body.getD .skip)] := by
    simp [Frame.enter, Frame.at, Try.func25, base, Try.f25]
  rw [e]
  have c0 : w.cell? ⟨p, 0, none⟩ = some (.chan (some c)) := by rw [cell_of pb]; rfl
  refine LoneTo.goes (n := 14) ?_
  simp only [Try.f25, Option.getD_some]
  s_c stepG_seq
  s_reg
  s_op
  s_op
  s_c stepG_region_end
  s_c stepG_seq
  s_reg
  s_op
  s_op
  s_op
  s_op
  s_c stepG_region_end
  s_c stepG_seq
  s_reg
  s_stop
  refine LoneTo.step (step_lone_select_recv_buf (c := c) (cap := room) (buf := ((x :: l).map (Value.string)).toArray) (z := .string ⟨#[]⟩) (closed := false) (s := s) (r := r) (tm := false) (stepG_comm (cases := #[rcase c (.string ⟨#[]⟩)]) (blocking := false) (shape := .select) (w' := w) rfl rfl (by decide) (by simp [go_sem, execOp, rcase, Act.eval])) cb (by simp)) ?_
  rw [Frame.finish_at]
  have hgd : ((List.map (Value.string) (x :: l)).toArray.getD 0 undef) = Value.string x := by simp
  have hext : ((List.map (Value.string) (x :: l)).toArray.extract 1 (List.map (Value.string) (x :: l)).toArray.size) = (l.map (Value.string)).toArray := by
    rw [List.extract_toArray]
    simp [List.extract, List.take_of_length_le]
  rw [hgd, hext]
  walk_nrm
  refine LoneTo.goes (n := 17) ?_
  s_op
  s_op
  s_c stepG_region_end
  s_c stepG_block
  s_cond true
  s_c stepG_seq
  s_reg
  s_op
  s_op
  s_c stepG_region_end
  s_c stepG_seq
  s_reg
  s_op
  s_op
  s_op
  s_c stepG_region_end
  s_c stepG_ret'
  s_stop
  exact LoneTo.done ⟨.returned (.tuple #[Value.string x, .bool true]), _, rfl, ⟨rfl, rfl⟩, rfl, rfl, rfl, rfl, _, Try.func25, by simp [results, Try.f25, Frame.at]⟩

set_option maxRecDepth 100000 in
set_option maxHeartbeats 800000 in
theorem takeStr_none (w : World) (p c room : Nat) (cl : Bool) (pb : w.heap[p]? = some (.cells #[.chan (some c), .bool cl] 59 (0, 0))) (s r : Nat) (cb : w.heap[c]? = some (.chan room #[] false s r false)) :
    Calls Try.prog 25 #[.pointer (some ⟨p, 0, none⟩)] w fun e w' => e = .returned (.tuple #[.string ⟨#[]⟩, .bool false]) ∧ w' = w := by
  refine calls_of_loneTo fun cs => ?_
  have e : Frame.enter Try.prog 25 #[.pointer (some ⟨p, 0, none⟩)] .normal = (base 25).at ⟨#[.pointer (some ⟨p, 0, none⟩), undef, undef, undef, undef, undef, undef, undef, undef, undef, undef, undef, undef, undef, undef, undef], []⟩ [.code (Try.f25.body.getD .skip)] := by
    simp [Frame.enter, Frame.at, Try.func25, base, Try.f25]
  rw [e]
  have c0 : w.cell? ⟨p, 0, none⟩ = some (.chan (some c)) := by rw [cell_of pb]; rfl
  refine LoneTo.goes (n := 14) ?_
  simp only [Try.f25, Option.getD_some]
  s_c stepG_seq
  s_reg
  s_op
  s_op
  s_c stepG_region_end
  s_c stepG_seq
  s_reg
  s_op
  s_op
  s_op
  s_op
  s_c stepG_region_end
  s_c stepG_seq
  s_reg
  s_stop
  refine LoneTo.step (step_lone_select_default (c := c) (cap := room) (z := .string ⟨#[]⟩) (s := s) (r := r) (tm := false) (stepG_comm (cases := #[rcase c (.string ⟨#[]⟩)]) (blocking := false) (shape := .select) (w' := w) rfl rfl (by decide) (by simp [go_sem, execOp, rcase, Act.eval])) cb) ?_
  rw [Frame.finish_at]
  walk_nrm
  refine LoneTo.goes (n := 16) ?_
  s_op
  s_op
  s_c stepG_region_end
  s_c stepG_block
  s_cond false
  s_c stepG_seq
  s_reg
  s_op
  s_c stepG_region_end
  s_c stepG_seq
  s_reg
  s_op
  s_op
  s_op
  s_c stepG_region_end
  s_c stepG_ret'
  s_stop
  exact LoneTo.done ⟨.returned (.tuple #[.string ⟨#[]⟩, .bool false]), _, rfl, ⟨rfl, rfl⟩, rfl, rfl, rfl, rfl, _, Try.func25, by simp [results, Try.f25, Frame.at]⟩

end Go.Proofs.Ytknjniadphoflaa
