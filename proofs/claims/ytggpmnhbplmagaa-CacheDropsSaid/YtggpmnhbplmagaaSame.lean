/-
  Same: are two slices of ints alike? And a slice of ints, told as a list.
-/
import Derived.Test.YtggpmnhbplmagaaCon4
namespace Go.Proofs.Ytggpmnhbplmagaa
open Go.RowKit Go.Conc

/-- v is a slice that reads as xs. -/
def IntsIn (w : World) (v : Value) (xs : List Int) : Prop :=
  ∃ ao cap, v = .slice ao xs.length cap ∧ xs.length ≤ 9223372036854775807 ∧ (0 < xs.length → ∃ b off, ao = some ⟨b, off, none⟩ ∧ ∀ i, i < xs.length → w.cell? ⟨b, off + i, none⟩ = some (.int .i64 (xs.getD i 0)))

theorem IntsIn.of_owns {w : World} {base : Nat} {v : Value} {n : Nat} {xs : List Int} (hn : n = xs.length) (h : w.ownsRow base 3 1 v n (xs.map (Value.int .i64))) : IntsIn w v xs := by
  subst hn
  have h' := h
  obtain ⟨h1, h2⟩ := h
  rcases h2 with ⟨rfl, h0⟩ | ⟨g, cap, cur, rfl, _, hg, hc, hm, _⟩
  · rw [List.length_eq_zero_iff] at h0
    subst h0
    exact ⟨none, 0, rfl, by simp, fun h => by simp at h⟩
  · refine ⟨_, cap, rfl, by unfold maxLen at hm; omega, fun _ => ⟨g, 0, rfl, fun i hi => ?_⟩⟩
    have := h'.cellAt i (by omega)
    rw [Nat.zero_add, this]
    simp [hi]

theorem IntsIn.kept {w w' : World} {v : Value} {xs : List Int} (h : IntsIn w v xs) (hc : ∀ b off, v = .slice (some ⟨b, off, none⟩) xs.length (match v with | .slice _ _ c => c | _ => 0) → 0 < xs.length → ∀ i, w'.cell? ⟨b, i, none⟩ = w.cell? ⟨b, i, none⟩) : IntsIn w' v xs := by
  obtain ⟨ao, cap, rfl, hm, hx⟩ := h
  refine ⟨ao, cap, rfl, hm, fun h0 => ?_⟩
  obtain ⟨b, off, rfl, hcell⟩ := hx h0
  exact ⟨b, off, rfl, fun i hi => (hc b off rfl h0 _).trans (hcell i hi)⟩

theorem IntsIn.drewN {w : World} {v : Value} {xs : List Int} (h : IntsIn w v xs) (n : Nat) : IntsIn (w.drewN n) v xs := h.kept fun _ _ _ _ _ => rfl

theorem ret_bool {a b : Bool} (h : a = b) : Ending.returned (.bool a) = Ending.returned (.bool b) := by rw [h]

set_option maxHeartbeats 1000000 in
theorem same_some (w : World) (xs ys : List Int) (b off b' off' cap cap' : Nat) (hl : xs.length = ys.length) (hm : xs.length ≤ 9223372036854775807)
    (hx : ∀ i, i < xs.length → w.cell? ⟨b, off + i, none⟩ = some (.int .i64 (xs.getD i 0))) (hy : ∀ i, i < xs.length → w.cell? ⟨b', off' + i, none⟩ = some (.int .i64 (ys.getD i 0))) :
    Calls Try.prog 18 #[.slice (some ⟨b, off, none⟩) xs.length cap, .slice (some ⟨b', off', none⟩) xs.length cap'] w fun e w' => e = .returned (.bool (decide (xs = ys))) ∧ ∃ n, w' = w.drewN n := by
  obtain ⟨n, hn⟩ : ∃ n, n = xs.length := ⟨_, rfl⟩
  rw [← hn] at hm ⊢
  have HX := Lib.hid (And.intro hx hy)
  have HN := Lib.hid (And.intro hn hl)
  clear hx hy hn hl
  go_enter Try.func18, Try.ntmps18
  go_wp2
  go_loopw [5] (fun i wr => ∃ k : Nat, k ≤ n ∧ i = .int .i64 k ∧ (∃ q, wr = w.drewN q) ∧ Hid (xs.take k = ys.take k)) (fun i _ => n - (intOf i).toNat)
  case atStart => exact ⟨0, Nat.zero_le _, rfl, ⟨0, rfl⟩, by unfold Hid; simp⟩
  case round =>
    obtain ⟨k, hk, rfl, ⟨q, hq⟩, heq⟩ := hrel
    by_cases hlt : k < n
    · have cx : wr.cell? ⟨b, off + k, none⟩ = some (.int .i64 (xs.getD k 0)) := by rw [hq]; exact HX.out.1 k (by have := HN.out.1; omega)
      have cy : wr.cell? ⟨b', off' + k, none⟩ = some (.int .i64 (ys.getD k 0)) := by rw [hq]; exact HX.out.2 k (by have := HN.out.1; omega)
      obtain ⟨x, hxk⟩ : ∃ x, x = xs.getD k 0 := ⟨_, rfl⟩
      obtain ⟨y, hyk⟩ : ∃ y, y = ys.getD k 0 := ⟨_, rfl⟩
      rw [← hxk] at cx
      rw [← hyk] at cy
      have i0 : (0 : Int) ≤ (k : Int) := by omega
      have i1 : (k : Int) < (n : Int) := by omega
      have HK := Lib.hid (And.intro hxk hyk)
      have HQ := Lib.hid hq
      clear hxk hyk hq
      have hxs : xs[k]? = some x := by
        have h1 := HK.out.1
        have h2 := HN.out.1
        rw [List.getD, List.getElem?_eq_getElem (by omega)] at h1
        rw [List.getElem?_eq_getElem (by omega)]
        simpa using h1.symm
      have hys : ys[k]? = some y := by
        have h1 := HK.out.2
        have h2 := HN.out
        rw [List.getD, List.getElem?_eq_getElem (by omega)] at h1
        rw [List.getElem?_eq_getElem (by omega)]
        simpa using h1.symm
      have HXY := Lib.hid (And.intro hxs hys)
      clear hxs hys
      by_cases hxy : x = y
      · have ht : (x != y) = false := by simp [hxy]
        have HE := Lib.hid hxy
        clear hxy
        go_wp2_with fail
        go_quiet (fail)
        go_wp2
        go_roundw
        case rel =>
          refine ⟨k + 1, by omega, by go_num, ⟨q + nq, by rw [HQ.out, World.drewN_drewN]⟩, ?_⟩
          unfold Hid
          obtain ⟨hxs, hys⟩ := HXY.out
          rw [List.take_add_one, List.take_add_one, heq.out, hxs, hys, HE.out]
        case measure => simp [intOf]; omega
      · have ht : (x != y) = true := by simp [hxy]
        have HE := Lib.hid hxy
        clear hxy
        go_wp2_with fail
        go_quiet (fail)
        go_wp2
        go_ret
        have hne : xs ≠ ys := by
          rintro rfl
          obtain ⟨hxs, hys⟩ := HXY.out
          rw [hxs] at hys
          exact HE.out (Option.some.inj hys)
        exact ⟨ret_bool (decide_eq_false hne).symm, q + nq, by rw [HQ.out, World.drewN_drewN]⟩
    · obtain rfl : k = n := by omega
      have HQ := Lib.hid hq
      clear hq hlt
      go_wp2
      go_ret
      have he : xs = ys := by
        have h1 := heq.out
        obtain ⟨h2, h3⟩ := HN.out
        rwa [h2, List.take_length, h3, List.take_length] at h1
      exact ⟨ret_bool (decide_eq_true he).symm, q, HQ.out⟩

set_option maxHeartbeats 400000 in
theorem same_other (w : World) (a a' : Option Addr) (n n' cap cap' : Nat) (hl : n ≠ n') :
    Calls Try.prog 18 #[.slice a n cap, .slice a' n' cap'] w fun e w' => e = .returned (.bool false) ∧ w' = w := by
  have h1 : ((n : Int) != (n' : Int)) = true := by simp; omega
  clear hl
  go_enter Try.func18, Try.ntmps18
  go_wp2
  go_ret
  exact ⟨rfl, rfl⟩

set_option maxHeartbeats 400000 in
theorem same_none (w : World) (a a' : Option Addr) (cap cap' : Nat) :
    Calls Try.prog 18 #[.slice a 0 cap, .slice a' 0 cap'] w fun e w' => e = .returned (.bool true) ∧ w' = w := by
  go_enter Try.func18, Try.ntmps18
  go_wp2
  refine wp_loop_rounds 1 ?_
  rw [rounds_succ]
  go_wp2
  go_ret
  exact ⟨rfl, rfl⟩

theorem same (w : World) (v v' : Value) (xs ys : List Int) (h : IntsIn w v xs) (h' : IntsIn w v' ys) :
    Calls Try.prog 18 #[v, v'] w fun e w' => e = .returned (.bool (decide (xs = ys))) ∧ ∃ n, w' = w.drewN n := by
  obtain ⟨ao, cap, rfl, hm, hx⟩ := h
  obtain ⟨ao', cap', rfl, hm', hx'⟩ := h'
  by_cases hl : xs.length = ys.length
  · rcases Nat.eq_zero_or_pos xs.length with h0 | h0
    · have e1 : xs = [] := List.length_eq_zero_iff.1 h0
      have e2 : ys = [] := List.length_eq_zero_iff.1 (by omega)
      subst e1 e2
      exact (same_none w ao ao' cap cap').mono fun _ _ ⟨he, hw⟩ => ⟨by rw [he]; rfl, 0, hw⟩
    · obtain ⟨b, off, rfl, hc⟩ := hx h0
      obtain ⟨b', off', rfl, hc'⟩ := hx' (by omega)
      rw [← hl] at hc' ⊢
      exact same_some w xs ys b off b' off' cap cap' hl hm hc hc'
  · exact (same_other w ao ao' _ _ cap cap' hl).mono fun _ _ ⟨he, hw⟩ => ⟨by rw [he, decide_eq_false]; rintro rfl; exact hl rfl, 0, hw⟩

end Go.Proofs.Ytggpmnhbplmagaa
