/-
  PipeNews answers true for every room: New gives a pipe just if the room is 1 to 4096, else the error. No conditions.
-/
import Derived.Test.YtknjniadphoflaaFixed
import Derived.Test.YtknjniadphoflaaLift
namespace Go.Proofs.Ytknjniadphoflaa
open Go.ChangeShapes Go.WideShapes Go.ChangeAt Go.RowKit

set_option maxHeartbeats 400000 in
theorem news_walk (n : Int) (w : World) : Calls Try.prog 3 #[.int .i64 n] w fun e w' => e = .returned (.bool true) ∧ Below w.heap.size w w' := by
  by_cases h : 1 ≤ n ∧ n ≤ 4096
  · obtain ⟨h1, h2⟩ := h
    go_enter Try.func3, Try.ntmps3
    go_wp2_with fail
    refine (newStr n h1 h2 w).mono ?_
    rintro e w1 ⟨rfl, hp, ho, hs⟩
    have H1 := Lib.hid (And.intro hp (And.intro ho hs))
    clear hp ho hs
    go_wp2_with fail
    refine (fixed_true w1).mono ?_
    rintro e w2 ⟨rfl, ho⟩
    have hp2 : StrPipe w2 (w.heap.size + 1) w.heap.size n.toNat [] false := H1.out.1.kept (Kept.of_below ho (fun _ => False)) (fun h => h) (fun h => h)
    have H2 := Lib.hid ho
    have HL := Lib.hid (lenStr _ _ _ _ _ _ hp2)
    clear ho hp2
    go_wp2_with fail
    refine HL.out.mono ?_
    rintro e w3 ⟨rfl, rfl⟩
    go_wp2_with fail
    go_ret
    obtain ⟨_, ho, hs⟩ := H1.out
    exact ⟨rfl, ho.trans (H2.out.mono (by omega))⟩
  · have h' : n < 1 ∨ 4096 < n := by omega
    have HN := Lib.hid (newStr_no n h' w)
    clear h
    rcases h' with h' | h'
    · go_enter Try.func3, Try.ntmps3
      go_wp2_with fail
      refine HN.out.mono ?_
      rintro e w1 ⟨rfl, rfl⟩
      go_wp2_with fail
      refine (fixed_true w1).mono ?_
      rintro e w2 ⟨rfl, ho⟩
      have H2 := Lib.hid ho
      clear ho
      go_wp2_with fail
      go_ret
      exact ⟨rfl, H2.out⟩
    · have hd : decide (n ≤ 4096) = false := by simp; omega
      go_enter Try.func3, Try.ntmps3
      go_wp2_with fail
      refine HN.out.mono ?_
      rintro e w1 ⟨rfl, rfl⟩
      go_wp2_with fail
      refine (fixed_true w1).mono ?_
      rintro e w2 ⟨rfl, ho⟩
      have H2 := Lib.hid ho
      clear ho
      go_wp2_with fail
      go_ret
      exact ⟨rfl, H2.out⟩

set_option maxRecDepth 100000 in
theorem news_lifted (os : Os) (started : os.Started) (H : Type) (enc : TypeId × Value → H) :
    ReturnsInHanded {} Try.checked os 3 .any (Rows.pipeNewsSpec.pre6 enc Try.prog Try.f3 Rows.pipeNewsRow.domain false) (Rows.pipeNewsSpec.post enc Try.prog Try.f3 false true false false) := by
  refine returnsInHanded_of_change (C := Try.checked) Try.own started (by kernel_rfl) Try.func3
    (ChangeSpec.witness6 (enc := enc) (C := Try.checked) false ⟨#[], #[.int .i64 0], []⟩ 8 (by kernel_rfl) (by kernel_rfl) (by kernel_rfl) (by kernel_rfl)) ?_
  intro W base args ds gs before hval0 hW hcnd _
  have hval : ∀ (j : Nat) t v, Try.f3.params[j]? = some t → args[j]? = some v → Value.okWide Try.prog W .any base t v := hval0
  have hW' := hW
  obtain ⟨p, q, hA0, hV, rfl, hfz, hnd⟩ := hW
  have hA : DataW.TrodAll enc Try.prog W 0 (fun _ => true) true Try.f3.params.toList args.toList ds p := hA0
  rw [Try.params3] at hA hval
  obtain ⟨v0, d0, rfl, rfl, h0⟩ := trodAll_one hA
  obtain ⟨rfl, rfl⟩ := trodVars_none hV
  obtain ⟨n, rfl, rfl, rfl, wn⟩ := open_int Try.underlying3 (hval 0 3 v0 rfl rfl) h0
  clear hA0 hval0
  refine (news_walk n W).mono fun e W' ⟨he, hb⟩ => ?_
  subst he
  exact ⟨_, rfl, law_post (by rw [Try.params3]; intro t ht; simp at ht; subst ht; exact ⟨by kernel_rfl, of_decide_eq_true (by kernel_rfl)⟩) rfl rfl rfl hW' hb⟩

theorem news_holds : Rows.PipeNewsSaid :=
  OpenClaim.holds_of_wide 3 Try.f3 rfl rfl rfl rfl rfl rfl rfl ⟨rfl, rfl, rfl, rfl, rfl⟩ rfl rfl rfl rfl rfl (by kernel_rfl) Try.func3 (by kernel_rfl)
    (of_decide_eq_true (by kernel_rfl)) (by unfold Func.isWrapper; rw [if_neg (of_decide_eq_false (by kernel_rfl))]; exact ⟨rfl, rfl⟩)
    (fun os started H enc _ => news_lifted os started H enc)

end Go.Proofs.Ytknjniadphoflaa
