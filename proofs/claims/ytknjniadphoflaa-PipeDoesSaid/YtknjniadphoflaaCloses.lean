/-
  PipeCloses (stillagelaw05): the walk.
-/
import Derived.Test.YtknjniadphoflaaBoth
import Derived.Deep.CutRange
namespace Go.Proofs.Ytknjniadphoflaa
open Go.RowKit Go.Conc

def intOf : Value → Int
  | .int _ n => n
  | _ => 0

theorem take_snoc {α : Type} (xs : List α) (k : Nat) (z d : α) (hk : k < xs.length) (hz : xs.getD k d = z) : xs.take k ++ [z] = xs.take (k + 1) := by
  rw [List.take_add_one, List.getElem?_eq_getElem hk]
  simp only [List.getD_eq_getElem?_getD, List.getElem?_eq_getElem hk, Option.getD_some] at hz
  rw [hz]; rfl
theorem drop_head {α : Type} (xs : List α) (k n : Nat) (z d : α) (hn : n ≤ xs.length) (hk : k < n) (hz : xs.getD k d = z) : (xs.take n).drop k = z :: (xs.take n).drop (k + 1) := by
  simp only [List.getD_eq_getElem?_getD, List.getElem?_eq_getElem (show k < xs.length by omega), Option.getD_some] at hz
  rw [List.drop_eq_getElem_cons (by rw [List.length_take]; omega)]
  rw [List.getElem_take, hz]

set_option maxRecDepth 4000 in
set_option maxHeartbeats 4000000 in
theorem closes_walk (v : Value) (xs : List Int) (w : World) (hxs : IntsIn w v xs) :
    Calls Try.prog 6 #[v] w fun e w' => e = .returned (.bool true) ∧ Below w.heap.size w w' := by
  obtain ⟨ao, cap, rfl, hm, hx⟩ := hxs
  obtain ⟨len, hlen⟩ : ∃ len, xs.length = len := ⟨_, rfl⟩
  rw [hlen] at hm hx ⊢
  have HX := Lib.hid hx
  have HL := Lib.hid hlen
  clear hx hlen
  go_enter Try.func6, Try.ntmps6
  go_wp2_with fail
  refine (newInt 50 (by omega) (by omega) w).mono ?_
  rintro e w1 ⟨rfl, hp, ho, hs⟩
  have H1 := Lib.hid (And.intro hp (And.intro ho hs)); clear hp ho hs
  go_wp2_with fail
  refine (newInt 50 (by omega) (by omega) w1).mono ?_
  rintro e w2 ⟨rfl, hp, ho, hs⟩
  have ht := Two.start H1.out.1 H1.out.2.1 H1.out.2.2 hp ho
  clear hp ho hs H1
  obtain ⟨p, hp⟩ : ∃ p, p = w.heap.size + 1 := ⟨_, rfl⟩
  obtain ⟨c, hc⟩ : ∃ c, c = w.heap.size := ⟨_, rfl⟩
  obtain ⟨q, hq⟩ : ∃ q, q = w1.heap.size + 1 := ⟨_, rfl⟩
  obtain ⟨d, hd⟩ : ∃ d, d = w1.heap.size := ⟨_, rfl⟩
  have H2 : Hid (Two w w2 p c 50 [] false q d 50 [] false) := Lib.hid (by rw [hp, hc, hq, hd]; exact ht)
  rw [← hp, ← hq]
  clear ht hp hc hq hd
  go_upto_region 5 with fail
  go_cut [7] from 36 to 38 (fun s wx => (∃ n : Nat, n ≤ len ∧ n ≤ 50 ∧ s = .int .i64 n) ∧ wx = w2)
  case first =>
    go_wp2
    all_goals
      go_meet
      first
        | exact ⟨⟨50, by omega, Nat.le_refl _, rfl⟩, rfl⟩
        | exact ⟨⟨len, Nat.le_refl _, by omega, rfl⟩, rfl⟩
  case rest =>
    obtain ⟨⟨n, hn1, hn2, rfl⟩, rfl⟩ := hcut
    go_wp2_with fail
    go_loopw [8] (fun i wr => ∃ k : Nat, k ≤ n ∧ i = .int .i64 k ∧ Hid (Two w wr p c 50 (xs.take k) false q d 50 [] false)) (fun i _ => n - (intOf i).toNat)
    case atStart => exact ⟨0, Nat.zero_le _, rfl, by simpa using H2⟩
    case round =>
      obtain ⟨k, hk, rfl, HD⟩ := hrel
      obtain ⟨wk, rfl⟩ : ∃ wk, wk = wr := ⟨_, rfl⟩
      by_cases hkn : k < n
      · obtain ⟨b, off, hao, hcell⟩ := HX.out (by omega)
        subst hao
        obtain ⟨z, hz⟩ : ∃ z, xs.getD k 0 = z := ⟨_, rfl⟩
        have x0 := hcell k (by omega)
        rw [hz] at x0
        clear hcell
        have HZ := Lib.hid hz
        clear hz
        have x0 : wk.cell? ⟨b, off + k, none⟩ = some (.int .i64 z) := (HD.out.old.cell (p := ⟨b, off + k, none⟩) (World.block_lt_of_cell? _ _ x0)).trans x0
        have p0 : (0 : Int) ≤ (k : Int) := by omega
        have p1 : (k : Int) < (len : Int) := by omega
        go_wp2_with fail
        have hsd : sends 50 (xs.take k) false = true := by simp [sends, List.length_take]; omega
        refine (HD.out.send1 z true hsd).mono ?_
        rintro e w3 ⟨rfl, h⟩
        have HE : Hid (Two w w3 p c 50 (xs.take (k + 1)) false q d 50 [] false) := Lib.hid (by
          rw [sent, hsd, if_pos rfl, take_snoc xs k z 0 (by have := HL.out; omega) HZ.out] at h
          exact h)
        clear h hsd
        go_wp2_with fail
        go_roundw
        case rel => exact ⟨k + 1, by omega, by go_num, HE⟩
        case measure => simp [intOf]; omega
      · obtain rfl : n = k := by omega
        obtain ⟨L, hL⟩ : ∃ L, xs.take n = L := ⟨_, rfl⟩
        have hLn : L.length = n := by rw [← hL, List.length_take]; have := HL.out; omega
        rw [hL] at HD
        have HLL := Lib.hid (And.intro hL hLn)
        clear hL hLn
        go_wp2_with fail
        refine (HD.out.send2 7 true rfl).mono ?_
        rintro e w3 ⟨rfl, h⟩
        have H3 : Hid (Two w w3 p c 50 L false q d 50 [7] false) := Lib.hid h
        clear h
        go_wp2_with fail
        refine (H3.out.close1).mono ?_
        rintro e w4 ⟨rfl, h⟩
        have H4 := Lib.hid h
        clear h
        go_wp2_with fail
        refine (H4.out.close1).mono ?_
        rintro e w5 ⟨rfl, h⟩
        have H5 := Lib.hid h
        clear h
        go_wp2_with fail
        refine (H5.out.send1 1 false rfl).mono ?_
        rintro e w6 ⟨rfl, h⟩
        have H6 : Hid (Two w w6 p c 50 L true q d 50 [7] false) := Lib.hid h
        clear h
        go_wp2_with fail
        refine (H6.out.swap.move).mono ?_
        rintro e w7 ⟨rfl, h⟩
        have H7 : Hid (Two w w7 p c 50 L true q d 50 [7] false) := Lib.hid (by
          have h' := h.swap
          simpa [moved] using h')
        clear h
        rw [show ((moved ([7] : List Int) 50 L true : Nat) : Int) = 0 from rfl]
        go_wp2_with fail
        refine (H7.out.swap.len1 1 rfl).mono ?_
        rintro e w8 ⟨rfl, h⟩
        have H8 : Hid (Two w w8 p c 50 L true q d 50 [7] false) := Lib.hid h.swap
        clear h
        go_wp2_with fail
        refine (H8.out.len1 n (by rw [HLL.out.2])).mono ?_
        rintro e w9 ⟨rfl, h⟩
        have H9 : Hid (Two w w9 p c 50 (L.drop 0) true q d 50 [7] false) := Lib.hid h
        clear h
        go_wp2_with fail
        go_loopw [9] (fun i wr => ∃ k : Nat, k ≤ n ∧ i = .int .i64 k ∧ Hid (Two w wr p c 50 (L.drop k) true q d 50 [7] false)) (fun i _ => n - (intOf i).toNat)
        case atStart => exact ⟨0, Nat.zero_le _, rfl, H9⟩
        case round =>
          obtain ⟨k, hk, rfl, HT⟩ := hrel
          obtain ⟨wk, rfl⟩ : ∃ wk, wk = wr := ⟨_, rfl⟩
          by_cases hkn : k < n
          · obtain ⟨b, off, hao, hcell⟩ := HX.out (by omega)
            subst hao
            obtain ⟨z, hz⟩ : ∃ z, xs.getD k 0 = z := ⟨_, rfl⟩
            have x0 := hcell k (by omega)
            rw [hz] at x0
            clear hcell
            have hdr := drop_head xs k n z 0 (by have := HL.out; omega) hkn hz
            rw [HLL.out.1] at hdr
            have HX0 := Lib.hid x0
            clear hz x0
            have HT' := Lib.hid (hdr ▸ HT.out)
            clear hdr
            have p0 : (0 : Int) ≤ (k : Int) := by omega
            have p1 : (k : Int) < (len : Int) := by omega
            go_wp2_with fail
            refine (HT'.out.take1).mono ?_
            rintro e w10 ⟨rfl, h⟩
            have HE := Lib.hid h
            have x1 : w10.cell? ⟨b, off + k, none⟩ = some (.int .i64 z) := (h.old.cell (p := ⟨b, off + k, none⟩) (World.block_lt_of_cell? _ _ HX0.out)).trans HX0.out
            clear h
            go_wp2_with fail
            go_roundw
            case rel => exact ⟨k + 1, by omega, by go_num, HE⟩
            case measure => simp [intOf]; omega
          · obtain rfl : n = k := by omega
            have hnil : L.drop n = [] := List.drop_eq_nil_of_le (by rw [HLL.out.2]; exact Nat.le_refl _)
            rw [hnil] at HT
            clear hnil
            go_wp2_with fail
            refine (HT.out.take).mono ?_
            rintro e w10 ⟨rfl, h⟩
            simp only [headOr, List.isEmpty_nil, Bool.not_true]
            have HE : Hid (Two w w10 p c 50 [] true q d 50 [7] false) := Lib.hid h
            clear h
            go_wp2_with fail
            refine (HE.out.len1 0 rfl).mono ?_
            rintro e w11 ⟨rfl, h⟩
            have HF := Lib.hid h
            clear h
            go_wp2_with fail
            refine (fixed_true w11).mono ?_
            rintro e w12 ⟨rfl, ho⟩
            have HG := Lib.hid (HF.out.old.trans (ho.mono HF.out.old.size))
            clear ho
            go_wp2_with fail
            go_ret
            exact ⟨rfl, HG.out⟩

end Go.Proofs.Ytknjniadphoflaa
