/-
  append onto a slice that the call owns, whatever is appended (nil, empty, cut, or not): the law at the run, at the walk, and at a step of a region that draws. No program is named here.
-/
import Derived.Test.YteolokckflckaaaBase
import Derived.Maps.AppendAt
import Derived.Laws.AppendOwnNone
import Derived.Deep.RegionHeld3
import Derived.Deep.QuietTactic
import Derived.BigQuiet
namespace Go.Proofs.Yteolokckflckaaa
open Go.RowKit Go.Conc

/-- x is a slice of m elements whose cells are news. -/
structure SrcIs (w : World) (size : Nat) (x : Value) (m : Nat) (news : List Value) : Prop where
  shape : ∃ ao c, x = .slice ao m c ∧ (ao = none → m = 0 ∧ c = 0) ∧ ∀ ad, ao = some ad → ∀ j u, news[j]? = some u → w.cell? (ad.add j) = some u
  len : news.length = m * size
  one : ∀ u ∈ news, u.oneCell' = true

theorem SrcIs.drew {w : World} {size : Nat} {x : Value} {m : Nat} {news : List Value} (h : SrcIs w size x m news) : SrcIs w.drew size x m news := ⟨h.shape, h.len, h.one⟩

theorem SrcIs.kept {w w' : World} {size : Nat} {x : Value} {m : Nat} {news : List Value} (h : SrcIs w size x m news) (hc : ∀ b o v, w.cell? ⟨b, o, none⟩ = some v → x.ownBlock = some b → w'.cell? ⟨b, o, none⟩ = some v) (hs : ∀ ad, x = .slice (some ad) m (match x with | .slice _ _ c => c | _ => 0) → ad.spot = none) : SrcIs w' size x m news := by
  obtain ⟨⟨ao, c, rfl, h0, hcell⟩, hl, h1⟩ := h
  refine ⟨⟨ao, c, rfl, h0, fun ad had j u hu => ?_⟩, hl, h1⟩
  subst had
  have := hcell ad rfl j u hu
  obtain ⟨b, o, sp⟩ := ad
  obtain rfl : sp = none := hs ⟨b, o, sp⟩ rfl
  rw [Addr.add_lit] at this ⊢
  exact hc _ _ _ this rfl

section
variable {P : Program} (w : World)

theorem run_append_src (t ty : TypeId) (base : Nat) (e : TypeId) (i : TypeInfo) (z : Value) (size bytes : Nat) (ht : P.underlying t = some (.slice e)) (hi : P.info? e = some i) (hz : i.zero = some z)
    (hsize : i.size = size) (hby : i.bytes = bytes) (hzs : z.cells.size = size) (hsz : 0 < size)
    (v : Value) (n : Nat) (xs : List Value) (hown : w.ownsRow base e size v n xs) (x : Value) (m : Nat) (news : List Value) (hsrc : SrcIs w size x m news)
    (h63 : n + m ≤ maxLen) (hbytes : (n + m) * bytes ≤ 140737488355328) (hbase : base ≤ w.heap.size) :
    ∃ v' w', (Builtin.append_ #[t, t] ty #[v, x]).run P w = .ok v' w' ∧ w'.ownsRow base e size v' (n + m) (xs ++ news) ∧ w.grownBy w' v.ownBlock ∧ (v'.ownBlock = v.ownBlock ∨ v'.ownBlock = some w.heap.size) := by
  obtain ⟨⟨ao, c, rfl, h0, hc⟩, hl, h1⟩ := hsrc
  cases ao with
  | some ad =>
    obtain ⟨v', w', hr, ho, hg, _, hat⟩ := run_append_own_at (P := P) w base t ty e i z size bytes ht hi hz hsize hby hzs hsz v n xs hown ad m c news hl (hc ad rfl) h1 h63 hbytes hbase
    exact ⟨v', w', hr, ho, hg, hat⟩
  | none =>
    obtain ⟨rfl, rfl⟩ := h0 rfl
    have hn : news = [] := List.eq_nil_of_length_eq_zero (by simpa using hl)
    subst hn
    exact ⟨v, w, run_append_owned_none (P := P) (w := w) base t ty e i size ht hi v n xs hown, by simpa using hown, World.grownBy.refl _ _, .inl rfl⟩

theorem wp_append_src {o : Oper} {a : Act} {K : Act → World → Prop} {Q : Exit → Act → World → Prop} (s x : Operand) (t : TypeId)
    (ho : o.op = .call { callee := .builtin .append, args := #[s, x], argTypes := #[t, t] })
    (base : Nat) (e : TypeId) (i : TypeInfo) (z : Value) (size bytes : Nat) (ht : P.underlying t = some (.slice e)) (hi : P.info? e = some i) (hz : i.zero = some z)
    (hsize : i.size = size) (hby : i.bytes = bytes) (hzs : z.cells.size = size) (hsz : 0 < size)
    (v : Value) (n : Nat) (xs : List Value) (hs : a.eval s = v) (hown : w.ownsRow base e size v n xs) (y : Value) (m : Nat) (news : List Value) (hx : a.eval x = y) (hsrc : SrcIs w size y m news)
    (h63 : n + m ≤ maxLen) (hbytes : (n + m) * bytes ≤ 140737488355328) (hbase : base ≤ w.heap.size)
    (h : ∀ v' w', w'.ownsRow base e size v' (n + m) (xs ++ news) → w.grownBy w' v.ownBlock → (v'.ownBlock = v.ownBlock ∨ v'.ownBlock = some w.heap.size) → K (a.put o.dst v') w') : o.wp P a w K Q := by
  obtain ⟨v', w', hr, h2, h3, h4⟩ := run_append_src (P := P) w t o.type base e i z size bytes ht hi hz hsize hby hzs hsz v n xs hown y m news hsrc h63 hbytes hbase
  unfold Oper.wp execOp
  simp only [ho, resolve, invoke, builtin, Sem.run_bind, Sem.run_pure, Result.andThen_ok, List.map_toArray, List.map_cons, List.map_nil, hs, hx, hr]
  exact h v' w' h2 h3 h4

theorem wpList_append_src {ops : Array Oper} {rest : List Oper} {o : Oper} {a : Act} {Q : Exit → Act → World → Prop} (hgd : o.guard = none) (s x : Operand) (t : TypeId)
    (ho : o.op = .call { callee := .builtin .append, args := #[s, x], argTypes := #[t, t] })
    (base : Nat) (e : TypeId) (i : TypeInfo) (z : Value) (size bytes : Nat) (ht : P.underlying t = some (.slice e)) (hi : P.info? e = some i) (hz : i.zero = some z)
    (hsize : i.size = size) (hby : i.bytes = bytes) (hzs : z.cells.size = size) (hsz : 0 < size)
    (v : Value) (n : Nat) (xs : List Value) (hs : a.eval s = v) (hown : w.ownsRow base e size v n xs) (y : Value) (m : Nat) (news : List Value) (hx : a.eval x = y) (hsrc : SrcIs w size y m news)
    (h63 : n + m ≤ maxLen) (hbytes : (n + m) * bytes ≤ 140737488355328) (hbase : base ≤ w.heap.size)
    (h : ∀ v' w', w'.ownsRow base e size v' (n + m) (xs ++ news) → w.grownBy w' v.ownBlock → (v'.ownBlock = v.ownBlock ∨ v'.ownBlock = some w.heap.size) → wpList P ops Q rest (a.put o.dst v') w') : wpList P ops Q (o :: rest) a w :=
  wpList_plain hgd fun _ hK => wp_append_src w s x t ho base e i z size bytes ht hi hz hsize hby hzs hsz v n xs hs hown y m news hx hsrc h63 hbytes hbase fun v' w' h2 h3 h4 => hK _ _ (h v' w' h2 h3 h4)

theorem step_append_src {ops : Array Oper} {o : Oper} {a : Act} {K : Act → World → Prop} {Q : Exit → Act → World → Prop} {E : Prop} (hgd : o.guard = none) (s x : Operand) (t : TypeId)
    (ho : o.op = .call { callee := .builtin .append, args := #[s, x], argTypes := #[t, t] })
    (base : Nat) (e : TypeId) (i : TypeInfo) (z : Value) (size bytes : Nat) (ht : P.underlying t = some (.slice e)) (hi : P.info? e = some i) (hz : i.zero = some z)
    (hsize : i.size = size) (hby : i.bytes = bytes) (hzs : z.cells.size = size) (hsz : 0 < size)
    (v : Value) (n : Nat) (xs : List Value) (hs : a.eval s = v) (hown : w.ownsRow base e size v n xs) (y : Value) (m : Nat) (news : List Value) (hx : a.eval x = y) (hsrc : SrcIs w size y m news)
    (h63 : n + m ≤ maxLen) (hbytes : (n + m) * bytes ≤ 140737488355328) (hbase : base ≤ w.heap.size)
    (h : ∀ v' w', w'.ownsRow base e size v' (n + m) (xs ++ news) → w.grownBy w' v.ownBlock → (v'.ownBlock = v.ownBlock ∨ v'.ownBlock = some w.heap.size) → K (a.put o.dst v') w') :
    if Region.wanted o (yielded ops a.tmps) = true then Oper.wp P o a w K Q else E := by
  have hw : Region.wanted o (yielded ops a.tmps) = true := by simp [Region.wanted, hgd]
  rw [if_pos hw]
  exact wp_append_src w s x t ho base e i z size bytes ht hi hz hsize hby hzs hsz v n xs hs hown y m news hx hsrc h63 hbytes hbase h
end

/-- A cut of a row that is known whole. -/
theorem SrcIs.cut {w : World} {g cap : Nat} {cur : Array Value} {e : TypeId} {size lo hi : Nat} (hg : w.heap[g]? = some (.cells cur e (0, 0))) (hlo : lo ≤ hi) (hhc : hi ≤ cap) (hhi : hi * size ≤ cur.size) (h1 : ∀ u ∈ (cur.toList.take (hi * size)), u.oneCell' = true) :
    SrcIs w size (sliced (some ⟨g, 0, none⟩) lo hi cap size) (hi - lo) ((cur.toList.take (hi * size)).drop (lo * size)) := by
  refine ⟨⟨_, _, rfl, ?_, ?_⟩, ?_, fun u hu => h1 u (List.mem_of_mem_drop hu)⟩
  · intro h
    split at h
    · cases h
    · simp at h
  · intro ad had j u hu
    split at had
    · rename_i hcl
      simp only [Option.some.injEq] at had
      subst had
      rw [List.getElem?_drop, List.getElem?_take] at hu
      have : lo = hi := by omega
      subst this
      rw [if_neg (by omega)] at hu
      cases hu
    · simp only [Option.map_some, Option.some.injEq] at had
      subst had
      rw [List.getElem?_drop, List.getElem?_take] at hu
      split at hu
      · rw [Addr.add_lit, Addr.add_lit, cell_of hg]
        simpa using hu
      · cases hu
  · simp only [List.length_drop, List.length_take, Array.length_toList]
    rw [Nat.min_eq_left hhi, Nat.sub_mul]

end Go.Proofs.Yteolokckflckaaa
