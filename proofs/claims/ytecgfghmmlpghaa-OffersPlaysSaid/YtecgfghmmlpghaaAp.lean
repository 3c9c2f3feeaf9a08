/- An append of a row, be it of none, to an own row: the run, and the laws for a plain region and for one that draws. No program. -/
import Derived.Test.YtecgfghmmlpghaaHp
import Derived.Deep.AppendLies
import Derived.OwnWalk
set_option linter.unusedVariables false
set_option linter.unusedSimpArgs false
namespace Go.Proofs.Ytecgfghmmlpghaa.Ap
open Go.RowKit
section
variable {P : Program} (w : World)
theorem run_load0 (a : Addr) (w : World) : (loadCells a 0).run P w = .ok #[] w := by
  simp [loadCells, loadCellsFrom, Sem.run_pure]
/-- The law. -/
theorem run_append_rows (t ty : TypeId) (base : Nat) (e : TypeId) (i : TypeInfo) (z : Value) (size bytes : Nat) (ht : P.underlying t = some (.slice e)) (hi : P.info? e = some i) (hz : i.zero = some z)
    (hsize : i.size = size) (hby : i.bytes = bytes) (hzs : z.cells.size = size) (hsz : 0 < size)
    (v : Value) (n : Nat) (xs : List Value) (hown : w.ownsRow base e size v n xs)
    (fy : Option Addr) (m c : Nat) (news : List Value) (hl : news.length = m * size) (hsrc : 0 < m → ∃ ad, fy = some ad ∧ ∀ j u, news[j]? = some u → w.cell? (ad.add j) = some u) (h1 : ∀ u ∈ news, u.oneCell' = true)
    (h63 : n + m ≤ maxLen) (hbytes : (n + m) * bytes ≤ 140737488355328) (hbase : base ≤ w.heap.size) :
    ∃ fs fc w', (Builtin.append_ #[t, t] ty #[v, .slice fy m c]).run P w = .ok (.slice fs (n + m) fc) w' ∧
      w'.ownsRow base e size (.slice fs (n + m) fc) (n + m) (xs ++ news) ∧ w.grownBy w' v.ownBlock ∧ (∀ g, (Value.slice fs (n + m) fc).ownBlock = some g → v.ownBlock = some g ∨ g = w.heap.size) := by
  rcases Nat.eq_zero_or_pos m with h0 | h0
  · subst h0
    obtain rfl : news = [] := List.eq_nil_of_length_eq_zero (by simpa using hl)
    rw [List.append_nil, Nat.add_zero]
    have hv : ∃ fs fc, v = .slice fs n fc ∧ n ≤ fc := by
      rcases hown.2 with ⟨rfl, rfl⟩ | ⟨g, cap, cur, rfl, _, _, hnc, _⟩
      · exact ⟨_, _, rfl, Nat.le_refl _⟩
      · exact ⟨_, _, rfl, hnc⟩
    obtain ⟨fs, fc, rfl, hle⟩ := hv
    refine ⟨fs, fc, w, ?_, hown, World.grownBy.refl _ _, fun g hg => .inl hg⟩
    cases fs <;> cases fy <;> simp [Builtin.append_, run_underlying ht, sizeOf, typeInfo, hi, Builtin.lenOf, Builtin.firstCells, hle, storeCells, run_load0]
  · obtain ⟨ad, rfl, hnews⟩ := hsrc h0
    obtain ⟨g, cap, w', hr, h2, h3, h4, _⟩ := run_append_lies (P := P) w t ty base e i z size bytes ht hi hz hsize hby hzs hsz v n xs hown ad m c news hl hnews h1 h0 h63 hbytes hbase _ rfl
    refine ⟨_, cap, w', hr, h2, h3, fun g' hg' => ?_⟩
    simp only [Value.ownBlock, Option.some.injEq] at hg'
    subst hg'
    exact h4
/-- At the operation. -/
theorem wp_append_rows {o : Oper} {a : Act} {K : Act → World → Prop} {Q : Exit → Act → World → Prop} (s x : Operand) (t : TypeId)
    (ho : o.op = .call { callee := .builtin .append, args := #[s, x], argTypes := #[t, t] })
    (base : Nat) (e : TypeId) (i : TypeInfo) (z : Value) (size bytes : Nat) (ht : P.underlying t = some (.slice e)) (hi : P.info? e = some i) (hz : i.zero = some z)
    (hsize : i.size = size) (hby : i.bytes = bytes) (hzs : z.cells.size = size) (hsz : 0 < size)
    (v : Value) (n : Nat) (xs : List Value) (hs : a.eval s = v) (hown : w.ownsRow base e size v n xs)
    (fy : Option Addr) (m c : Nat) (news : List Value) (hx : a.eval x = .slice fy m c) (hl : news.length = m * size) (hsrc : 0 < m → ∃ ad, fy = some ad ∧ ∀ j u, news[j]? = some u → w.cell? (ad.add j) = some u) (h1 : ∀ u ∈ news, u.oneCell' = true)
    (h63 : n + m ≤ maxLen) (hbytes : (n + m) * bytes ≤ 140737488355328) (hbase : base ≤ w.heap.size)
    (h : ∀ fs fc w', w'.ownsRow base e size (.slice fs (n + m) fc) (n + m) (xs ++ news) → w.grownBy w' v.ownBlock → (∀ g, (Value.slice fs (n + m) fc).ownBlock = some g → v.ownBlock = some g ∨ g = w.heap.size) → K (a.put o.dst (.slice fs (n + m) fc)) w') : o.wp P a w K Q := by
  obtain ⟨fs, fc, w', hr, h2, h3, h4⟩ := run_append_rows (P := P) w t o.type base e i z size bytes ht hi hz hsize hby hzs hsz v n xs hown fy m c news hl hsrc h1 h63 hbytes hbase
  unfold Oper.wp execOp
  simp only [ho, resolve, invoke, builtin, Sem.run_bind, Sem.run_pure, Result.andThen_ok, List.map_toArray, List.map_cons, List.map_nil, hs, hx, hr]
  exact h fs fc w' h2 h3 h4
/-- At a plain region's list. -/
theorem wpList_append_rows {ops : Array Oper} {rest : List Oper} {o : Oper} {a : Act} {Q : Exit → Act → World → Prop} (hgd : o.guard = none) (s x : Operand) (t : TypeId)
    (ho : o.op = .call { callee := .builtin .append, args := #[s, x], argTypes := #[t, t] })
    (base : Nat) (e : TypeId) (i : TypeInfo) (z : Value) (size bytes : Nat) (ht : P.underlying t = some (.slice e)) (hi : P.info? e = some i) (hz : i.zero = some z)
    (hsize : i.size = size) (hby : i.bytes = bytes) (hzs : z.cells.size = size) (hsz : 0 < size)
    (v : Value) (n : Nat) (xs : List Value) (hs : a.eval s = v) (hown : w.ownsRow base e size v n xs)
    (fy : Option Addr) (m c : Nat) (news : List Value) (hx : a.eval x = .slice fy m c) (hl : news.length = m * size) (hsrc : 0 < m → ∃ ad, fy = some ad ∧ ∀ j u, news[j]? = some u → w.cell? (ad.add j) = some u) (h1 : ∀ u ∈ news, u.oneCell' = true)
    (h63 : n + m ≤ maxLen) (hbytes : (n + m) * bytes ≤ 140737488355328) (hbase : base ≤ w.heap.size)
    (h : ∀ fs fc w', w'.ownsRow base e size (.slice fs (n + m) fc) (n + m) (xs ++ news) → w.grownBy w' v.ownBlock → (∀ g, (Value.slice fs (n + m) fc).ownBlock = some g → v.ownBlock = some g ∨ g = w.heap.size) → wpList P ops Q rest (a.put o.dst (.slice fs (n + m) fc)) w') : wpList P ops Q (o :: rest) a w :=
  wpList_plain hgd fun _ hK => wp_append_rows w s x t ho base e i z size bytes ht hi hz hsize hby hzs hsz v n xs hs hown fy m c news hx hl hsrc h1 h63 hbytes hbase fun fs fc w' h2 h3 h4 => hK _ _ (h fs fc w' h2 h3 h4)
/-- At a step of a region that draws. -/
theorem step_append_rows {ops : Array Oper} {o : Oper} {a : Act} {K : Act → World → Prop} {Q : Exit → Act → World → Prop} {E : Prop} (hgd : o.guard = none) (s x : Operand) (t : TypeId)
    (ho : o.op = .call { callee := .builtin .append, args := #[s, x], argTypes := #[t, t] })
    (base : Nat) (e : TypeId) (i : TypeInfo) (z : Value) (size bytes : Nat) (ht : P.underlying t = some (.slice e)) (hi : P.info? e = some i) (hz : i.zero = some z)
    (hsize : i.size = size) (hby : i.bytes = bytes) (hzs : z.cells.size = size) (hsz : 0 < size)
    (v : Value) (n : Nat) (xs : List Value) (hs : a.eval s = v) (hown : w.ownsRow base e size v n xs)
    (fy : Option Addr) (m c : Nat) (news : List Value) (hx : a.eval x = .slice fy m c) (hl : news.length = m * size) (hsrc : 0 < m → ∃ ad, fy = some ad ∧ ∀ j u, news[j]? = some u → w.cell? (ad.add j) = some u) (h1 : ∀ u ∈ news, u.oneCell' = true)
    (h63 : n + m ≤ maxLen) (hbytes : (n + m) * bytes ≤ 140737488355328) (hbase : base ≤ w.heap.size)
    (h : ∀ fs fc w', w'.ownsRow base e size (.slice fs (n + m) fc) (n + m) (xs ++ news) → w.grownBy w' v.ownBlock → (∀ g, (Value.slice fs (n + m) fc).ownBlock = some g → v.ownBlock = some g ∨ g = w.heap.size) → K (a.put o.dst (.slice fs (n + m) fc)) w') :
    if Region.wanted o (yielded ops a.tmps) = true then Oper.wp P o a w K Q else E := by
  have hw : Region.wanted o (yielded ops a.tmps) = true := by simp [Region.wanted, hgd]
  rw [if_pos hw]
  exact wp_append_rows w s x t ho base e i z size bytes ht hi hz hsize hby hzs hsz v n xs hs hown fy m c news hx hl hsrc h1 h63 hbytes hbase h
end
end Go.Proofs.Ytecgfghmmlpghaa.Ap
