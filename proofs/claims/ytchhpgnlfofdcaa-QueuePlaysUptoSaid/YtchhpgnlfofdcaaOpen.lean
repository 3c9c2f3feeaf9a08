/- Events that came in, opened. -/
import Derived.Test.YtchhpgnlfofdcaaRows
import Derived.Test.YtchhpgnlfofdcaaSame
import Derived.ChangeSame
import Derived.JoinedOf
import Derived.JoinedAt
import Derived.RowKit3
import Derived.ProofKit
import Derived.Lib.SmallJoins
import Derived.OpenShut
import Derived.Deep.Slices
set_option linter.unusedVariables false
set_option linter.unusedSimpArgs false
namespace Go.Proofs.Ytchhpgnlfofdcaa.RowQ
open Go.Proofs Go.Proofs.Ytchhpgnlfofdcaa Go.Proofs.Ytchhpgnlfofdcaa.Q
open Go.ChangeShapes Go.WideShapes Go.ChangeAt Go.RowKit Go.Joins Go.Deep
theorem own : ownKnob Try.prog.godebug = none := by kernel_rfl
theorem laidOut : laidOutB Try.prog = true := by kernel_rfl
theorem cells28 : Try.prog.cellsOf 28 = 5 := by kernel_rfl
theorem cells71 : Try.prog.cellsOf 71 = 3 := by kernel_rfl
theorem cells26 : Try.prog.cellsOf 26 = 1 := by kernel_rfl
theorem cells2 : Try.prog.cellsOf 2 = 1 := by kernel_rfl
theorem cells3 : Try.prog.cellsOf 3 = 1 := by kernel_rfl
section
variable {H : Type} {enc : TypeId × Value → H}
theorem list3 {α : Type} (l : List α) (h : l.length = 3) : ∃ a b c, l = [a, b, c] := by
  match l, h with
  | [a, b, c], _ => exact ⟨a, b, c, rfl⟩
theorem list5 {α : Type} (l : List α) (h : l.length = 5) : ∃ a b c d e, l = [a, b, c, d, e] := by
  match l, h with
  | [a, b, c, d, e], _ => exact ⟨a, b, c, d, e, rfl⟩
instance : Inhabited Pt := ⟨⟨0, 0, 0⟩⟩
instance : Inhabited Ev := ⟨Ev.zero⟩
/-- The numbers 0 to n under a function. -/
def tab {α : Type} (q : Nat → α) (n : Nat) : List α := (List.range n).map q
theorem tab_length {α : Type} (q : Nat → α) (n : Nat) : (tab q n).length = n := by simp [tab]
theorem tab_get {α : Type} (q : Nat → α) (n k : Nat) (h : k < (tab q n).length) : (tab q n)[k] = q k := by simp [tab]
theorem pat_of {T : Nat → Prop} {w : World} {va : Option Addr} {vec : List Pt} {g o : Nat} (h1 : 0 < vec.length → va = some ⟨g, o, none⟩ ∧ T g) (h2 : ∀ k (hk : k < vec.length) r u, (cellsP vec[k])[r]? = some u → w.cell? ⟨g, o + (k * 3 + r), none⟩ = some u) : PAt T w va vec := by
  refine ⟨g, o, h1, fun j u hu => ?_⟩
  have hlt : j < (flatP vec).length := (List.getElem?_eq_some_iff.1 hu).1
  rw [flatP_length] at hlt
  have hk : j / 3 < vec.length := by omega
  have hr : j % 3 < 3 := Nat.mod_lt _ (by omega)
  have hj : j = j / 3 * 3 + j % 3 := by omega
  rw [hj] at hu ⊢
  rw [flatP_get vec _ _ hk hr] at hu
  exact h2 _ hk _ u hu
/-- A vector, opened. -/
theorem open_parts {W : World} {sp : Nat → Bool} {fuel : Nat} {cs : List Value} {x : DataW H × List MemPlace} (h : DataW.trod enc Try.prog W 0 sp true fuel 26 cs = some x) :
    ∃ (va : Option Addr) (vc : Nat) (vec : List Pt), cs = [.slice va vec.length vc] ∧ PAt (Lt W.heap.size) W va vec := by
  rcases open_slice Try.underlying26 h with ⟨h0, _⟩ | ⟨a, len, cap, m, n, D, Pl, h0, hb, hl, hm, hmm, _, hx⟩
  · exact ⟨none, 0, [], h0, 0, 0, fun h => by simp at h, fun j u hu => by simp [flatP] at hu⟩
  have hlm : len ≤ m := by rw [hmm]; split <;> omega
  have each : ∀ i, i < m → ∃ q : Pt, W.cell? (a.add (i * 3)) = some (.int .i64 q.kind) ∧ W.cell? (a.add (i * 3 + 1)) = some (.int .i64 q.role) ∧ W.cell? (a.add (i * 3 + 2)) = some (.int .i64 q.amount) := by
    intro i hi
    obtain ⟨cs', h1, h2⟩ := hx i hi
    rw [cells71] at h1
    obtain ⟨_, hlen, hcell⟩ := World.cells?_some h1
    obtain ⟨xs, k, hk, hxy, _, hxl, hf⟩ := DataW.trod_struct Try.underlying71 h2
    obtain ⟨y0, y1, y2, rfl⟩ := list3 xs hxl
    obtain ⟨v0, v1, v2, rfl⟩ := list3 cs' hlen
    · clear hx
      have g0 : DataW.trod enc Try.prog W 0 sp true k 3 (([v0, v1, v2].drop 0).take (Try.prog.cellsOf 3)) = some y0 := hf 0 _ rfl
      have g1 : DataW.trod enc Try.prog W 0 sp true k 3 (([v0, v1, v2].drop 1).take (Try.prog.cellsOf 3)) = some y1 := hf 1 _ rfl
      have g2 : DataW.trod enc Try.prog W 0 sp true k 2 (([v0, v1, v2].drop 2).take (Try.prog.cellsOf 2)) = some y2 := hf 2 _ rfl
      simp only [cells2, cells3, List.drop, List.take] at g0 g1 g2
      obtain ⟨q0, e0, _, _⟩ := DataW.trod_int Try.underlying3 g0
      obtain ⟨q1, e1, _, _⟩ := DataW.trod_int Try.underlying3 g1
      obtain ⟨q2, e2, _, _⟩ := DataW.trod_int Try.underlying2 g2
      simp only [List.cons.injEq, and_true] at e0 e1 e2
      subst e0; subst e1; subst e2
      have c0 := hcell 0 (by omega)
      have c1 := hcell 1 (by omega)
      have c2 := hcell 2 (by omega)
      rw [add_add] at c0 c1 c2
      exact ⟨⟨q0, q1, q2⟩, by simpa using c0, by simpa using c1, by simpa using c2⟩
  obtain ⟨q, hq⟩ := choose_lt each
  obtain ⟨b, o, spot⟩ := a
  have hs : 0 < len → spot = none := fun h0 => by
    have := World.cell?_spot (hq 0 (by omega)).1
    simpa [Addr.add] using this
  refine ⟨some ⟨b, o, spot⟩, cap, tab q len, by rw [tab_length]; exact h0, pat_of (g := b) (o := o) (fun h0 => ?_) (fun k hk r u hu => ?_)⟩
  · rw [tab_length] at h0
    obtain rfl := hs h0
    obtain ⟨c0, _⟩ := hq 0 (by omega)
    simp only [Go.WideShapes.add_plain] at c0
    exact ⟨rfl, World.block_lt_of_cell? _ _ c0⟩
  · rw [tab_get] at hu
    rw [tab_length] at hk
    obtain rfl := hs (by omega)
    obtain ⟨c0, c1, c2⟩ := hq k (by omega)
    simp only [Go.WideShapes.add_plain] at c0 c1 c2
    match r, hu with
    | 0, hu => simp only [cellsP, List.getElem?_cons_zero, Option.some.injEq] at hu; rw [← hu]; exact c0
    | 1, hu => simp [cellsP] at hu; rw [← hu]; exact c1
    | 2, hu => simp [cellsP] at hu; rw [← hu]; exact c2
    | r + 3, hu => simp [cellsP] at hu
/-- Events, opened. -/
theorem open_events {W : World} {sp : Nat → Bool} {fuel : Nat} {cs : List Value} {x : DataW H × List MemPlace} (h : DataW.trod enc Try.prog W 0 sp true fuel 22 cs = some x) :
    ∃ (fa : Option Addr) (g o fc : Nat) (es : List Ev), cs = [.slice fa es.length fc] ∧ EAt (Lt W.heap.size) W fa g o es := by
  rcases open_slice Try.underlying22 h with ⟨h0, _⟩ | ⟨a, len, cap, m, n, D, Pl, h0, hb, hl, hm, hmm, _, hx⟩
  · exact ⟨none, 0, 0, 0, [], h0, fun h => by simp at h, fun j hj => by simp at hj⟩
  have hlm : len ≤ m := by rw [hmm]; split <;> omega
  have each : ∀ i, i < m → ∃ q : Ev × Option Addr × Nat, W.cell? (a.add (i * 5)) = some (.int .i64 q.1.kind) ∧ W.cell? (a.add (i * 5 + 1)) = some (.int .i64 q.1.frame) ∧ W.cell? (a.add (i * 5 + 2)) = some (.int .i64 q.1.id) ∧ W.cell? (a.add (i * 5 + 3)) = some (.int .i64 q.1.agent) ∧
      W.cell? (a.add (i * 5 + 4)) = some (.slice q.2.1 q.1.vec.length q.2.2) ∧ PAt (Lt W.heap.size) W q.2.1 q.1.vec := by
    intro i hi
    obtain ⟨cs', h1, h2⟩ := hx i hi
    rw [cells28] at h1
    obtain ⟨_, hlen, hcell⟩ := World.cells?_some h1
    obtain ⟨xs, k, hk, hxy, _, hxl, hf⟩ := DataW.trod_struct Try.underlying28 h2
    obtain ⟨y0, y1, y2, y3, y4, rfl⟩ := list5 xs hxl
    obtain ⟨v0, v1, v2, v3, v4, rfl⟩ := list5 cs' hlen
    · clear hx
      have g0 : DataW.trod enc Try.prog W 0 sp true k 3 (([v0, v1, v2, v3, v4].drop 0).take (Try.prog.cellsOf 3)) = some y0 := hf 0 _ rfl
      have g1 : DataW.trod enc Try.prog W 0 sp true k 2 (([v0, v1, v2, v3, v4].drop 1).take (Try.prog.cellsOf 2)) = some y1 := hf 1 _ rfl
      have g2 : DataW.trod enc Try.prog W 0 sp true k 2 (([v0, v1, v2, v3, v4].drop 2).take (Try.prog.cellsOf 2)) = some y2 := hf 2 _ rfl
      have g3 : DataW.trod enc Try.prog W 0 sp true k 2 (([v0, v1, v2, v3, v4].drop 3).take (Try.prog.cellsOf 2)) = some y3 := hf 3 _ rfl
      have g4 : DataW.trod enc Try.prog W 0 sp true k 26 (([v0, v1, v2, v3, v4].drop 4).take (Try.prog.cellsOf 26)) = some y4 := hf 4 _ rfl
      simp only [cells2, cells3, cells26, List.drop, List.take] at g0 g1 g2 g3 g4
      obtain ⟨q0, e0, _, _⟩ := DataW.trod_int Try.underlying3 g0
      obtain ⟨q1, e1, _, _⟩ := DataW.trod_int Try.underlying2 g1
      obtain ⟨q2, e2, _, _⟩ := DataW.trod_int Try.underlying2 g2
      obtain ⟨q3, e3, _, _⟩ := DataW.trod_int Try.underlying2 g3
      obtain ⟨va, vc, vec, e4, hp⟩ := open_parts g4
      simp only [List.cons.injEq, and_true] at e0 e1 e2 e3 e4
      subst e0; subst e1; subst e2; subst e3; subst e4
      have c0 := hcell 0 (by omega)
      have c1 := hcell 1 (by omega)
      have c2 := hcell 2 (by omega)
      have c3 := hcell 3 (by omega)
      have c4 := hcell 4 (by omega)
      rw [add_add] at c0 c1 c2 c3 c4
      exact ⟨(⟨q0, q1, q2, q3, vec⟩, va, vc), by simpa using c0, by simpa using c1, by simpa using c2, by simpa using c3, by simpa using c4, hp⟩
  obtain ⟨q, hq⟩ := choose_lt each
  obtain ⟨b, o, spot⟩ := a
  have hs : 0 < len → spot = none := fun h0 => by
    have := World.cell?_spot (hq 0 (by omega)).1
    simpa [Addr.add] using this
  refine ⟨some ⟨b, o, spot⟩, b, o, cap, tab (fun i => (q i).1) len, by rw [tab_length]; exact h0, fun h0 => ?_, fun j hj => ?_⟩
  · rw [tab_length] at h0
    obtain rfl := hs h0
    obtain ⟨c0, _⟩ := hq 0 (by omega)
    simp only [Go.WideShapes.add_plain] at c0
    exact ⟨rfl, World.block_lt_of_cell? _ _ c0⟩
  · rw [tab_length] at hj
    obtain rfl := hs (by omega)
    obtain ⟨c0, c1, c2, c3, c4, hp⟩ := hq j (by omega)
    simp only [Go.WideShapes.add_plain] at c0 c1 c2 c3 c4
    rw [tab_get]
    exact ⟨(q j).2.1, (q j).2.2, by simpa using c0, by simpa [Nat.add_assoc] using c1, by simpa [Nat.add_assoc] using c2, by simpa [Nat.add_assoc] using c3, by simpa [Nat.add_assoc] using c4, hp⟩
end
end Go.Proofs.Ytchhpgnlfofdcaa.RowQ
