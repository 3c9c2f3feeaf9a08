/- Acts that came in, opened; how long they can be. -/
import Derived.Test.YtecgfghmmlpghaaRows
import Derived.Test.YtecgfghmmlpghaaActs
import Derived.ChangeSame
import Derived.JoinedOf
import Derived.JoinedAt
import Derived.RowKit3
import Derived.ProofKit
import Derived.Lib.SmallJoins
import Derived.OpenShut
import Derived.Deep.Slices
import Derived.SizedLaws
set_option linter.unusedVariables false
set_option linter.unusedSimpArgs false
namespace Go.Proofs.Ytecgfghmmlpghaa.RowO
open Go.Proofs Go.Proofs.Ytecgfghmmlpghaa Go.Proofs.Ytecgfghmmlpghaa.O Go.Proofs.Ytecgfghmmlpghaa.Hp
open Go.ChangeShapes Go.WideShapes Go.ChangeAt Go.RowKit Go.Joins Go.Deep
theorem own : ownKnob Try.prog.godebug = none := by kernel_rfl
theorem laidOut : laidOutB Try.prog = true := by kernel_rfl
theorem cells28 : Try.prog.cellsOf 28 = 6 := by kernel_rfl
theorem cells48 : Try.prog.cellsOf 48 = 3 := by kernel_rfl
theorem cells26 : Try.prog.cellsOf 26 = 1 := by kernel_rfl
theorem cells2 : Try.prog.cellsOf 2 = 1 := by kernel_rfl
theorem cells3 : Try.prog.cellsOf 3 = 1 := by kernel_rfl
theorem cells4 : Try.prog.cellsOf 4 = 1 := by kernel_rfl
theorem bytes48 : Try.prog.bytesOf 48 = 24 := by kernel_rfl
theorem bytes28 : Try.prog.bytesOf 28 = 64 := by kernel_rfl
section
variable {H : Type} {enc : TypeId × Value → H}
theorem list3 {α : Type} (l : List α) (h : l.length = 3) : ∃ a b c, l = [a, b, c] := by
  match l, h with
  | [a, b, c], _ => exact ⟨a, b, c, rfl⟩
theorem list6 {α : Type} (l : List α) (h : l.length = 6) : ∃ a b c d e f, l = [a, b, c, d, e, f] := by
  match l, h with
  | [a, b, c, d, e, f], _ => exact ⟨a, b, c, d, e, f, rfl⟩
instance : Inhabited Pt := ⟨⟨0, 0, 0⟩⟩
instance : Inhabited Ac := ⟨⟨false, 0, 0, 0, [], 0⟩⟩
/-- The numbers 0 to n under a function. -/
def tab {α : Type} (q : Nat → α) (n : Nat) : List α := (List.range n).map q
theorem tab_length {α : Type} (q : Nat → α) (n : Nat) : (tab q n).length = n := by simp [tab]
theorem tab_get {α : Type} (q : Nat → α) (n k : Nat) (h : k < (tab q n).length) : (tab q n)[k] = q k := by simp [tab]
theorem pat_of {T : Nat → Prop} {w : World} {va : Option Addr} {vec : List Pt} {g o : Nat} (h1 : 0 < vec.length → va = some ⟨g, o, none⟩ ∧ T g) (h2 : ∀ k (hk : k < vec.length) r u, (cellsP vec[k])[r]? = some u → w.cell? ⟨g, o + (k * 3 + r), none⟩ = some u) : PAt T w va vec := by
  refine ⟨g, o, h1, fun j u hu => ?_⟩
  have hlt : j < (flatP vec).length := (List.getElem?_eq_some_iff.1 hu).1
  rw [flatP_length] at hlt
  have hk : j / 3 < vec.length := by omega
  have hr : j % 3 < 3 := Nat.mod_lt _ (by omega)
  have hj : j = j / 3 * 3 + j % 3 := by omega
  rw [hj] at hu ⊢
  rw [flatP_get vec _ _ hk hr] at hu
  exact h2 _ hk _ u hu
/-- A vector, opened. -/
theorem open_parts {W : World} {sp : Nat → Bool} {fuel : Nat} {cs : List Value} {x : DataW H × List MemPlace} (h : DataW.trod enc Try.prog W 0 sp true fuel 26 cs = some x) :
    ∃ (va : Option Addr) (vc : Nat) (vec : List Pt), cs = [.slice va vec.length vc] ∧ PAt (Lt W.heap.size) W va vec := by
  rcases open_slice Try.underlying26 h with ⟨h0, _⟩ | ⟨a, len, cap, m, n, D, Pl, h0, hb, hl, hm, hmm, _, hx⟩
  · exact ⟨none, 0, [], h0, 0, 0, fun h => by simp at h, fun j u hu => by simp [flatP] at hu⟩
  have hlm : len ≤ m := by rw [hmm]; split <;> omega
  have each : ∀ i, i < m → ∃ q : Pt, W.cell? (a.add (i * 3)) = some (.int .i64 q.kind) ∧ W.cell? (a.add (i * 3 + 1)) = some (.int .i64 q.role) ∧ W.cell? (a.add (i * 3 + 2)) = some (.int .i64 q.amount) := by
    intro i hi
    obtain ⟨cs', h1, h2⟩ := hx i hi
    rw [cells48] at h1
    obtain ⟨_, hlen, hcell⟩ := World.cells?_some h1
    obtain ⟨xs, k, hk, hxy, _, hxl, hf⟩ := DataW.trod_struct Try.underlying48 h2
    obtain ⟨y0, y1, y2, rfl⟩ := list3 xs hxl
    obtain ⟨v0, v1, v2, rfl⟩ := list3 cs' hlen
    · clear hx
      have g0 : DataW.trod enc Try.prog W 0 sp true k 3 (([v0, v1, v2].drop 0).take (Try.prog.cellsOf 3)) = some y0 := hf 0 _ rfl
      have g1 : DataW.trod enc Try.prog W 0 sp true k 3 (([v0, v1, v2].drop 1).take (Try.prog.cellsOf 3)) = some y1 := hf 1 _ rfl
      have g2 : DataW.trod enc Try.prog W 0 sp true k 2 (([v0, v1, v2].drop 2).take (Try.prog.cellsOf 2)) = some y2 := hf 2 _ rfl
      simp only [cells2, cells3, List.drop, List.take] at g0 g1 g2
      obtain ⟨q0, e0, _, _⟩ := DataW.trod_int Try.underlying3 g0
      obtain ⟨q1, e1, _, _⟩ := DataW.trod_int Try.underlying3 g1
      obtain ⟨q2, e2, _, _⟩ := DataW.trod_int Try.underlying2 g2
      simp only [List.cons.injEq, and_true] at e0 e1 e2
      subst e0; subst e1; subst e2
      have c0 := hcell 0 (by omega)
      have c1 := hcell 1 (by omega)
      have c2 := hcell 2 (by omega)
      rw [add_add] at c0 c1 c2
      exact ⟨⟨q0, q1, q2⟩, by simpa using c0, by simpa using c1, by simpa using c2⟩
  obtain ⟨q, hq⟩ := choose_lt each
  obtain ⟨b, o, spot⟩ := a
  have hs : 0 < len → spot = none := fun h0 => by
    have := World.cell?_spot (hq 0 (by omega)).1
    simpa [Addr.add] using this
  refine ⟨some ⟨b, o, spot⟩, cap, tab q len, by rw [tab_length]; exact h0, pat_of (g := b) (o := o) (fun h0 => ?_) (fun k hk r u hu => ?_)⟩
  · rw [tab_length] at h0
    obtain rfl := hs h0
    obtain ⟨c0, _⟩ := hq 0 (by omega)
    simp only [Go.WideShapes.add_plain] at c0
    exact ⟨rfl, World.block_lt_of_cell? _ _ c0⟩
  · rw [tab_get] at hu
    rw [tab_length] at hk
    obtain rfl := hs (by omega)
    obtain ⟨c0, c1, c2⟩ := hq k (by omega)
    simp only [Go.WideShapes.add_plain] at c0 c1 c2
    match r, hu with
    | 0, hu => simp only [cellsP, List.getElem?_cons_zero, Option.some.injEq] at hu; rw [← hu]; exact c0
    | 1, hu => simp [cellsP] at hu; rw [← hu]; exact c1
    | 2, hu => simp [cellsP] at hu; rw [← hu]; exact c2
    | r + 3, hu => simp [cellsP] at hu
/-- Acts, opened. -/
theorem open_acts {W : World} {sp : Nat → Bool} {fuel : Nat} {cs : List Value} {x : DataW H × List MemPlace} (h : DataW.trod enc Try.prog W 0 sp true fuel 22 cs = some x) :
    ∃ (fa : Option Addr) (g o fc : Nat) (ls : List Ac), cs = [.slice fa ls.length fc] ∧ AAt (Lt W.heap.size) W fa g o ls := by
  rcases open_slice Try.underlying22 h with ⟨h0, _⟩ | ⟨a, len, cap, m, n, D, Pl, h0, hb, hl, hm, hmm, _, hx⟩
  · exact ⟨none, 0, 0, 0, [], h0, fun h => by simp at h, fun j hj => by simp at hj⟩
  have hlm : len ≤ m := by rw [hmm]; split <;> omega
  have each : ∀ i, i < m → ∃ q : Ac × Option Addr × Nat, W.cell? (a.add (i * 6)) = some (.bool q.1.close) ∧ W.cell? (a.add (i * 6 + 1)) = some (.int .i64 q.1.id) ∧ W.cell? (a.add (i * 6 + 2)) = some (.int .i64 q.1.frame) ∧ W.cell? (a.add (i * 6 + 3)) = some (.int .i64 q.1.agent) ∧
      W.cell? (a.add (i * 6 + 4)) = some (.slice q.2.1 q.1.vec.length q.2.2) ∧ W.cell? (a.add (i * 6 + 5)) = some (.int .i64 q.1.till) ∧ PAt (Lt W.heap.size) W q.2.1 q.1.vec := by
    intro i hi
    obtain ⟨cs', h1, h2⟩ := hx i hi
    rw [cells28] at h1
    obtain ⟨_, hlen, hcell⟩ := World.cells?_some h1
    obtain ⟨xs, k, hk, hxy, _, hxl, hf⟩ := DataW.trod_struct Try.underlying28 h2
    obtain ⟨y0, y1, y2, y3, y4, y5, rfl⟩ := list6 xs hxl
    obtain ⟨v0, v1, v2, v3, v4, v5, rfl⟩ := list6 cs' hlen
    · clear hx
      have g0 : DataW.trod enc Try.prog W 0 sp true k 4 (([v0, v1, v2, v3, v4, v5].drop 0).take (Try.prog.cellsOf 4)) = some y0 := hf 0 _ rfl
      have g1 : DataW.trod enc Try.prog W 0 sp true k 2 (([v0, v1, v2, v3, v4, v5].drop 1).take (Try.prog.cellsOf 2)) = some y1 := hf 1 _ rfl
      have g2 : DataW.trod enc Try.prog W 0 sp true k 2 (([v0, v1, v2, v3, v4, v5].drop 2).take (Try.prog.cellsOf 2)) = some y2 := hf 2 _ rfl
      have g3 : DataW.trod enc Try.prog W 0 sp true k 2 (([v0, v1, v2, v3, v4, v5].drop 3).take (Try.prog.cellsOf 2)) = some y3 := hf 3 _ rfl
      have g4 : DataW.trod enc Try.prog W 0 sp true k 26 (([v0, v1, v2, v3, v4, v5].drop 4).take (Try.prog.cellsOf 26)) = some y4 := hf 4 _ rfl
      have g5 : DataW.trod enc Try.prog W 0 sp true k 2 (([v0, v1, v2, v3, v4, v5].drop 5).take (Try.prog.cellsOf 2)) = some y5 := hf 5 _ rfl
      simp only [cells2, cells4, cells26, List.drop, List.take] at g0 g1 g2 g3 g4 g5
      obtain ⟨q0, e0, _⟩ := DataW.trod_bool Try.underlying4 g0
      obtain ⟨q1, e1, _, _⟩ := DataW.trod_int Try.underlying2 g1
      obtain ⟨q2, e2, _, _⟩ := DataW.trod_int Try.underlying2 g2
      obtain ⟨q3, e3, _, _⟩ := DataW.trod_int Try.underlying2 g3
      obtain ⟨va, vc, vec, e4, hp⟩ := open_parts g4
      obtain ⟨q5, e5, _, _⟩ := DataW.trod_int Try.underlying2 g5
      simp only [List.cons.injEq, and_true] at e0 e1 e2 e3 e4 e5
      subst e0; subst e1; subst e2; subst e3; subst e4; subst e5
      have c0 := hcell 0 (by omega)
      have c1 := hcell 1 (by omega)
      have c2 := hcell 2 (by omega)
      have c3 := hcell 3 (by omega)
      have c4 := hcell 4 (by omega)
      have c5 := hcell 5 (by omega)
      rw [add_add] at c0 c1 c2 c3 c4 c5
      exact ⟨(⟨q0, q1, q2, q3, vec, q5⟩, va, vc), by simpa using c0, by simpa using c1, by simpa using c2, by simpa using c3, by simpa using c4, by simpa using c5, hp⟩
  obtain ⟨q, hq⟩ := choose_lt each
  obtain ⟨b, o, spot⟩ := a
  have hs : 0 < len → spot = none := fun h0 => by
    have := World.cell?_spot (hq 0 (by omega)).1
    simpa [Addr.add] using this
  refine ⟨some ⟨b, o, spot⟩, b, o, cap, tab (fun i => (q i).1) len, by rw [tab_length]; exact h0, fun h0 => ?_, fun j hj => ?_⟩
  · rw [tab_length] at h0
    obtain rfl := hs h0
    obtain ⟨c0, _⟩ := hq 0 (by omega)
    simp only [Go.WideShapes.add_plain] at c0
    exact ⟨rfl, World.block_lt_of_cell? _ _ c0⟩
  · rw [tab_length] at hj
    obtain rfl := hs (by omega)
    obtain ⟨c0, c1, c2, c3, c4, c5, hp⟩ := hq j (by omega)
    simp only [Go.WideShapes.add_plain] at c0 c1 c2 c3 c4 c5
    rw [tab_get]
    exact ⟨(q j).2.1, (q j).2.2, by simpa using c0, by simpa [Nat.add_assoc] using c1, by simpa [Nat.add_assoc] using c2, by simpa [Nat.add_assoc] using c3, by simpa [Nat.add_assoc] using c4, by simpa [Nat.add_assoc] using c5, hp⟩
/-! How long they can be. -/
theorem weights_all {P : Program} {e : TypeId} : ∀ {ds : List (DataW H)} {d : DataW H}, d ∈ ds → ∀ n ∈ d.weights P e, n ∈ DataW.weightsAll P e ds
  | d0 :: ds, d, hd, n, hn => by
    simp only [DataW.weightsAll, List.mem_append]
    rcases List.mem_cons.1 hd with rfl | hd
    · exact .inl hn
    · exact .inr (weights_all hd n hn)
/-- A slice's length, among its weights. -/
theorem slice_weight {W : World} {sp : Nat → Bool} {fuel : Nat} {t e : TypeId} {cs : List Value} {x : DataW H × List MemPlace} (ht : Try.prog.underlying t = some (.slice e)) (h : DataW.trod enc Try.prog W 0 sp true fuel t cs = some x) {va : Option Addr} {n vc : Nat} (hc : cs = [.slice va n vc]) (hp : 0 < n) : ∃ k ∈ x.1.weights Try.prog t, n * Try.prog.bytesOf e ≤ k := by
  rcases open_slice ht h with ⟨h0, _⟩ | ⟨a, len, cap, m, n', D, Pl, h0, hb, hl, hm, hmm, hxx, hx⟩
  · rw [hc] at h0
    simp at h0
    omega
  · rw [hc] at h0
    simp only [List.cons.injEq, Value.slice.injEq, and_true] at h0
    obtain ⟨_, rfl, _⟩ := h0
    rw [hxx]
    simp only [DataW.weights, ht]
    refine ⟨_, List.mem_cons_self, ?_⟩
    rw [List.length_map, List.length_range]
    exact Nat.mul_le_mul_right _ (Nat.le_add_right _ _)
theorem acts_reach {W : World} {sp : Nat → Bool} {fuel : Nat} {cs : List Value} {x : DataW H × List MemPlace} (h : DataW.trod enc Try.prog W 0 sp true fuel 22 cs = some x) {T : Nat → Prop} {fa : Option Addr} {g o fc : Nat} {ls : List Ac} (hc : cs = [.slice fa ls.length fc]) (he : AAt T W fa g o ls)
    (hw : ∀ k ∈ x.1.weights Try.prog 22, k ≤ reachBytes) : ls.length ≤ reachBytes ∧ ∀ a ∈ ls, a.vec.length ≤ reachBytes := by
  refine ⟨?_, ?_⟩
  · rcases Nat.eq_zero_or_pos ls.length with h0 | h0
    · rw [h0]; exact Nat.zero_le _
    · obtain ⟨k, hk, hle⟩ := slice_weight Try.underlying22 h hc h0
      rw [bytes28] at hle
      have := hw k hk
      omega
  rcases open_slice Try.underlying22 h with ⟨h0, _⟩ | ⟨a, len, cap, m, n', D, Pl, h0, hb, hl, hm, hmm, hxx, hx⟩
  · rw [hc] at h0
    simp only [List.cons.injEq, Value.slice.injEq, and_true] at h0
    rw [List.eq_nil_of_length_eq_zero h0.2.1]
    simp
  · rw [hc] at h0
    simp only [List.cons.injEq, Value.slice.injEq, and_true] at h0
    obtain ⟨ha, rfl, _⟩ := h0
    have hlm : ls.length ≤ m := by rw [hmm]; split <;> omega
    intro ac hac
    obtain ⟨i, hi, rfl⟩ := List.mem_iff_getElem.1 hac
    rcases Nat.eq_zero_or_pos ls[i].vec.length with hz | hz
    · rw [hz]; exact Nat.zero_le _
    obtain ⟨cs', h1, h2⟩ := hx i (by omega)
    rw [cells28] at h1
    obtain ⟨_, hlen, hcell⟩ := World.cells?_some h1
    obtain ⟨xs, k, hk, hxy, _, hxl, hf⟩ := DataW.trod_struct Try.underlying28 h2
    obtain ⟨y0, y1, y2, y3, y4, y5, rfl⟩ := list6 xs hxl
    obtain ⟨v0, v1, v2, v3, v4, v5, rfl⟩ := list6 cs' hlen
    have g4 : DataW.trod enc Try.prog W 0 sp true k 26 (([v0, v1, v2, v3, v4, v5].drop 4).take (Try.prog.cellsOf 26)) = some y4 := hf 4 _ rfl
    simp only [cells26, List.drop, List.take] at g4
    obtain ⟨e1, _⟩ := he.lt (by omega)
    rw [e1] at ha
    injection ha with ha
    subst ha
    obtain ⟨va, vc, hev⟩ := he.at' i hi
    have c4 := hcell 4 (by omega)
    rw [add_add] at c4
    simp only [Go.WideShapes.add_plain] at c4
    have hv4 := hev.c4
    rw [show o + (i * 6 + 4) = o + i * 6 + 4 by omega, hv4] at c4
    have hv : v4 = .slice va ls[i].vec.length vc := by simpa using c4.symm
    obtain ⟨k4, hk4, hle⟩ := slice_weight Try.underlying26 g4 (by rw [hv]) hz
    have hd : D i = .agg ([y0, y1, y2, y3, y4, y5].map (·.1)) := by have := congrArg Prod.fst hxy; exact this
    have hin : k4 ∈ x.1.weights Try.prog 22 := by
      rw [hxx]
      simp only [DataW.weights, Try.underlying22]
      refine List.mem_cons_of_mem _ (List.mem_append.2 (.inl (weights_all (List.mem_map.2 ⟨i, List.mem_range.2 hi, rfl⟩) k4 ?_)))
      rw [hd]
      simp only [DataW.weights, Try.underlying28]
      refine DataW.weights_mem_each (j := 4) (t := 26) (d := y4.1) rfl rfl k4 hk4
    have := hw k4 hin
    rw [bytes48] at hle
    omega
theorem tot_reach {ls : List Ac} {n : Nat} (h : ∀ a ∈ ls, a.vec.length ≤ n) : totA ls ≤ ls.length * n := by
  induction ls with
  | nil => simp [totA]
  | cons a ls ih =>
    have h1 := ih (fun x hx => h x (List.mem_cons_of_mem _ hx))
    have h2 := h a List.mem_cons_self
    simp only [totA, List.length_cons, Nat.succ_mul]
    omega
/-- Whatever came in. -/
theorem acts_few {W : World} {sp : Nat → Bool} {fuel : Nat} {cs : List Value} {x : DataW H × List MemPlace} (h : DataW.trod enc Try.prog W 0 sp true fuel 22 cs = some x) {T : Nat → Prop} {fa : Option Addr} {g o fc : Nat} {ls : List Ac} (hc : cs = [.slice fa ls.length fc]) (he : AAt T W fa g o ls)
    (hw : ∀ k ∈ x.1.weights Try.prog 22, k ≤ reachBytes) : ls.length ≤ 4611686018427387903 ∧ (ls.length ≤ 100 → totA ls ≤ 4611686018427387903) := by
  obtain ⟨h1, h2⟩ := acts_reach h hc he hw
  have h3 := tot_reach h2
  have h4 := reachBytes_lt
  refine ⟨by omega, fun h5 => ?_⟩
  have h6 := Nat.mul_le_mul_right reachBytes h5
  omega
end
end Go.Proofs.Ytecgfghmmlpghaa.RowO
