/- Rows of offers of one's own. No walk. -/
import Derived.Test.YtecgfghmmlpghaaSum
set_option linter.unusedVariables false
namespace Go.Proofs.Ytecgfghmmlpghaa.O
open Go.RowKit Go.Proofs.Ytecgfghmmlpghaa.Hp Go.Proofs.Ytecgfghmmlpghaa.Mp
/-- Offers' cells in a row. -/
def flatO : List Ox → List Value
  | [] => []
  | x :: xs => (cellsO x).toList ++ flatO xs
theorem flatO_append : ∀ a b, flatO (a ++ b) = flatO a ++ flatO b
  | [], b => rfl
  | x :: a, b => by simp only [List.cons_append, flatO, flatO_append a b, List.append_assoc]
theorem flatO_length : ∀ xs, (flatO xs).length = xs.length * 5
  | [] => rfl
  | x :: xs => by simp only [flatO, List.length_append, flatO_length xs, List.length_cons]; show 5 + _ = _; omega
theorem flatO_get : ∀ (xs : List Ox) (j i : Nat) (h : j < xs.length), i < 5 → (flatO xs)[j * 5 + i]? = (cellsO xs[j])[i]?
  | x :: xs, 0, i, h, hi => by
    simp only [flatO, Nat.zero_mul, Nat.zero_add, List.getElem_cons_zero]
    rw [List.getElem?_append_left (show i < 5 from hi), Array.getElem?_toList]
  | x :: xs, j + 1, i, h, hi => by
    simp only [flatO, List.getElem_cons_succ]
    rw [List.getElem?_append_right (by show 5 ≤ _; omega), show (j + 1) * 5 + i - (cellsO x).toList.length = j * 5 + i from by show (j + 1) * 5 + i - 5 = _; omega]
    exact flatO_get xs j i (by simpa using h) hi
theorem one_offer (x : Ox) : ∀ u ∈ (cellsO x).toList, u.oneCell' = true := by
  intro u hu
  simp only [cellsO, List.mem_cons, List.not_mem_nil, or_false] at hu
  rcases hu with rfl | rfl | rfl | rfl | rfl <;> rfl
theorem flatO_one : ∀ (ys : List Ox), ∀ u ∈ flatO ys, u.oneCell' = true
  | [], u, hu => by simp [flatO] at hu
  | y :: ys, u, hu => by
    simp only [flatO, List.mem_append] at hu
    rcases hu with hu | hu
    · exact one_offer y u hu
    · exact flatO_one ys u hu
theorem row_keep {w w' : World} {base : Nat} {e : TypeId} {size n : Nat} {v : Value} {xs : List Value} (h : w.ownsRow base e size v n xs) (hk : ∀ g, v.ownBlock = some g → w'.heap[g]? = w.heap[g]?) : w'.ownsRow base e size v n xs :=
  ⟨h.1, h.2.imp id fun ⟨g, cap, cur, e1, e2, e3, e4⟩ => ⟨g, cap, cur, e1, e2, (hk g (by rw [e1]; rfl)).trans e3, e4⟩⟩
/-- Numbers in a row of one's own. -/
theorem row_nums {w : World} {base : Nat} {v : Value} {ids : List Int} (h : w.ownsRow base 2 1 v ids.length (ids.map (Value.int .i64))) :
    ∃ va vc, v = .slice va ids.length vc ∧ ∀ k (hk : k < ids.length), ∃ g, va = some ⟨g, 0, none⟩ ∧ base ≤ g ∧ g < w.heap.size ∧ w.cell? ⟨g, k, none⟩ = some (.int .i64 ids[k]) := by
  rcases h.2 with ⟨rfl, h0⟩ | ⟨g, cp, cur, rfl, hbase, hbk, e1, e2, e3, e4⟩
  · exact ⟨none, 0, by rw [h0], fun k hk => by omega⟩
  · refine ⟨some ⟨g, 0, none⟩, cp, rfl, fun k hk => ⟨g, rfl, hbase, blk_lt hbk, ?_⟩⟩
    rw [blk_cell hbk, ← Array.getElem?_toList]
    have h5 := congrArg (fun l : List Value => l[k]?) e4
    simp only [List.getElem?_map, List.getElem?_eq_getElem hk, Option.map_some] at h5
    rw [← h5, List.getElem?_take_of_lt (by omega)]
theorem cells_new (w : World) (cs : Array Value) (t : TypeId) (xs : List Value) (hx : cs.toList = xs) : ∀ j u, xs[j]? = some u → (w.alloc (.cells cs t)).cell? ((⟨w.heap.size, 0, none⟩ : Addr).add j) = some u := by
  intro j u hj
  rw [Go.WideShapes.add_plain, Nat.zero_add, blk_cell (blk_new w (.cells cs t)), ← Array.getElem?_toList, hx]
  exact hj
/-- Offers at a row's place, their parts in blocks of T. -/
structure OAt (T : Nat → Prop) (w : World) (fa : Option Addr) (g o : Nat) (xs : List Ox) : Prop where
  lt : 0 < xs.length → fa = some ⟨g, o, none⟩ ∧ T g
  cell : ∀ j (hj : j < xs.length) i, i < 5 → w.cell? ⟨g, o + (j * 5 + i), none⟩ = (cellsO xs[j])[i]?
  vec : ∀ x ∈ xs, PAt T w x.2.1 x.1.vec
section
variable {T T' : Nat → Prop} {w w' : World} {fa : Option Addr} {g o : Nat} {xs : List Ox}
theorem OAt.keep (h : OAt T w fa g o xs) (hk : ∀ i, T i → w'.heap[i]? = w.heap[i]?) (hT : ∀ i, T i → T' i) : OAt T' w' fa g o xs :=
  ⟨fun hl => ⟨(h.lt hl).1, hT _ (h.lt hl).2⟩, fun j hj i hi => (cell_same (hk g (h.lt (by omega)).2) _).trans (h.cell j hj i hi), fun x hx => (h.vec x hx).keep hk hT⟩
theorem OAt.nil (T : Nat → Prop) (w : World) (fa : Option Addr) (g o : Nat) : OAt T w fa g o [] := ⟨fun h => by simp at h, fun j hj => by simp at hj, fun x hx => by simp at hx⟩
theorem OAt.cells (h : OAt T w fa g o xs) {j : Nat} (hj : j < xs.length) : w.cell? ⟨g, o + j * 5, none⟩ = some (.int .i64 xs[j].1.id) ∧ w.cell? ⟨g, o + j * 5 + 1, none⟩ = some (.int .i64 xs[j].1.frame) ∧ w.cell? ⟨g, o + j * 5 + 2, none⟩ = some (.int .i64 xs[j].1.agent) ∧ w.cell? ⟨g, o + j * 5 + 3, none⟩ = some (.slice xs[j].2.1 xs[j].1.vec.length xs[j].2.2) ∧ w.cell? ⟨g, o + j * 5 + 4, none⟩ = some (.int .i64 xs[j].1.till) := by
  have h0 := h.cell j hj 0 (by omega)
  have h1 := h.cell j hj 1 (by omega)
  have h2 := h.cell j hj 2 (by omega)
  have h3 := h.cell j hj 3 (by omega)
  have h4 := h.cell j hj 4 (by omega)
  rw [← Nat.add_assoc] at h0 h1 h2 h3 h4
  exact ⟨h0, h1, h2, h3, h4⟩
end
/-- A row of offers of one's own, its parts. -/
structure ORow (B : Nat) (w : World) (v : Value) (xs : List Ox) : Prop where
  row : w.ownsRow B 30 5 v xs.length (flatO xs)
  vec : ∀ x ∈ xs, PAt (fun i => B ≤ i ∧ i < w.heap.size ∧ v.ownBlock ≠ some i) w x.2.1 x.1.vec
section
variable {B : Nat} {w w' : World} {v v' : Value} {xs : List Ox} {x : Ox}
theorem ORow.nil (B : Nat) (w : World) : ORow B w (.slice none 0 0) [] := ⟨World.ownsRow_nil _ _ _ _, fun x hx => by simp at hx⟩
theorem ORow.below (h : ORow B w v xs) (hb : Below w.heap.size w w') : ORow B w' v xs :=
  ⟨row_keep h.row (fun g hg => hb.block g (h.row.lt g hg).2), fun x hx => (h.vec x hx).keep (fun i hi => hb.block i hi.2.1) (fun i hi => ⟨hi.1, Nat.lt_of_lt_of_le hi.2.1 hb.size, hi.2.2⟩)⟩
/-- Behind an append. -/
theorem ORow.app (h : ORow B w v xs) (hx : PAt (fun i => B ≤ i ∧ i < w.heap.size ∧ v.ownBlock ≠ some i) w x.2.1 x.1.vec) {o : Obj} (hg : (w.alloc o).grownBy w' v.ownBlock)
    (ho : w'.ownsRow B 30 5 v' (xs.length + 1) (flatO xs ++ flatO [x])) (hat : ∀ g, v'.ownBlock = some g → v.ownBlock = some g ∨ g = (w.alloc o).heap.size) : ORow B w' v' (xs ++ [x]) := by
  have hsa : (w.alloc o).heap.size = w.heap.size + 1 := by simp
  have hk : ∀ i, (B ≤ i ∧ i < w.heap.size ∧ v.ownBlock ≠ some i) → w'.heap[i]? = w.heap[i]? := fun i hi => by
    rw [hg.block i (by omega) (fun e => hi.2.2 e.symm)]
    exact Below.heap_alloc _ _ _ hi.2.1
  have hT : ∀ i, (B ≤ i ∧ i < w.heap.size ∧ v.ownBlock ≠ some i) → (B ≤ i ∧ i < w'.heap.size ∧ v'.ownBlock ≠ some i) := fun i hi => by
    refine ⟨hi.1, by have := hg.size; omega, fun e => ?_⟩
    rcases hat i e with h1 | h1
    · exact hi.2.2 h1
    · have := hi.2.1; omega
  refine ⟨by rw [List.length_append, flatO_append]; exact ho, fun y hy => ?_⟩
  rcases List.mem_append.1 hy with hy | hy
  · exact (h.vec y hy).keep hk hT
  · rw [List.mem_singleton] at hy
    subst hy
    exact hx.keep hk hT
theorem ORow.form (h : ORow B w v xs) : ∃ fa g fc, v = .slice fa xs.length fc ∧ OAt (fun i => B ≤ i ∧ i < w.heap.size) w fa g 0 xs := by
  rcases h.row.2 with ⟨rfl, h0⟩ | ⟨g, cp, cur, rfl, hbase, hbk, e1, e2, e3, e4⟩
  · obtain rfl := List.eq_nil_of_length_eq_zero h0
    exact ⟨none, 0, 0, rfl, OAt.nil _ _ _ _ _⟩
  · refine ⟨some ⟨g, 0, none⟩, g, cp, rfl, fun _ => ⟨rfl, hbase, blk_lt hbk⟩, fun j hj i hi => ?_, fun x hx => (h.vec x hx).keep (fun _ _ => rfl) (fun i hi => ⟨hi.1, hi.2.1⟩)⟩
    rw [Nat.zero_add, blk_cell hbk, ← Array.getElem?_toList, ← flatO_get xs j i hj hi, ← e4, List.getElem?_take_of_lt (by omega)]
end
end Go.Proofs.Ytecgfghmmlpghaa.O
