/- A frames table in memory: its block, its map of frameworks, its roles. -/
import Derived.Test.YtdckcbahfdcafaaMp
import Derived.Test.YtdckcbahfdcafaaChecked
namespace Go.Proofs.Ytdckcbahfdcafaa.F
open Go.RowKit Go.Proofs.Ytdckcbahfdcafaa.Hp Go.Proofs.Ytdckcbahfdcafaa.Mp

/-- A framework, as the program keeps it. -/
structure Fr where
  id : Int
  role : Int
  weight : Int
  up : Bool
  quiet : Bool
  time : Int
  till : Int
  deriving DecidableEq
def Fr.zero : Fr := ⟨0, 0, 0, false, false, 0, 0⟩
def encF (f : Fr) : Value := .agg #[.int .i64 f.id, .int .i64 f.role, .int .i64 f.weight, .bool f.up, .bool f.quiet, .int .i64 f.time, .int .i64 f.till]
theorem encF_agg (f : Fr) : encF f = .agg #[.int .i64 f.id, .int .i64 f.role, .int .i64 f.weight, .bool f.up, .bool f.quiet, .int .i64 f.time, .int .i64 f.till] := rfl

/-- The cells of the roles: how many, and the weight, of each. -/
def roleCells : List (Int × Int) → List Value
  | [] => []
  | p :: R => .int .i64 p.1 :: .int .i64 p.2 :: roleCells R
theorem roleCells_length : ∀ R, (roleCells R).length = 2 * R.length
  | [] => rfl
  | p :: R => by simp only [roleCells, List.length_cons, roleCells_length R]; omega
theorem roleCells_many : ∀ (R : List (Int × Int)) (r : Nat), (h : r < R.length) → (roleCells R)[2 * r]? = some (.int .i64 (R[r].1))
  | p :: R, 0, _ => rfl
  | p :: R, r + 1, h => by
    have := roleCells_many R r (by simpa using h)
    rw [show 2 * (r + 1) = 2 * r + 1 + 1 from by omega]
    simpa [roleCells] using this
theorem roleCells_weight : ∀ (R : List (Int × Int)) (r : Nat), (h : r < R.length) → (roleCells R)[2 * r + 1]? = some (.int .i64 (R[r].2))
  | p :: R, 0, _ => rfl
  | p :: R, r + 1, h => by
    have := roleCells_weight R r (by simpa using h)
    rw [show 2 * (r + 1) + 1 = 2 * r + 1 + 1 + 1 from by omega]
    simpa [roleCells] using this
theorem roleCells_set_many : ∀ (R : List (Int × Int)) (r : Nat) (x : Int), (h : r < R.length) → (roleCells R).set (2 * r) (.int .i64 x) = roleCells (R.set r (x, R[r].2))
  | p :: R, 0, x, _ => rfl
  | p :: R, r + 1, x, h => by
    have := roleCells_set_many R r x (by simpa using h)
    rw [show 2 * (r + 1) = 2 * r + 1 + 1 from by omega]
    simpa [roleCells] using this
theorem roleCells_set_weight : ∀ (R : List (Int × Int)) (r : Nat) (x : Int), (h : r < R.length) → (roleCells R).set (2 * r + 1) (.int .i64 x) = roleCells (R.set r (R[r].1, x))
  | p :: R, 0, x, _ => rfl
  | p :: R, r + 1, x, h => by
    have := roleCells_set_weight R r x (by simpa using h)
    rw [show 2 * (r + 1) + 1 = 2 * r + 1 + 1 + 1 from by omega]
    simpa [roleCells] using this
def tabCells (cap : Int) (m : Nat) (R : List (Int × Int)) : Array Value := (.int .i64 cap :: .map (some m) :: roleCells R).toArray

/-- A table at block b, its map at block m. -/
structure Tab (w : World) (b m : Nat) (cap : Int) (l : List (Int × Fr)) (R : List (Int × Int)) : Prop where
  blk : w.heap[b]? = some (.cells (tabCells cap m R) 62 (0, 0))
  map : IsMap encF w m l
  len : R.length = 33
section
variable {w w' : World} {b m : Nat} {cap : Int} {l : List (Int × Fr)} {R : List (Int × Int)}
theorem IsMap.heap {enc : Fr → Value} (h : IsMap enc w m l) (e : w'.heap[m]? = w.heap[m]?) : IsMap enc w' m l := by
  obtain ⟨es, clk, hb, hr⟩ := h
  exact ⟨es, clk, e.trans hb, hr⟩
theorem Tab.lt_b (h : Tab w b m cap l R) : b < w.heap.size := blk_lt h.blk
theorem Tab.lt_m (h : Tab w b m cap l R) : m < w.heap.size := by
  obtain ⟨es, clk, hb, _⟩ := h.map
  exact blk_lt hb
theorem Tab.ne (h : Tab w b m cap l R) : b ≠ m := by
  obtain ⟨es, clk, hb, _⟩ := h.map
  rintro rfl
  rw [h.blk] at hb
  injection hb with hb
  cases hb
theorem Tab.heap (h : Tab w b m cap l R) (e1 : w'.heap[b]? = w.heap[b]?) (e2 : w'.heap[m]? = w.heap[m]?) : Tab w' b m cap l R :=
  ⟨e1.trans h.blk, IsMap.heap h.map e2, h.len⟩
theorem Tab.below (h : Tab w b m cap l R) (hb : Below w.heap.size w w') : Tab w' b m cap l R := h.heap (hb.block b h.lt_b) (hb.block m h.lt_m)
theorem Tab.alloc (h : Tab w b m cap l R) (o : Obj) : Tab (w.alloc o) b m cap l R := h.heap (Below.heap_alloc _ _ _ h.lt_b) (Below.heap_alloc _ _ _ h.lt_m)
theorem Tab.drew (h : Tab w b m cap l R) : Tab w.drew b m cap l R := h.heap rfl rfl
theorem Tab.drewN (h : Tab w b m cap l R) (n : Nat) : Tab (w.drewN n) b m cap l R := h.heap rfl rfl
theorem Tab.far (h : Tab w b m cap l R) {p : Addr} (h1 : b ≠ p.block) (h2 : m ≠ p.block) (u : Value) : Tab (w.setCell p u) b m cap l R := h.heap (Below.heap_setCell _ _ _ _ h1) (Below.heap_setCell _ _ _ _ h2)
theorem Tab.cell0 (h : Tab w b m cap l R) : w.cell? ⟨b, 0, none⟩ = some (.int .i64 cap) := (blk_cell h.blk 0).trans rfl
theorem Tab.cell1 (h : Tab w b m cap l R) : w.cell? ⟨b, 1, none⟩ = some (.map (some m)) := (blk_cell h.blk 1).trans rfl
theorem tabCells_get (cap : Int) (m : Nat) (R : List (Int × Int)) (j : Nat) : (tabCells cap m R)[2 + j]? = (roleCells R)[j]? := by
  unfold tabCells
  rw [List.getElem?_toArray, show 2 + j = j + 1 + 1 from by omega]
  rfl
theorem Tab.many (h : Tab w b m cap l R) (r : Nat) (hr : r < R.length) : w.cell? ⟨b, 2 + r * 2, none⟩ = some (.int .i64 (R[r].1)) := by
  rw [Nat.mul_comm r 2, blk_cell h.blk, tabCells_get, roleCells_many R r hr]
theorem Tab.weight (h : Tab w b m cap l R) (r : Nat) (hr : r < R.length) : w.cell? ⟨b, 2 + r * 2 + 1, none⟩ = some (.int .i64 (R[r].2)) := by
  rw [Nat.mul_comm r 2, blk_cell h.blk, show 2 + 2 * r + 1 = 2 + (2 * r + 1) from by omega, tabCells_get, roleCells_weight R r hr]
theorem Tab.free (h : Tab w b m cap l R) (j : Nat) : w.frozen? ⟨b, j, none⟩ = false := blk_frozen h.blk j
theorem Tab.set_many (h : Tab w b m cap l R) (r : Nat) (hr : r < R.length) (x : Int) : Tab (w.setCell ⟨b, 2 + r * 2, none⟩ (.int .i64 x)) b m cap l (R.set r (x, R[r].2)) := by
  rw [Nat.mul_comm r 2]
  refine ⟨?_, IsMap.heap h.map (Below.heap_setCell _ _ _ _ (fun e => h.ne e.symm)), by simpa using h.len⟩
  rw [blk_set h.blk]
  congr 2
  unfold tabCells
  rw [← roleCells_set_many R r x hr, show 2 + 2 * r = 2 * r + 1 + 1 from by omega]
  simp
theorem Tab.set_weight (h : Tab w b m cap l R) (r : Nat) (hr : r < R.length) (x : Int) : Tab (w.setCell ⟨b, 2 + r * 2 + 1, none⟩ (.int .i64 x)) b m cap l (R.set r (R[r].1, x)) := by
  rw [Nat.mul_comm r 2]
  refine ⟨?_, IsMap.heap h.map (Below.heap_setCell _ _ _ _ (fun e => h.ne e.symm)), by simpa using h.len⟩
  rw [blk_set h.blk]
  congr 2
  unfold tabCells
  rw [← roleCells_set_weight R r x hr, show 2 + 2 * r + 1 = 2 * r + 1 + 1 + 1 from by omega]
  simp
theorem Tab.many' (h : Tab w b m cap l R) {r : Nat} {p q : Int} (hr : R[r]? = some (p, q)) : w.cell? ⟨b, 2 + r * 2, none⟩ = some (.int .i64 p) := by
  obtain ⟨hlt, hget⟩ := List.getElem?_eq_some_iff.1 hr
  rw [h.many r hlt, hget]
theorem Tab.weight' (h : Tab w b m cap l R) {r : Nat} {p q : Int} (hr : R[r]? = some (p, q)) : w.cell? ⟨b, 2 + r * 2 + 1, none⟩ = some (.int .i64 q) := by
  obtain ⟨hlt, hget⟩ := List.getElem?_eq_some_iff.1 hr
  rw [h.weight r hlt, hget]
theorem Tab.set_many' (h : Tab w b m cap l R) {r : Nat} {p q : Int} (hr : R[r]? = some (p, q)) (x : Int) : Tab (w.setCell ⟨b, 2 + r * 2, none⟩ (.int .i64 x)) b m cap l (R.set r (x, q)) := by
  obtain ⟨hlt, hget⟩ := List.getElem?_eq_some_iff.1 hr
  have := h.set_many r hlt x
  rw [hget] at this
  exact this
theorem Tab.set_weight' (h : Tab w b m cap l R) {r : Nat} {p q : Int} (hr : R[r]? = some (p, q)) (x : Int) : Tab (w.setCell ⟨b, 2 + r * 2 + 1, none⟩ (.int .i64 x)) b m cap l (R.set r (p, x)) := by
  obtain ⟨hlt, hget⟩ := List.getElem?_eq_some_iff.1 hr
  have := h.set_weight r hlt x
  rw [hget] at this
  exact this
/-- The map has changed, the block has not. -/
theorem Tab.setB (h : Tab w b m cap l R) {o : Obj} {l' : List (Int × Fr)} (hm : IsMap encF (setB w m o) m l') : Tab (Hp.setB w m o) b m cap l' R :=
  ⟨blk_setB_far h.blk h.ne, hm, h.len⟩
end
theorem zero30 (w : World) : (zeroValue 30).run Try.prog w = .ok (encF Fr.zero) w := by kernel_rfl
/-- The blocks of a table. -/
def Own (b m : Nat) : Nat → Prop := fun i => i = b ∨ i = m
end Go.Proofs.Ytdckcbahfdcafaa.F
