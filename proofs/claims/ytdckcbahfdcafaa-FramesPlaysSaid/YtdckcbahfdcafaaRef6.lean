/- The reference's with: a framework in its place. -/
import Derived.Test.YtdckcbahfdcafaaAll
import Derived.Deep.RegionHeld3
import Derived.Deep.AppendLies
import Derived.Deep.DrawnRows
set_option linter.unusedVariables false
set_option linter.unusedSimpArgs false
namespace Go.Proofs.Ytdckcbahfdcafaa.F
open Go.RowKit Go.Sort Go.Proofs.Ytdckcbahfdcafaa.Hp Go.Proofs.Ytdckcbahfdcafaa.Mp
set_option maxRecDepth 100000

/-- A round of with: what has been written, and whether the new one stands there. -/
def wStep (f : Fr) (s : List Fr × Bool) (x : Fr) : List Fr × Bool :=
  let s1 := if s.2 = false ∧ f.id ≤ x.id then (s.1 ++ [f], true) else s
  (if x.id = f.id then s1.1 else s1.1 ++ [x], s1.2)
def wAcc (f : Fr) (fs : List Fr) (k : Nat) : List Fr × Bool := (fs.take k).foldl (wStep f) ([], false)
def withF (fs : List Fr) (f : Fr) : List Fr := if (fs.foldl (wStep f) ([], false)).2 = true then (fs.foldl (wStep f) ([], false)).1 else (fs.foldl (wStep f) ([], false)).1 ++ [f]
theorem wAcc_succ (f : Fr) (fs : List Fr) (k : Nat) (h : k < fs.length) : wAcc f fs (k + 1) = wStep f (wAcc f fs k) fs[k] := by
  unfold wAcc
  rw [List.take_add_one, List.getElem?_eq_getElem h, Option.toList_some, List.foldl_append]
  rfl
theorem wStep_done (f : Fr) (acc : List Fr) (x : Fr) : wStep f (acc, true) x = (if x.id = f.id then acc else acc ++ [x], true) := rfl
theorem wStep_no {f : Fr} {x : Fr} (acc : List Fr) (h : decide (f.id ≤ x.id) = false) : wStep f (acc, false) x = (if x.id = f.id then acc else acc ++ [x], false) := by
  unfold wStep
  rw [if_neg (fun hh => of_decide_eq_false h hh.2)]
theorem wStep_yes {f : Fr} {x : Fr} (acc : List Fr) (h : decide (f.id ≤ x.id) = true) : wStep f (acc, false) x = (if x.id = f.id then acc ++ [f] else (acc ++ [f]) ++ [x], true) := by
  unfold wStep
  rw [if_pos ⟨rfl, of_decide_eq_true h⟩]
theorem wStep_length (f : Fr) (s : List Fr × Bool) (x : Fr) : (wStep f s x).1.length ≤ s.1.length + 2 := by
  unfold wStep
  simp only
  split <;> split <;> simp
theorem wAcc_length (f : Fr) (fs : List Fr) : ∀ k, (wAcc f fs k).1.length ≤ 2 * k
  | 0 => by simp [wAcc]
  | k + 1 => by
    rcases Nat.lt_or_ge k fs.length with h | h
    · rw [wAcc_succ f fs k h]
      have := wStep_length f (wAcc f fs k) fs[k]
      have := wAcc_length f fs k
      omega
    · have := wAcc_length f fs k
      unfold wAcc at this ⊢
      rw [List.take_of_length_le h] at this
      rw [List.take_of_length_le (by omega)]
      omega

/-- Where with is: what lies in its blocks, N the first of them. -/
structure WSt (w wr : World) (N : Nat) (cap : Int) (sl : Value) (f : Fr) (acc : List Fr) (v : Value) : Prop where
  box : wr.heap[N]? = some (.cells #[.int .i64 cap, sl] 41 (0, 0))
  fb : wr.heap[N + 1]? = some (.cells (cellsF f) 30 (0, 0))
  res : wr.heap[N + 2]? = some (.cells #[.int .i64 0, .slice none 0 0] 41 (0, 0))
  out : wr.heap[N + 3]? = some (.cells #[.int .i64 cap, v] 41 (0, 0))
  own : wr.ownsRow (N + 4) 30 7 v acc.length (flatF acc)
  chg : Below N w wr
section
variable {w wr w1 : World} {N : Nat} {cap : Int} {sl v v' : Value} {f x : Fr} {acc : List Fr}
theorem WSt.lt (h : WSt w wr N cap sl f acc v) : N + 4 ≤ wr.heap.size := blk_lt h.out
theorem WSt.drew (h : WSt w wr N cap sl f acc v) : WSt w wr.drew N cap sl f acc v := ⟨h.box, h.fb, h.res, h.out, h.own, ⟨h.chg.os, h.chg.tape, h.chg.output, h.chg.size, h.chg.block⟩⟩
theorem WSt.drewN (h : WSt w wr N cap sl f acc v) (n : Nat) : WSt w (wr.drewN n) N cap sl f acc v := ⟨h.box, h.fb, h.res, h.out, h.own, below_drewN h.chg n⟩
theorem WSt.alloc (h : WSt w wr N cap sl f acc v) (o : Obj) : WSt w (wr.alloc o) N cap sl f acc v :=
  ⟨blk_alloc h.box, blk_alloc h.fb, blk_alloc h.res, blk_alloc h.out, h.own.alloc _, h.chg.alloc (by have := h.lt; omega) _⟩
theorem row_far {base : Nat} {e : TypeId} {size n : Nat} {xs : List Value} (h : w.ownsRow base e size v n xs) {p : Addr} (hp : p.block < base) (u : Value) : (w.setCell p u).ownsRow base e size v n xs :=
  ⟨h.1, h.2.imp id fun ⟨g, cap, cur, e1, e2, e3, e4⟩ => ⟨g, cap, cur, e1, e2, blk_far e3 (by omega) u, e4⟩⟩
/-- Behind an append and its store. -/
theorem WSt.append (h : WSt w wr N cap sl f acc v) (hg : wr.grownBy w1 v.ownBlock) (ho : w1.ownsRow (N + 4) 30 7 v' (acc.length + 1) (flatF acc ++ flatF [x])) : WSt w (w1.setCell ⟨N + 3, 1, none⟩ v') N cap sl f (acc ++ [x]) v' := by
  have hl := h.lt
  have key : ∀ j o, j < N + 4 → wr.heap[j]? = some o → w1.heap[j]? = some o := fun j o hj ho => (hg.block j (by omega) (fun e => by have := row_own h.own e; omega)).trans ho
  have e3 := blk_set (key _ _ (by omega) h.out) 1 v'
  refine ⟨blk_far (key _ _ (by omega) h.box) (by simp) _, blk_far (key _ _ (by omega) h.fb) (by simp) _, blk_far (key _ _ (by omega) h.res) (by simp) _, e3, ?_, ?_⟩
  · rw [List.length_append, flatF_append]
    exact row_far ho (by simp) _
  · exact (h.chg.grown hg (by omega) (fun j hj => by have := row_own h.own hj.symm; omega)).setCell (by simp) _
theorem WSt.after (h : WSt w wr N cap sl f acc v) (hg : wr.grownBy w1 v.ownBlock) : w1.cell? ⟨N + 1 + 1 + 1, 1, none⟩ = some v ∧ w1.frozen? ⟨N + 1 + 1 + 1, 1, none⟩ = false := by
  have hl := h.lt
  have e := (hg.block (N + 3) (by omega) (fun e => by have := row_own h.own e; omega)).trans h.out
  exact ⟨blk_cell e 1, blk_frozen e 1⟩
theorem WSt.keeps (h : WSt w wr N cap sl f acc v) (hg : wr.grownBy w1 v.ownBlock) {p : Addr} (hp : p.block < N + 4) {u : Value} (hu : wr.cell? p = some u) : w1.cell? p = some u := by
  have hl := h.lt
  rw [← hu]
  exact hg.cell_far p (by omega) (fun e => by have := row_own h.own e; omega)
theorem WSt.stop (h : WSt w wr N cap sl f acc v) : ((wr.setCell ⟨N + 1 + 1, 0, none⟩ (.int .i64 cap)).setCell ⟨N + 1 + 1, 1, none⟩ v).cell? ⟨N + 1 + 1, 0, none⟩ = some (.int .i64 cap) ∧ ((wr.setCell ⟨N + 1 + 1, 0, none⟩ (.int .i64 cap)).setCell ⟨N + 1 + 1, 1, none⟩ v).cell? ⟨N + 1 + 1, 1, none⟩ = some v ∧
    ((wr.setCell ⟨N + 1 + 1, 0, none⟩ (.int .i64 cap)).setCell ⟨N + 1 + 1, 1, none⟩ v).ownsRow N 30 7 v acc.length (flatF acc) ∧ Below N w ((wr.setCell ⟨N + 1 + 1, 0, none⟩ (.int .i64 cap)).setCell ⟨N + 1 + 1, 1, none⟩ v) := by
  have e1 := blk_set (blk_set h.res 0 (.int .i64 cap)) 1 v
  exact ⟨blk_cell e1 0, blk_cell e1 1, row_base (row_far (row_far h.own (by simp) _) (by simp) _) (by omega), (h.chg.setCell (by simp; omega) _).setCell (by simp; omega) _⟩
theorem WSt.atOut0 (h : WSt w wr N cap sl f acc v) : wr.cell? ⟨N + 1 + 1 + 1, 0, none⟩ = some (.int .i64 cap) := blk_cell h.out 0
theorem WSt.atRes (h : WSt w wr N cap sl f acc v) : wr.cell? ⟨N + 1 + 1, 0, none⟩ = some (.int .i64 0) ∧ wr.cell? ⟨N + 1 + 1, 1, none⟩ = some (.slice none 0 0) ∧ wr.frozen? ⟨N + 1 + 1, 0, none⟩ = false ∧ wr.frozen? ⟨N + 1 + 1, 1, none⟩ = false := ⟨blk_cell h.res 0, blk_cell h.res 1, blk_frozen h.res 0, blk_frozen h.res 1⟩
theorem WSt.atOut (h : WSt w wr N cap sl f acc v) : wr.cell? ⟨N + 1 + 1 + 1, 1, none⟩ = some v := blk_cell h.out 1
theorem WSt.atBox (h : WSt w wr N cap sl f acc v) : wr.cell? ⟨N, 1, none⟩ = some sl := blk_cell h.box 1
end
theorem WSt.start (w : World) (cap : Int) (sl : Value) (f : Fr) : WSt w ((((w.alloc (.cells #[.int .i64 cap, sl] 41)).alloc (.cells #[.int .i64 f.id, .int .i64 f.role, .int .i64 f.weight, .bool f.up, .bool f.quiet, .int .i64 f.time, .int .i64 f.till] 30)).alloc (.cells #[.int .i64 0, .slice none 0 0] 41)).alloc (.cells #[.int .i64 cap, .slice none 0 0] 41)) w.heap.size cap sl f [] (.slice none 0 0) := by
  have b0 := blk_new w (.cells #[.int .i64 cap, sl] 41)
  have hB := (Below.refl _ w).alloc (Nat.le_refl _) (.cells #[.int .i64 cap, sl] 41)
  have s1 : (w.alloc (.cells #[.int .i64 cap, sl] 41)).heap.size = w.heap.size + 1 := by simp
  generalize w.alloc (.cells #[.int .i64 cap, sl] 41) = w1 at *
  have b1 := blk_new w1 (.cells #[.int .i64 f.id, .int .i64 f.role, .int .i64 f.weight, .bool f.up, .bool f.quiet, .int .i64 f.time, .int .i64 f.till] 30)
  have hB2 := hB.alloc (by omega) (.cells #[.int .i64 f.id, .int .i64 f.role, .int .i64 f.weight, .bool f.up, .bool f.quiet, .int .i64 f.time, .int .i64 f.till] 30)
  have b0 := blk_alloc (o' := .cells #[.int .i64 f.id, .int .i64 f.role, .int .i64 f.weight, .bool f.up, .bool f.quiet, .int .i64 f.time, .int .i64 f.till] 30) b0
  have s2 : (w1.alloc (.cells #[.int .i64 f.id, .int .i64 f.role, .int .i64 f.weight, .bool f.up, .bool f.quiet, .int .i64 f.time, .int .i64 f.till] 30)).heap.size = w.heap.size + 2 := by simp; omega
  rw [s1] at b1
  generalize w1.alloc (.cells #[.int .i64 f.id, .int .i64 f.role, .int .i64 f.weight, .bool f.up, .bool f.quiet, .int .i64 f.time, .int .i64 f.till] 30) = w2 at *
  have b2 := blk_new w2 (.cells #[.int .i64 0, .slice none 0 0] 41)
  have hB3 := hB2.alloc (by omega) (.cells #[.int .i64 0, .slice none 0 0] 41)
  have b0 := blk_alloc (o' := .cells #[.int .i64 0, .slice none 0 0] 41) b0
  have b1 := blk_alloc (o' := .cells #[.int .i64 0, .slice none 0 0] 41) b1
  have s3 : (w2.alloc (.cells #[.int .i64 0, .slice none 0 0] 41)).heap.size = w.heap.size + 3 := by simp; omega
  rw [s2] at b2
  generalize w2.alloc (.cells #[.int .i64 0, .slice none 0 0] 41) = w3 at *
  have b3 := blk_new w3 (.cells #[.int .i64 cap, .slice none 0 0] 41)
  rw [s3] at b3
  exact ⟨blk_alloc b0, blk_alloc b1, blk_alloc b2, b3, ⟨by simp [flatF], .inl ⟨rfl, rfl⟩⟩, hB3.alloc (by omega) _⟩
end Go.Proofs.Ytdckcbahfdcafaa.F
