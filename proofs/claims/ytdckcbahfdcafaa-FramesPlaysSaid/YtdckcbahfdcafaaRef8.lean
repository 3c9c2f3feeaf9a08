/- The reference's table as a value; where subscribe and Do are. -/
import Derived.Test.YtdckcbahfdcafaaRef7
set_option linter.unusedVariables false
set_option linter.unusedSimpArgs false
namespace Go.Proofs.Ytdckcbahfdcafaa.F
open Go.RowKit Go.Sort Go.Proofs.Ytdckcbahfdcafaa.Hp Go.Proofs.Ytdckcbahfdcafaa.Mp

/-- A value that reads as a list of frameworks. -/
def Row (w : World) (v : Value) (fs : List Fr) : Prop := ∃ (fa : Option Addr) (g fc : Nat), v = .slice fa fs.length fc ∧ (0 < fs.length → fa = some ⟨g, 0, none⟩ ∧ g < w.heap.size) ∧ ∀ j (hj : j < fs.length), FrAt w g (0 + j * 7) fs[j]
/-- The same, at a known place. -/
structure RowAt (w : World) (fa : Option Addr) (g : Nat) (fs : List Fr) : Prop where
  lt : 0 < fs.length → fa = some ⟨g, 0, none⟩ ∧ g < w.heap.size
  at' : ∀ j (hj : j < fs.length), FrAt w g (0 + j * 7) fs[j]
theorem RowAt.below {w w' : World} {B : Nat} {fa : Option Addr} {g : Nat} {fs : List Fr} (h : RowAt w fa g fs) (hb : Below B w w') (hB : w.heap.size ≤ B) : RowAt w' fa g fs :=
  ⟨fun hl => ⟨(h.lt hl).1, by have := hb.size; have := (h.lt hl).2; omega⟩, fun j hj => (h.at' j hj).below hb (by have := (h.lt (by omega)).2; omega)⟩
theorem RowAt.row {w : World} {fa : Option Addr} {g : Nat} {fs : List Fr} (h : RowAt w fa g fs) (fc : Nat) : Row w (.slice fa fs.length fc) fs := ⟨fa, g, fc, rfl, h.lt, h.at'⟩
section
variable {w wr w1 w' : World} {N B : Nat} {cap : Int} {sl v v' : Value} {a : A} {fs : List Fr}
theorem Row.below (h : Row w v fs) (hb : Below B w w') (hB : w.heap.size ≤ B) : Row w' v fs := by
  obtain ⟨fa, g, fc, e, h1, h2⟩ := h
  refine ⟨fa, g, fc, e, fun hl => ⟨(h1 hl).1, by have := hb.size; have := (h1 hl).2; omega⟩, fun j hj => (h2 j hj).below hb (by have := (h1 (by omega)).2; omega)⟩
theorem Row.of_own {base : Nat} (h : w.ownsRow base 30 7 v fs.length (flatF fs)) : Row w v fs := by
  obtain ⟨fa, g, fc, e, h1, h2⟩ := frow_cell h
  exact ⟨fa, g, fc, e, fun hl => ⟨(h1 hl).1, (h1 hl).2.2⟩, h2⟩
theorem Row.nil (w : World) : Row w (.slice none 0 0) [] := ⟨none, 0, 0, rfl, fun h => by simp at h, fun j hj => by simp at hj⟩

def cellsA (a : A) : Array Value := #[.int .i64 a.kind, .int .i64 a.id, .int .i64 a.role, .int .i64 a.weight, .int .i64 a.time]
/-- The first three blocks: the table, the act, the answer's table. -/
structure SSt (w wr : World) (N : Nat) (cap : Int) (sl : Value) (a : A) : Prop where
  box : wr.heap[N]? = some (.cells #[.int .i64 cap, sl] 41 (0, 0))
  ab : wr.heap[N + 1]? = some (.cells (cellsA a) 28 (0, 0))
  res : wr.heap[N + 2]? = some (.cells #[.int .i64 0, .slice none 0 0] 41 (0, 0))
  chg : Below N w wr
theorem SSt.lt (h : SSt w wr N cap sl a) : N + 3 ≤ wr.heap.size := blk_lt h.res
theorem SSt.drewN (h : SSt w wr N cap sl a) (n : Nat) : SSt w (wr.drewN n) N cap sl a := ⟨h.box, h.ab, h.res, below_drewN h.chg n⟩
theorem SSt.drew (h : SSt w wr N cap sl a) : SSt w wr.drew N cap sl a := ⟨h.box, h.ab, h.res, ⟨h.chg.os, h.chg.tape, h.chg.output, h.chg.size, h.chg.block⟩⟩
theorem SSt.below (h : SSt w wr N cap sl a) (hb : Below B wr w') (hB : N + 3 ≤ B) : SSt w w' N cap sl a :=
  ⟨(hb.block _ (by omega)).trans h.box, (hb.block _ (by omega)).trans h.ab, (hb.block _ (by omega)).trans h.res, h.chg.trans (hb.mono (by omega))⟩
theorem SSt.alloc (h : SSt w wr N cap sl a) (o : Obj) : SSt w (wr.alloc o) N cap sl a := h.below ((Below.refl _ _).alloc (Nat.le_refl _) o) h.lt
theorem SSt.far (h : SSt w wr N cap sl a) {p : Addr} (hp : N + 3 ≤ p.block) (u : Value) : SSt w (wr.setCell p u) N cap sl a :=
  ⟨blk_far h.box (by omega) u, blk_far h.ab (by omega) u, blk_far h.res (by omega) u, h.chg.setCell (by omega) u⟩
theorem SSt.facts (h : SSt w wr N cap sl a) : (wr.cell? ⟨N, 0, none⟩ = some (.int .i64 cap) ∧ wr.cell? ⟨N, 1, none⟩ = some sl) ∧
    (wr.cell? ⟨N + 1, 0, none⟩ = some (.int .i64 a.kind) ∧ wr.cell? ⟨N + 1, 1, none⟩ = some (.int .i64 a.id) ∧ wr.cell? ⟨N + 1, 2, none⟩ = some (.int .i64 a.role) ∧ wr.cell? ⟨N + 1, 3, none⟩ = some (.int .i64 a.weight) ∧ wr.cell? ⟨N + 1, 4, none⟩ = some (.int .i64 a.time)) ∧
    wr.cell? ⟨N + 1 + 1, 0, none⟩ = some (.int .i64 0) ∧ wr.cell? ⟨N + 1 + 1, 1, none⟩ = some (.slice none 0 0) ∧ wr.frozen? ⟨N + 1 + 1, 0, none⟩ = false ∧ wr.frozen? ⟨N + 1 + 1, 1, none⟩ = false :=
  ⟨⟨blk_cell h.box 0, blk_cell h.box 1⟩, ⟨blk_cell h.ab 0, blk_cell h.ab 1, blk_cell h.ab 2, blk_cell h.ab 3, blk_cell h.ab 4⟩, blk_cell h.res 0, blk_cell h.res 1, blk_frozen h.res 0, blk_frozen h.res 1⟩
theorem SSt.stop (h : SSt w wr N cap sl a) (v : Value) : ((wr.setCell ⟨N + 1 + 1, 0, none⟩ (.int .i64 cap)).setCell ⟨N + 1 + 1, 1, none⟩ v).cell? ⟨N + 1 + 1, 0, none⟩ = some (.int .i64 cap) ∧ ((wr.setCell ⟨N + 1 + 1, 0, none⟩ (.int .i64 cap)).setCell ⟨N + 1 + 1, 1, none⟩ v).cell? ⟨N + 1 + 1, 1, none⟩ = some v ∧
    Below N w ((wr.setCell ⟨N + 1 + 1, 0, none⟩ (.int .i64 cap)).setCell ⟨N + 1 + 1, 1, none⟩ v) := by
  have e1 := blk_set (blk_set h.res 0 (.int .i64 cap)) 1 v
  exact ⟨blk_cell e1 0, blk_cell e1 1, (h.chg.setCell (by simp; omega) _).setCell (by simp; omega) _⟩
/-- The row of an owned value stays where the answer is written. -/
theorem row_stop {base : Nat} (h : wr.ownsRow base 30 7 v fs.length (flatF fs)) (hb : N + 3 ≤ base) (u1 u2 : Value) : ((wr.setCell ⟨N + 1 + 1, 0, none⟩ u1).setCell ⟨N + 1 + 1, 1, none⟩ u2).ownsRow N 30 7 v fs.length (flatF fs) :=
  row_base (row_far (row_far h (by simp; omega) _) (by simp; omega) _) (by omega)
theorem SSt.start (w : World) (cap : Int) (sl : Value) (a : A) : SSt w (((w.alloc (.cells #[.int .i64 cap, sl] 41)).alloc (.cells #[.int .i64 a.kind, .int .i64 a.id, .int .i64 a.role, .int .i64 a.weight, .int .i64 a.time] 28)).alloc (.cells #[.int .i64 0, .slice none 0 0] 41)) w.heap.size cap sl a := by
  have b0 := blk_new w (.cells #[.int .i64 cap, sl] 41)
  have hB := (Below.refl _ w).alloc (Nat.le_refl _) (.cells #[.int .i64 cap, sl] 41)
  have s1 : (w.alloc (.cells #[.int .i64 cap, sl] 41)).heap.size = w.heap.size + 1 := by simp
  generalize w.alloc (.cells #[.int .i64 cap, sl] 41) = w1 at *
  have b1 := blk_new w1 (.cells #[.int .i64 a.kind, .int .i64 a.id, .int .i64 a.role, .int .i64 a.weight, .int .i64 a.time] 28)
  have hB2 := hB.alloc (by omega) (.cells #[.int .i64 a.kind, .int .i64 a.id, .int .i64 a.role, .int .i64 a.weight, .int .i64 a.time] 28)
  have b0 := blk_alloc (o' := .cells #[.int .i64 a.kind, .int .i64 a.id, .int .i64 a.role, .int .i64 a.weight, .int .i64 a.time] 28) b0
  have s2 : (w1.alloc (.cells #[.int .i64 a.kind, .int .i64 a.id, .int .i64 a.role, .int .i64 a.weight, .int .i64 a.time] 28)).heap.size = w.heap.size + 2 := by simp; omega
  rw [s1] at b1
  generalize w1.alloc (.cells #[.int .i64 a.kind, .int .i64 a.id, .int .i64 a.role, .int .i64 a.weight, .int .i64 a.time] 28) = w2 at *
  have b2 := blk_new w2 (.cells #[.int .i64 0, .slice none 0 0] 41)
  rw [s2] at b2
  exact ⟨blk_alloc b0, blk_alloc b1, b2, hB2.alloc (by omega) _⟩
end

theorem at_cases (fs : List Fr) (id : Int) : (fs.find? (·.id == id) = none ∧ atF fs id = -1) ∨ ∃ (k : Nat) (f : Fr) (h : k < fs.length), fs.find? (·.id == id) = some f ∧ atF fs id = (k : Int) ∧ fs[k] = f ∧ f.id = id := by
  unfold atF
  cases hk : fs.findIdx? (·.id == id) with
  | none =>
    left
    refine ⟨?_, rfl⟩
    rw [List.findIdx?_eq_none_iff] at hk
    rw [List.find?_eq_none]
    intro x hx
    simpa using hk x hx
  | some k =>
    right
    obtain ⟨h1, h2, h3⟩ := List.findIdx?_eq_some_iff_getElem.1 hk
    refine ⟨k, fs[k], h1, ?_, rfl, rfl, by simpa using h2⟩
    rw [List.find?_eq_some_iff_getElem]
    exact ⟨h2, k, h1, rfl, fun j hj => by have := h3 j hj; simpa using this⟩

def MayA (a : A) : Prop := 1 ≤ a.id ∧ 1 ≤ a.role ∧ a.role ≤ 32 ∧ 1 ≤ a.weight ∧ a.weight ≤ 1000 ∧ 0 ≤ a.time ∧ a.time ≤ 9007199254740992
/-- What the reference's subscribe answers, and the list behind it. -/
def rsubF (cap : Int) (fs : List Fr) (a : A) : (Bool × Int) × List Fr :=
  if ¬ (1 ≤ a.id ∧ 1 ≤ a.role ∧ a.role ≤ 32 ∧ 1 ≤ a.weight ∧ a.weight ≤ 1000 ∧ 0 ≤ a.time ∧ a.time ≤ 9007199254740992) then ((false, 41), fs)
  else match fs.find? (·.id == a.id) with
    | some f => if f.role ≠ a.role then ((false, 21), fs) else if 0 < weightF fs a.role ∧ weightF fs a.role ≠ a.weight then ((false, 22), fs) else ((false, 0), withF fs ⟨a.id, a.role, a.weight, true, f.quiet, a.time, 0⟩)
    | none => if 0 < weightF fs a.role ∧ weightF fs a.role ≠ a.weight then ((false, 22), fs) else if cap ≤ fs.length then ((false, 32), fs) else ((true, 0), withF fs ⟨a.id, a.role, a.weight, true, false, a.time, 0⟩)
/-- What is told of the reference's answer. -/
def RAns (cap : Int) (w : World) (sl : Value) (fs : List Fr) (s : (Bool × Int) × List Fr) (e : Ending) (w' : World) : Prop :=
  ∃ v, e = .returned (.tuple #[.agg #[.int .i64 cap, v], .bool s.1.1, .int .i64 s.1.2]) ∧ ((v = sl ∧ s.2 = fs) ∨ w'.ownsRow w.heap.size 30 7 v s.2.length (flatF s.2)) ∧ Below w.heap.size w w'
end Go.Proofs.Ytdckcbahfdcafaa.F
