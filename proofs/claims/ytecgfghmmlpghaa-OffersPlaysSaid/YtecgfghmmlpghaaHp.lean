/- Worlds: which blocks a call may have changed. No program. -/
import Derived.WalkKit
import Derived.WalkSpells
import Derived.WalkLawsBesides
import Derived.MapKept
set_option linter.unusedVariables false
set_option linter.unusedSimpArgs false
namespace Go.Proofs.Ytecgfghmmlpghaa.Hp
open Go.RowKit

/-- Of the blocks that were there, only those of S may have changed; the streams are as they were. -/
structure Chg (S : Nat → Prop) (w w' : World) : Prop where
  os : w'.os = w.os
  tape : w'.tape = w.tape
  output : w'.output = w.output
  size : w.heap.size ≤ w'.heap.size
  block : ∀ k, k < w.heap.size → ¬ S k → w'.heap[k]? = w.heap[k]?
/-- Nothing that was there has changed. -/
def No : Nat → Prop := fun _ => False
section
variable {S T : Nat → Prop} {a b c w w' : World}
theorem Chg.refl (S : Nat → Prop) (w : World) : Chg S w w := ⟨rfl, rfl, rfl, Nat.le_refl _, fun _ _ _ => rfl⟩
theorem Chg.trans (h : Chg S a b) (k : Chg S b c) : Chg S a c :=
  ⟨k.os.trans h.os, k.tape.trans h.tape, k.output.trans h.output, Nat.le_trans h.size k.size, fun i hi hn => (k.block i (Nat.lt_of_lt_of_le hi h.size) hn).trans (h.block i hi hn)⟩
/-- What the second step changes is either allowed or new since the first began. -/
theorem Chg.trans' (h : Chg S a b) (k : Chg T b c) (hT : ∀ i, T i → S i ∨ a.heap.size ≤ i) : Chg S a c :=
  ⟨k.os.trans h.os, k.tape.trans h.tape, k.output.trans h.output, Nat.le_trans h.size k.size, fun i hi hn => (k.block i (Nat.lt_of_lt_of_le hi h.size) (fun hTi => (hT i hTi).elim hn (fun h' => by omega))).trans (h.block i hi hn)⟩
theorem Chg.mono (h : Chg S a b) (hS : ∀ i, S i → T i) : Chg T a b := ⟨h.os, h.tape, h.output, h.size, fun i hi hn => h.block i hi (fun hs => hn (hS i hs))⟩
theorem Chg.alloc (h : Chg S a w) (o : Obj) : Chg S a (w.alloc o) :=
  ⟨h.os, h.tape, h.output, Nat.le_trans h.size (by simp), fun i hi hn => (Below.heap_alloc _ _ _ (Nat.lt_of_lt_of_le hi h.size)).trans (h.block i hi hn)⟩
theorem Chg.drew (h : Chg S a w) : Chg S a w.drew := ⟨h.os, h.tape, h.output, h.size, h.block⟩
theorem Chg.drewN (h : Chg S a w) (n : Nat) : Chg S a (w.drewN n) := ⟨h.os, h.tape, h.output, h.size, h.block⟩
theorem Chg.setCell (h : Chg S a w) {p : Addr} (hp : S p.block ∨ a.heap.size ≤ p.block) (u : Value) : Chg S a (w.setCell p u) :=
  ⟨h.os, h.tape, h.output, by simpa [World.setCell] using h.size, fun i hi hn => (Below.heap_setCell _ _ _ _ (fun e => by subst e; exact hp.elim hn (fun h' => by omega))).trans (h.block i hi hn)⟩
/-- A whole block set. -/
def setB (w : World) (r : Nat) (o : Obj) : World := { w with heap := w.heap.setIfInBounds r o }
theorem Chg.setB (h : Chg S a w) {r : Nat} (hp : S r ∨ a.heap.size ≤ r) (o : Obj) : Chg S a (setB w r o) :=
  ⟨h.os, h.tape, h.output, by simpa [Hp.setB] using h.size, fun i hi hn => by
    have hne : r ≠ i := fun e => by subst e; exact hp.elim hn (fun h' => by omega)
    rw [← h.block i hi hn]
    simp [Hp.setB, Array.getElem?_setIfInBounds, hne]⟩
theorem Chg.of_below (h : Below w.heap.size w w') (S : Nat → Prop) : Chg S w w' := ⟨h.os, h.tape, h.output, h.size, fun k hk _ => h.block k hk⟩
theorem Chg.below {B : Nat} (h : Chg S w w') (hS : ∀ i, S i → B ≤ i) (hB : B ≤ w.heap.size) : Below B w w' :=
  ⟨h.os, h.tape, h.output, h.size, fun k hk => h.block k (by omega) (fun hs => by have := hS k hs; omega)⟩
theorem Chg.none (h : Chg No w w') : Below w.heap.size w w' := ⟨h.os, h.tape, h.output, h.size, fun k hk => h.block k hk (fun h => h)⟩
theorem blk_lt {w : World} {i : Nat} {o : Obj} (h : w.heap[i]? = some o) : i < w.heap.size := (Array.getElem?_eq_some_iff.1 h).1
theorem Chg.blk (h : Chg S w w') {i : Nat} {o : Obj} (hi : w.heap[i]? = some o) (hn : ¬ S i) : w'.heap[i]? = some o := (h.block i (blk_lt hi) hn).trans hi
end
theorem blk_alloc {w : World} {i : Nat} {o o' : Obj} (h : w.heap[i]? = some o) : (w.alloc o').heap[i]? = some o := (Below.heap_alloc _ _ _ (blk_lt h)).trans h
theorem blk_new (w : World) (o : Obj) : (w.alloc o).heap[w.heap.size]? = some o := by
  show (w.heap.push o)[w.heap.size]? = _
  simp
theorem blk_drew {w : World} {i : Nat} {o : Obj} (h : w.heap[i]? = some o) : w.drew.heap[i]? = some o := h
theorem blk_drewN {w : World} {i : Nat} {o : Obj} (h : w.heap[i]? = some o) (n : Nat) : (w.drewN n).heap[i]? = some o := h
theorem blk_set {w : World} {i : Nat} {t : TypeId} {cs : Array Value} (h : w.heap[i]? = some (.cells cs t (0, 0))) (j : Nat) (u : Value) : (w.setCell ⟨i, j, none⟩ u).heap[i]? = some (.cells (cs.setIfInBounds j u) t (0, 0)) := by
  simp [World.setCell, Array.getElem?_modify, h]
theorem blk_far {w : World} {i : Nat} {o : Obj} (h : w.heap[i]? = some o) {p : Addr} (hp : i ≠ p.block) (u : Value) : (w.setCell p u).heap[i]? = some o := (Below.heap_setCell w p u i hp).trans h
theorem blk_setB {w : World} {r : Nat} {o : Obj} (o' : Obj) (h : w.heap[r]? = some o) : (setB w r o').heap[r]? = some o' := by
  have := blk_lt h
  simp [setB, Array.getElem?_setIfInBounds, this]
theorem blk_setB_far {w : World} {r i : Nat} {o o' : Obj} (h : w.heap[i]? = some o) (hne : i ≠ r) : (setB w r o').heap[i]? = some o := by
  rw [← h]; simp [setB, Array.getElem?_setIfInBounds, Ne.symm hne]
theorem blk_cell {w : World} {i : Nat} {t : TypeId} {cs : Array Value} (h : w.heap[i]? = some (.cells cs t (0, 0))) (j : Nat) : w.cell? ⟨i, j, none⟩ = cs[j]? := by simp [World.cell?, h]
theorem blk_frozen {w : World} {i : Nat} {t : TypeId} {cs : Array Value} (h : w.heap[i]? = some (.cells cs t (0, 0))) (j : Nat) : w.frozen? ⟨i, j, none⟩ = false := by simp [World.frozen?, h]
theorem blk_ne {w : World} {i j : Nat} {o o' : Obj} (h : w.heap[i]? = some o) (h' : w.heap[j]? = some o') (hne : o ≠ o') : i ≠ j := by
  rintro rfl
  rw [h] at h'
  injection h' with h'
  exact hne h'
end Go.Proofs.Ytecgfghmmlpghaa.Hp
