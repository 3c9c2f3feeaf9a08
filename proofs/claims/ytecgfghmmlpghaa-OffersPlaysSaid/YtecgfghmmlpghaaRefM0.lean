/- The reference's table, where it lies. No walk. -/
import Derived.Test.YtecgfghmmlpghaaRefE
set_option linter.unusedVariables false
namespace Go.Proofs.Ytecgfghmmlpghaa.O
open Go.RowKit Go.Proofs.Ytecgfghmmlpghaa.Hp Go.Proofs.Ytecgfghmmlpghaa.Mp
theorem row_far {w : World} {base : Nat} {e : TypeId} {size n : Nat} {v : Value} {xs : List Value} (h : w.ownsRow base e size v n xs) {p : Addr} (hp : p.block < base) (u : Value) : (w.setCell p u).ownsRow base e size v n xs :=
  ⟨h.1, h.2.imp id fun ⟨g, cap, cur, e1, e2, e3, e4⟩ => ⟨g, cap, cur, e1, e2, blk_far e3 (by omega) u, e4⟩⟩
theorem row_slice {w : World} {B : Nat} {e : TypeId} {size : Nat} {v : Value} {n : Nat} {xs : List Value} (h : w.ownsRow B e size v n xs) : ∃ fa fc, v = .slice fa n fc := by
  rcases h.2 with ⟨rfl, h0⟩ | ⟨g, cap, cur, rfl, _⟩
  · exact ⟨none, 0, by rw [h0]⟩
  · exact ⟨_, _, rfl⟩
theorem OAt.of_row {T : Nat → Prop} {w : World} {B : Nat} {v : Value} {ys : List Ox} (h : w.ownsRow B 30 5 v ys.length (flatO ys)) (hv : ∀ y ∈ ys, PAt T w y.2.1 y.1.vec) (hg : ∀ g, v.ownBlock = some g → T g) : ∃ fa g fc, v = .slice fa ys.length fc ∧ ys.length ≤ fc ∧ OAt T w fa g 0 ys := by
  rcases h.2 with ⟨rfl, h0⟩ | ⟨g, cp, cur, rfl, hbase, hbk, e1, e2, e3, e4⟩
  · obtain rfl := List.eq_nil_of_length_eq_zero h0
    exact ⟨none, 0, 0, rfl, Nat.le_refl _, OAt.nil _ _ _ _ _⟩
  · refine ⟨some ⟨g, 0, none⟩, g, cp, rfl, e1, fun _ => ⟨rfl, hg g rfl⟩, fun j hj i hi => ?_, hv⟩
    rw [Nat.zero_add, blk_cell hbk, ← Array.getElem?_toList, ← flatO_get ys j i hj hi, ← e4, List.getElem?_take_of_lt (by omega)]
theorem OAt.src {T : Nat → Prop} {w w' : World} {fa : Option Addr} {g : Nat} {xs : List Ox} (h : OAt T w fa g 0 xs) (hT : ∀ i, T i → i < w.heap.size) (hb : Below w.heap.size w w') : 0 < xs.length → ∃ ad, fa = some ad ∧ ∀ j u, (flatO xs)[j]? = some u → w'.cell? (ad.add j) = some u := fun h0 => by
  obtain ⟨e, hg⟩ := h.lt h0
  refine ⟨_, e, fun j u hu => ?_⟩
  have hlt : j < (flatO xs).length := (List.getElem?_eq_some_iff.1 hu).1
  rw [flatO_length] at hlt
  have hj : j = j / 5 * 5 + j % 5 := by omega
  have hk : j / 5 < xs.length := by omega
  have hr : j % 5 < 5 := Nat.mod_lt _ (by omega)
  rw [Go.WideShapes.add_plain, cell_same (hb.block g (hT g hg))]
  rw [hj] at hu ⊢
  rw [flatO_get xs _ _ hk hr] at hu
  rw [h.cell _ hk _ hr]
  exact hu
/-- Three cells written. -/
def set3 (w : World) (N : Nat) (v0 v1 v2 : Value) : World := ((w.setCell ⟨N, 0, none⟩ v0).setCell ⟨N, 1, none⟩ v1).setCell ⟨N, 2, none⟩ v2
theorem set3_blk {w : World} {N : Nat} {a0 a1 a2 : Value} (v0 v1 v2 : Value) {t : TypeId} (h : w.heap[N]? = some (.cells #[a0, a1, a2] t (0, 0))) : (set3 w N v0 v1 v2).heap[N]? = some (.cells #[v0, v1, v2] t (0, 0)) := blk_set (blk_set (blk_set h 0 v0) 1 v1) 2 v2
theorem set3_far {w : World} {N i : Nat} {v0 v1 v2 : Value} (h : i ≠ N) : (set3 w N v0 v1 v2).heap[i]? = w.heap[i]? := by
  unfold set3
  rw [Below.heap_setCell _ _ _ _ h, Below.heap_setCell _ _ _ _ h, Below.heap_setCell _ _ _ _ h]
theorem set3_size {w : World} {N : Nat} {v0 v1 v2 : Value} : (set3 w N v0 v1 v2).heap.size = w.heap.size := by simp [set3, World.setCell]
theorem set3_below {w w' : World} {N B : Nat} {v0 v1 v2 : Value} (h : Below B w w') (hN : B ≤ N) : Below B w (set3 w' N v0 v1 v2) := ((h.setCell hN _).setCell hN _).setCell hN _
/-- The table's copy and the result's block. -/
structure BSt (w wr : World) (N : Nat) (most last : Int) (sl : Value) : Prop where
  box : wr.heap[N]? = some (.cells #[.int .i64 most, .int .i64 last, sl] 54 (0, 0))
  res : wr.heap[N + 1]? = some (.cells #[.int .i64 0, .int .i64 0, .slice none 0 0] 54 (0, 0))
  chg : Below N w wr
section
variable {w wr w' : World} {N : Nat} {most last : Int} {sl sl' : Value}
theorem BSt.lt (h : BSt w wr N most last sl) : N + 2 ≤ wr.heap.size := blk_lt h.res
theorem BSt.below (h : BSt w wr N most last sl) {B : Nat} (hb : Below B wr w') (hB : N + 2 ≤ B) : BSt w w' N most last sl :=
  ⟨(hb.block _ (by omega)).trans h.box, (hb.block _ (by omega)).trans h.res, h.chg.trans (hb.mono (by omega))⟩
theorem BSt.drewN (h : BSt w wr N most last sl) (n : Nat) : BSt w (wr.drewN n) N most last sl := ⟨h.box, h.res, below_drewN h.chg n⟩
theorem BSt.drew (h : BSt w wr N most last sl) : BSt w wr.drew N most last sl := ⟨h.box, h.res, below_drew h.chg⟩
theorem BSt.alloc (h : BSt w wr N most last sl) (o : Obj) : BSt w (wr.alloc o) N most last sl := ⟨blk_alloc h.box, blk_alloc h.res, h.chg.alloc (by have := h.lt; omega) _⟩
theorem BSt.facts (h : BSt w wr N most last sl) : (wr.cell? ⟨N, 0, none⟩ = some (.int .i64 most) ∧ wr.cell? ⟨N, 1, none⟩ = some (.int .i64 last) ∧ wr.cell? ⟨N, 2, none⟩ = some sl) ∧ (wr.cell? ⟨N + 1, 0, none⟩ = some (.int .i64 0) ∧ wr.cell? ⟨N + 1, 1, none⟩ = some (.int .i64 0) ∧ wr.cell? ⟨N + 1, 2, none⟩ = some (.slice none 0 0)) ∧ wr.frozen? ⟨N + 1, 0, none⟩ = false ∧ wr.frozen? ⟨N + 1, 1, none⟩ = false ∧ wr.frozen? ⟨N + 1, 2, none⟩ = false :=
  ⟨⟨blk_cell h.box 0, blk_cell h.box 1, blk_cell h.box 2⟩, ⟨blk_cell h.res 0, blk_cell h.res 1, blk_cell h.res 2⟩, blk_frozen h.res 0, blk_frozen h.res 1, blk_frozen h.res 2⟩
theorem BSt.stop (h : BSt w wr N most last sl) (v0 v1 v2 : Value) : (set3 wr (N + 1) v0 v1 v2).cell? ⟨N + 1, 0, none⟩ = some v0 ∧ (set3 wr (N + 1) v0 v1 v2).cell? ⟨N + 1, 1, none⟩ = some v1 ∧ (set3 wr (N + 1) v0 v1 v2).cell? ⟨N + 1, 2, none⟩ = some v2 ∧ Below N w (set3 wr (N + 1) v0 v1 v2) := by
  have e1 := set3_blk v0 v1 v2 h.res
  exact ⟨blk_cell e1 0, blk_cell e1 1, blk_cell e1 2, set3_below h.chg (by omega)⟩
theorem BSt.start (w : World) (most last : Int) (sl : Value) : BSt w ((w.alloc (.cells #[.int .i64 most, .int .i64 last, sl] 54)).alloc (.cells #[.int .i64 0, .int .i64 0, .slice none 0 0] 54)) w.heap.size most last sl := by
  have b0 := blk_new w (.cells #[.int .i64 most, .int .i64 last, sl] 54)
  have hB := (Below.refl _ w).alloc (Nat.le_refl _) (.cells #[.int .i64 most, .int .i64 last, sl] 54)
  have s1 : (w.alloc (.cells #[.int .i64 most, .int .i64 last, sl] 54)).heap.size = w.heap.size + 1 := by simp
  generalize w.alloc (.cells #[.int .i64 most, .int .i64 last, sl] 54) = w1 at *
  have b1 := blk_new w1 (.cells #[.int .i64 0, .int .i64 0, .slice none 0 0] 54)
  rw [s1] at b1
  exact ⟨blk_alloc b0, b1, hB.alloc (by omega) _⟩
end
/-- With a third block, where a new list grows. -/
structure PSt (w wr : World) (N O : Nat) (most last last' : Int) (sl : Value) (acc : List Ox) (v : Value) : Prop where
  b : BSt w wr N most last sl
  le : N + 2 ≤ O
  out : wr.heap[O]? = some (.cells #[.int .i64 most, .int .i64 last', v] 54 (0, 0))
  own : wr.ownsRow (O + 1) 30 5 v acc.length (flatO acc)
section
variable {w wr w1 w' : World} {N O : Nat} {most last last' : Int} {sl v v' : Value} {x : Ox} {acc ys : List Ox}
theorem PSt.lt (h : PSt w wr N O most last last' sl acc v) : O + 1 ≤ wr.heap.size := blk_lt h.out
theorem PSt.drewN (h : PSt w wr N O most last last' sl acc v) (n : Nat) : PSt w (wr.drewN n) N O most last last' sl acc v := ⟨h.b.drewN n, h.le, h.out, h.own⟩
theorem PSt.drew (h : PSt w wr N O most last last' sl acc v) : PSt w wr.drew N O most last last' sl acc v := ⟨h.b.drew, h.le, h.out, h.own⟩
theorem PSt.alloc (h : PSt w wr N O most last last' sl acc v) (o : Obj) : PSt w (wr.alloc o) N O most last last' sl acc v := ⟨h.b.alloc o, h.le, blk_alloc h.out, h.own.alloc _⟩
theorem PSt.appends (h : PSt w wr N O most last last' sl acc v) (hg : wr.grownBy w1 v.ownBlock) (ho : w1.ownsRow (O + 1) 30 5 v' (acc.length + ys.length) (flatO acc ++ flatO ys)) : PSt w (w1.setCell ⟨O, 2, none⟩ v') N O most last last' sl (acc ++ ys) v' := by
  have hl := h.lt
  have hle := h.le
  have key : ∀ j o, j < O + 1 → wr.heap[j]? = some o → w1.heap[j]? = some o := fun j o hj ho => (hg.block j (by omega) (fun e => by have := row_own h.own e; omega)).trans ho
  have e3 := blk_set (key _ _ (by omega) h.out) 2 v'
  refine ⟨⟨blk_far (key _ _ (by omega) h.b.box) (by show _ ≠ O; omega) _, blk_far (key _ _ (by omega) h.b.res) (by show _ ≠ O; omega) _, (h.b.chg.grown hg (by omega) (fun j hj => by have := row_own h.own hj.symm; omega)).setCell (by show _ ≤ O; omega) _⟩, h.le, e3, ?_⟩
  rw [List.length_append, flatO_append]
  exact row_far ho (by simp) _
theorem PSt.append (h : PSt w wr N O most last last' sl acc v) (hg : wr.grownBy w1 v.ownBlock) (ho : w1.ownsRow (O + 1) 30 5 v' (acc.length + 1) (flatO acc ++ flatO [x])) : PSt w (w1.setCell ⟨O, 2, none⟩ v') N O most last last' sl (acc ++ [x]) v' := h.appends hg ho
theorem PSt.after (h : PSt w wr N O most last last' sl acc v) (hg : wr.grownBy w1 v.ownBlock) : w1.cell? ⟨O, 2, none⟩ = some v ∧ w1.frozen? ⟨O, 2, none⟩ = false := by
  have hl := h.lt
  have e := (hg.block O (by omega) (fun e => by have := row_own h.own e; omega)).trans h.out
  exact ⟨blk_cell e 2, blk_frozen e 2⟩
theorem PSt.atOut (h : PSt w wr N O most last last' sl acc v) : wr.cell? ⟨O, 0, none⟩ = some (.int .i64 most) ∧ wr.cell? ⟨O, 1, none⟩ = some (.int .i64 last') ∧ wr.cell? ⟨O, 2, none⟩ = some v ∧ wr.frozen? ⟨O, 2, none⟩ = false := ⟨blk_cell h.out 0, blk_cell h.out 1, blk_cell h.out 2, blk_frozen h.out 2⟩
end
theorem PSt.start {w wr : World} {N : Nat} {most last : Int} {sl : Value} (h : BSt w wr N most last sl) (last' : Int) : PSt w (wr.alloc (.cells #[.int .i64 most, .int .i64 last', .slice none 0 0] 54)) N wr.heap.size most last last' sl [] (.slice none 0 0) :=
  ⟨h.alloc _, h.lt, blk_new _ _, ⟨by simp [flatO], .inl ⟨rfl, rfl⟩⟩⟩
/-- What an operation of the reference's leaves: its rows lie in old blocks of T or in new ones. -/
def Up (T : Nat → Prop) (w w' : World) : Nat → Prop := fun i => T i ∨ (w.heap.size ≤ i ∧ i < w'.heap.size)
def MAns (T : Nat → Prop) (w : World) (A : List Of) (sl : Value) (w' : World) : Prop := ∃ ys fa g fc, ys.map (·.1) = A ∧ sl = .slice fa ys.length fc ∧ ys.length ≤ fc ∧ OAt (Up T w w') w' fa g 0 ys
theorem MAns.same {T : Nat → Prop} {w w' : World} {xs : List Ox} {fa : Option Addr} {g fc : Nat} (h : OAt T w fa g 0 xs) (hfc : xs.length ≤ fc) (hT : ∀ i, T i → i < w.heap.size) (hb : Below w.heap.size w w') : MAns T w (xs.map (·.1)) (.slice fa xs.length fc) w' :=
  ⟨xs, fa, g, fc, rfl, rfl, hfc, h.keep (fun i hi => hb.block i (hT i hi)) (fun i hi => .inl hi)⟩
theorem MAns.of_row {T : Nat → Prop} {w w' : World} {B : Nat} {v : Value} {ys : List Ox} (h : w'.ownsRow B 30 5 v ys.length (flatO ys)) (hB : w.heap.size ≤ B) (hv : ∀ y ∈ ys, PAt T w y.2.1 y.1.vec) (hT : ∀ i, T i → i < w.heap.size) (hb : Below w.heap.size w w') : MAns T w (ys.map (·.1)) v w' := by
  obtain ⟨fa, g, fc, e, hfc, h3⟩ := OAt.of_row (T := Up T w w') h (fun y hy => (hv y hy).keep (fun i hi => hb.block i (hT i hi)) (fun i hi => .inl hi)) (fun g hg => .inr ⟨Nat.le_trans hB (h.lt g hg).1, (h.lt g hg).2⟩)
  exact ⟨ys, fa, g, fc, rfl, e, hfc, h3⟩
/-- One place of a row. -/
theorem OAt.one {T : Nat → Prop} {w : World} {g : Nat} {xs : List Ox} (h : OAt T w (some ⟨g, 0, none⟩) g 0 xs) {k : Nat} (hk : k < xs.length) : OAt T w (some ⟨g, k * 5, none⟩) g (k * 5) [xs[k]] :=
  ⟨fun _ => ⟨rfl, (h.lt (by omega)).2⟩, fun j hj i hi => by
    have hj0 : j = 0 := by simpa using hj
    subst hj0
    have := h.cell k hk i hi
    rw [Nat.zero_add] at this
    rw [Nat.zero_mul, Nat.zero_add]
    exact this, fun x hx => by rw [List.mem_singleton] at hx; subst hx; exact h.vec _ (List.getElem_mem hk)⟩
theorem OAt.single {T : Nat → Prop} {w : World} {n : Nat} {x : Ox} (h : w.heap[n]? = some (.cells (cellsO x) 30 (0, 0))) (hT : T n) (hv : PAt T w x.2.1 x.1.vec) : OAt T w (some ⟨n, 0, none⟩) n 0 [x] :=
  ⟨fun _ => ⟨rfl, hT⟩, fun j hj i hi => by
    have hj0 : j = 0 := by simpa using hj
    subst hj0
    rw [Nat.zero_mul, Nat.zero_add, Nat.zero_add, blk_cell h]
    rfl, fun y hy => by rw [List.mem_singleton] at hy; subst hy; exact hv⟩
end Go.Proofs.Ytecgfghmmlpghaa.O
