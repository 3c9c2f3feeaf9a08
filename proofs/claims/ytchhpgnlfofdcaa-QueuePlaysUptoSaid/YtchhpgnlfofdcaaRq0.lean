/- The reference's queues: their row, and where it lies. -/
import Derived.Test.YtchhpgnlfofdcaaTakeOwn
import Derived.Test.YtchhpgnlfofdcaaAp
import Derived.Test.YtchhpgnlfofdcaaNil
import Derived.Deep.LoopGhost
import Derived.Deep.QuietTactic
set_option linter.unusedVariables false
set_option linter.unusedSimpArgs false
namespace Go.Proofs.Ytchhpgnlfofdcaa.Q
open Go.RowKit Go.Proofs.Ytchhpgnlfofdcaa.Hp Go.Proofs.Ytchhpgnlfofdcaa.Mp
set_option maxRecDepth 100000

/-- A queue, told by the reference. -/
structure On where
  frame : Int
  evs : List Ev
  lost : Int
  deriving DecidableEq
/-- With where its events lie. -/
abbrev Oe := On × Option Addr × Nat
def cellsO (x : Oe) : Array Value := #[.int .i64 x.1.frame, .slice x.2.1 x.1.evs.length x.2.2, .int .i64 x.1.lost]
def flatO : List Oe → List Value
  | [] => []
  | x :: xs => (cellsO x).toList ++ flatO xs
theorem flatO_length : ∀ xs, (flatO xs).length = xs.length * 3
  | [] => rfl
  | x :: xs => by simp only [flatO, List.length_append, flatO_length xs, List.length_cons]; show 3 + _ = _; omega
theorem flatO_get : ∀ (xs : List Oe) (j i : Nat) (h : j < xs.length), i < 3 → (flatO xs)[j * 3 + i]? = (cellsO xs[j]).toList[i]?
  | x :: xs, 0, i, h, hi => by
    simp only [flatO, Nat.zero_mul, Nat.zero_add, List.getElem_cons_zero]
    rw [List.getElem?_append_left (show i < 3 from hi)]
  | x :: xs, j + 1, i, h, hi => by
    have := flatO_get xs j i (by simpa using h) hi
    simp only [flatO, List.getElem_cons_succ]
    rw [List.getElem?_append_right (show 3 ≤ (j + 1) * 3 + i by omega), ← this]
    congr 1
    show (j + 1) * 3 + i - 3 = _
    omega
theorem flatO_append : ∀ a b, flatO (a ++ b) = flatO a ++ flatO b
  | [], b => rfl
  | x :: a, b => by simp only [List.cons_append, flatO, flatO_append a b, List.append_assoc]
theorem one3 (x : Oe) : ∀ u ∈ flatO [x], u.oneCell' = true := by
  intro u hu
  simp only [flatO, cellsO, List.append_nil] at hu
  simp at hu
  rcases hu with rfl | rfl | rfl <;> rfl
theorem info52 : (Try.prog.info? 52).map (fun i => (i.zero, i.size, i.bytes)) = some (some (.agg #[.int .i64 0, .slice none 0 0, .int .i64 0]), 3, 40) := by kernel_rfl
/-- The events of a queue, where they lie. -/
structure EO (T : Nat → Prop) (w : World) (x : Oe) : Prop where
  row : ERow T w x.2.1 x.1.evs
  le : x.1.evs.length ≤ x.2.2
theorem EO.keep {T T' : Nat → Prop} {w w' : World} {x : Oe} (h : EO T w x) (hk : ∀ i, T i → w'.heap[i]? = w.heap[i]?) (hT : ∀ i, T i → T' i) : EO T' w' x := ⟨h.row.keep hk hT, h.le⟩
/-- Queues in a row, in blocks of T. -/
structure MAt (T : Nat → Prop) (w : World) (fa : Option Addr) (g : Nat) (xs : List Oe) : Prop where
  lt : 0 < xs.length → fa = some ⟨g, 0, none⟩ ∧ T g
  at' : ∀ j u, (flatO xs)[j]? = some u → w.cell? ⟨g, j, none⟩ = some u
  evs : ∀ x ∈ xs, EO T w x
section
variable {T T' : Nat → Prop} {w w' : World} {fa : Option Addr} {g : Nat} {xs : List Oe}
theorem MAt.keep (h : MAt T w fa g xs) (hk : ∀ i, T i → w'.heap[i]? = w.heap[i]?) (hT : ∀ i, T i → T' i) : MAt T' w' fa g xs :=
  ⟨fun hl => ⟨(h.lt hl).1, hT _ (h.lt hl).2⟩, fun j u hu => by
    rw [cell_same (hk g (h.lt ?_).2)]
    · exact h.at' j u hu
    · rcases Nat.eq_zero_or_pos xs.length with h0 | h0
      · rw [List.eq_nil_of_length_eq_zero h0] at hu; simp [flatO] at hu
      · exact h0, fun x hx => (h.evs x hx).keep hk hT⟩
theorem MAt.below (h : MAt T w fa g xs) (hT : ∀ i, T i → i < w.heap.size) (hb : Below w.heap.size w w') : MAt T w' fa g xs := h.keep (fun i hi => hb.block i (hT i hi)) (fun _ hi => hi)
theorem MAt.nil (T : Nat → Prop) (w : World) (fa : Option Addr) (g : Nat) : MAt T w fa g [] := ⟨fun h => by simp at h, fun j u hu => by simp [flatO] at hu, by simp⟩
theorem MAt.cells (h : MAt T w fa g xs) (j : Nat) (hj : j < xs.length) : w.cell? ⟨g, j * 3, none⟩ = some (.int .i64 xs[j].1.frame) ∧ w.cell? ⟨g, j * 3 + 1, none⟩ = some (.slice xs[j].2.1 xs[j].1.evs.length xs[j].2.2) ∧ w.cell? ⟨g, j * 3 + 2, none⟩ = some (.int .i64 xs[j].1.lost) := by
  refine ⟨h.at' (j * 3) _ ?_, h.at' (j * 3 + 1) _ ?_, h.at' (j * 3 + 2) _ ?_⟩
  · have := flatO_get xs j 0 hj (by omega); simpa [cellsO] using this
  · have := flatO_get xs j 1 hj (by omega); simpa [cellsO] using this
  · have := flatO_get xs j 2 hj (by omega); simpa [cellsO] using this
theorem MAt.of_row {B : Nat} {v : Value} (h : w.ownsRow B 52 3 v xs.length (flatO xs)) (he : ∀ x ∈ xs, EO T w x) (hT : ∀ g, v.ownBlock = some g → T g) : ∃ fa g fc, v = .slice fa xs.length fc ∧ MAt T w fa g xs := by
  rcases h.2 with ⟨rfl, h0⟩ | ⟨g, cap, cur, rfl, hb, hbk, h1, h2, h3, h4⟩
  · obtain rfl := List.eq_nil_of_length_eq_zero h0
    exact ⟨none, 0, 0, rfl, MAt.nil _ _ _ _⟩
  · refine ⟨_, g, cap, rfl, fun _ => ⟨rfl, hT g rfl⟩, fun j u hu => ?_, he⟩
    have hj : j < xs.length * 3 := by have := (List.getElem?_eq_some_iff.1 hu).1; rwa [flatO_length] at this
    rw [blk_cell hbk, ← Array.getElem?_toList, ← hu, ← h4, List.getElem?_take_of_lt hj]
end
/-- What is new between two worlds is let in, too. -/
def Up (T : Nat → Prop) (w w' : World) : Nat → Prop := fun i => T i ∨ (w.heap.size ≤ i ∧ i < w'.heap.size)
theorem Up.lt {T : Nat → Prop} {w w' : World} (hT : ∀ i, T i → i < w.heap.size) (hs : w.heap.size ≤ w'.heap.size) : ∀ i, Up T w w' i → i < w'.heap.size := fun i hi => by
  rcases hi with hi | hi
  · have := hT i hi; omega
  · exact hi.2
theorem Up.trans {T : Nat → Prop} {a b c : World} (h1 : a.heap.size ≤ b.heap.size) (h2 : b.heap.size ≤ c.heap.size) : ∀ i, Up (Up T a b) b c i → Up T a c i := fun i hi => by
  rcases hi with (hi | hi) | hi
  · exact .inl hi
  · exact .inr ⟨hi.1, by omega⟩
  · exact .inr ⟨by omega, hi.2⟩

section
variable {α β : Type}
/-- A round of with: what has been written, and whether the new one stands there. -/
def wStep (key : α → Int) (f : α) (s : List α × Bool) (x : α) : List α × Bool :=
  let s1 := if s.2 = false ∧ key f ≤ key x then (s.1 ++ [f], true) else s
  (if key x = key f then s1.1 else s1.1 ++ [x], s1.2)
def wAcc (key : α → Int) (f : α) (fs : List α) (k : Nat) : List α × Bool := (fs.take k).foldl (wStep key f) ([], false)
def withK (key : α → Int) (fs : List α) (f : α) : List α := if (fs.foldl (wStep key f) ([], false)).2 = true then (fs.foldl (wStep key f) ([], false)).1 else (fs.foldl (wStep key f) ([], false)).1 ++ [f]
variable {key : α → Int}
theorem wAcc_succ (f : α) (fs : List α) (k : Nat) (h : k < fs.length) : wAcc key f fs (k + 1) = wStep key f (wAcc key f fs k) fs[k] := by
  unfold wAcc
  rw [List.take_add_one, List.getElem?_eq_getElem h, Option.toList_some, List.foldl_append]
  rfl
theorem wStep_done (f : α) (acc : List α) (x : α) : wStep key f (acc, true) x = (if key x = key f then acc else acc ++ [x], true) := rfl
theorem wStep_no {f : α} {x : α} (acc : List α) (h : decide (key f ≤ key x) = false) : wStep key f (acc, false) x = (if key x = key f then acc else acc ++ [x], false) := by
  unfold wStep
  rw [if_neg (fun hh => of_decide_eq_false h hh.2)]
theorem wStep_yes {f : α} {x : α} (acc : List α) (h : decide (key f ≤ key x) = true) : wStep key f (acc, false) x = (if key x = key f then acc ++ [f] else (acc ++ [f]) ++ [x], true) := by
  unfold wStep
  rw [if_pos ⟨rfl, of_decide_eq_true h⟩]
theorem wStep_length (f : α) (s : List α × Bool) (x : α) : (wStep key f s x).1.length ≤ s.1.length + 2 := by
  unfold wStep
  simp only
  split <;> split <;> simp
theorem wAcc_length (f : α) (fs : List α) : ∀ k, (wAcc key f fs k).1.length ≤ 2 * k
  | 0 => by simp [wAcc]
  | k + 1 => by
    rcases Nat.lt_or_ge k fs.length with h | h
    · rw [wAcc_succ f fs k h]
      have := wStep_length (key := key) f (wAcc key f fs k) fs[k]
      have := wAcc_length f fs k
      omega
    · have := wAcc_length f fs k
      unfold wAcc at this ⊢
      rw [List.take_of_length_le h] at this
      rw [List.take_of_length_le (by omega)]
      omega
theorem wFold_mem (f : α) : ∀ (fs : List α) (s : List α × Bool), ∀ y ∈ (fs.foldl (wStep key f) s).1, y ∈ s.1 ∨ y = f ∨ y ∈ fs
  | [], s, y, hy => .inl hy
  | x :: fs, s, y, hy => by
    rcases wFold_mem f fs _ y hy with h | h | h
    · have : y ∈ s.1 ∨ y = f ∨ y = x := by
        unfold wStep at h
        simp only at h
        split at h <;> split at h <;> (try simp at h) <;> grind
      rcases this with h | h | h
      · exact .inl h
      · exact .inr (.inl h)
      · exact .inr (.inr (by rw [h]; exact List.mem_cons_self))
    · exact .inr (.inl h)
    · exact .inr (.inr (List.mem_cons_of_mem _ h))
theorem withK_mem (f : α) (fs : List α) : ∀ y ∈ withK key fs f, y = f ∨ y ∈ fs := fun y hy => by
  unfold withK at hy
  split at hy
  · rcases wFold_mem f fs _ y hy with h | h
    · simp at h
    · exact h
  · rcases List.mem_append.1 hy with hy | hy
    · rcases wFold_mem f fs _ y hy with h | h
      · simp at h
      · exact h
    · exact .inl (by simpa using hy)
theorem wFold_map {key' : β → Int} (p : α → β) (hp : ∀ x, key' (p x) = key x) (f : α) : ∀ (fs : List α) (s : List α × Bool), ((fs.map p).foldl (wStep key' (p f)) (s.1.map p, s.2)) = ((fs.foldl (wStep key f) s).1.map p, (fs.foldl (wStep key f) s).2)
  | [], s => rfl
  | x :: fs, s => by
    rw [List.map_cons, List.foldl_cons, List.foldl_cons, ← wFold_map p hp f fs]
    congr 1
    unfold wStep
    simp only [hp]
    split <;> split <;> simp
theorem withK_map {key' : β → Int} (p : α → β) (hp : ∀ x, key' (p x) = key x) (fs : List α) (f : α) : (withK key fs f).map p = withK key' (fs.map p) (p f) := by
  unfold withK
  have := wFold_map p hp f fs ([], false)
  simp only [List.map_nil] at this
  rw [this]
  simp only
  split
  · rfl
  · rw [List.map_append]; rfl
end
end Go.Proofs.Ytchhpgnlfofdcaa.Q
