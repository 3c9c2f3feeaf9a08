/- Parts, events, and where they lie. No walk. -/
import Derived.Test.YtchhpgnlfofdcaaMi
import Derived.Test.YtchhpgnlfofdcaaCp
import Derived.Test.YtchhpgnlfofdcaaChecked
set_option linter.unusedVariables false
set_option linter.unusedSimpArgs false
namespace Go.Proofs.Ytchhpgnlfofdcaa.Q
open Go.RowKit Go.Proofs.Ytchhpgnlfofdcaa.Hp Go.Proofs.Ytchhpgnlfofdcaa.Mp

/-- A part. -/
structure Pt where
  kind : Int
  role : Int
  amount : Int
  deriving DecidableEq
def cellsP (p : Pt) : List Value := [.int .i64 p.kind, .int .i64 p.role, .int .i64 p.amount]
def flatP : List Pt → List Value
  | [] => []
  | p :: ps => cellsP p ++ flatP ps
theorem flatP_length : ∀ ps, (flatP ps).length = ps.length * 3
  | [] => rfl
  | p :: ps => by simp only [flatP, List.length_append, flatP_length ps, List.length_cons]; show 3 + _ = _; omega
theorem flatP_get : ∀ (ps : List Pt) (j i : Nat) (h : j < ps.length), i < 3 → (flatP ps)[j * 3 + i]? = (cellsP ps[j])[i]?
  | p :: ps, 0, i, h, hi => by
    simp only [flatP, Nat.zero_mul, Nat.zero_add, List.getElem_cons_zero]
    rw [List.getElem?_append_left (show i < 3 from hi)]
  | p :: ps, j + 1, i, h, hi => by
    have := flatP_get ps j i (by simpa using h) hi
    simp only [flatP, List.getElem_cons_succ]
    rw [List.getElem?_append_right (show 3 ≤ (j + 1) * 3 + i by omega), ← this]
    congr 1
    show (j + 1) * 3 + i - 3 = _
    omega
theorem flatP_one : ∀ (ps : List Pt), ∀ v ∈ flatP ps, v.oneCell' = true
  | [], v, h => by simp [flatP] at h
  | p :: ps, v, h => by
    simp only [flatP, List.mem_append, cellsP, List.mem_cons, List.not_mem_nil, or_false] at h
    rcases h with (rfl | rfl | rfl) | h
    · rfl
    · rfl
    · rfl
    · exact flatP_one ps v h
/-- Parts at a slice's place, in blocks of T. -/
def PAt (T : Nat → Prop) (w : World) (va : Option Addr) (vec : List Pt) : Prop := ∃ g o, (0 < vec.length → va = some ⟨g, o, none⟩ ∧ T g) ∧ ∀ j u, (flatP vec)[j]? = some u → w.cell? ⟨g, o + j, none⟩ = some u
/-- Parts in a block of their own. -/
def VAt (w : World) (va : Option Addr) (vec : List Pt) : Prop := ∃ g cur, (0 < vec.length → va = some ⟨g, 0, none⟩) ∧ w.heap[g]? = some (.cells cur 71 (0, 0)) ∧ cur.toList = flatP vec
/-- An event. -/
structure Ev where
  kind : Int
  frame : Int
  id : Int
  agent : Int
  vec : List Pt
  deriving DecidableEq
def Ev.zero : Ev := ⟨0, 0, 0, 0, []⟩
def cellsE (e : Ev) (va : Option Addr) (vc : Nat) : List Value := [.int .i64 e.kind, .int .i64 e.frame, .int .i64 e.id, .int .i64 e.agent, .slice va e.vec.length vc]
/-- The cells of an event that stands at a place. -/
structure EvAt (T : Nat → Prop) (w : World) (g o : Nat) (e : Ev) (va : Option Addr) (vc : Nat) : Prop where
  c0 : w.cell? ⟨g, o, none⟩ = some (.int .i64 e.kind)
  c1 : w.cell? ⟨g, o + 1, none⟩ = some (.int .i64 e.frame)
  c2 : w.cell? ⟨g, o + 2, none⟩ = some (.int .i64 e.id)
  c3 : w.cell? ⟨g, o + 3, none⟩ = some (.int .i64 e.agent)
  c4 : w.cell? ⟨g, o + 4, none⟩ = some (.slice va e.vec.length vc)
  vec : PAt T w va e.vec
/-- Events at a known place. -/
structure EAt (T : Nat → Prop) (w : World) (fa : Option Addr) (g o : Nat) (es : List Ev) : Prop where
  lt : 0 < es.length → fa = some ⟨g, o, none⟩ ∧ T g
  at' : ∀ j (hj : j < es.length), ∃ va vc, EvAt T w g (o + j * 5) es[j] va vc
def ERow (T : Nat → Prop) (w : World) (fa : Option Addr) (es : List Ev) : Prop := ∃ g o, EAt T w fa g o es
section
variable {T T' : Nat → Prop} {w w' : World} {va fa : Option Addr} {vec : List Pt} {g o : Nat} {e : Ev} {vc : Nat} {es : List Ev}
theorem cell_same (h : w'.heap[g]? = w.heap[g]?) (j : Nat) : w'.cell? ⟨g, j, none⟩ = w.cell? ⟨g, j, none⟩ := by simp [World.cell?, h]
theorem PAt.keep (h : PAt T w va vec) (hk : ∀ i, T i → w'.heap[i]? = w.heap[i]?) (hT : ∀ i, T i → T' i) : PAt T' w' va vec := by
  obtain ⟨g, o, h1, h2⟩ := h
  refine ⟨g, o, fun hl => ⟨(h1 hl).1, hT _ (h1 hl).2⟩, fun j u hu => ?_⟩
  rw [cell_same (hk g ?_)]
  · exact h2 j u hu
  · refine (h1 ?_).2
    rcases Nat.eq_zero_or_pos vec.length with h0 | h0
    · rw [List.eq_nil_of_length_eq_zero h0] at hu; simp [flatP] at hu
    · exact h0
theorem VAt.lt (h : VAt w va vec) : ∃ g, g < w.heap.size ∧ (0 < vec.length → va = some ⟨g, 0, none⟩) := by
  obtain ⟨g, cur, h1, h2, h3⟩ := h
  exact ⟨g, blk_lt h2, h1⟩
theorem VAt.pat (h : VAt w va vec) (hT : ∀ (i : Nat) (cur : Array Value), w.heap[i]? = some (Obj.cells cur 71 (0, 0)) → T i) : PAt T w va vec := by
  obtain ⟨g, cur, h1, h2, h3⟩ := h
  refine ⟨g, 0, fun hl => ⟨h1 hl, hT g cur h2⟩, fun j u hu => ?_⟩
  rw [Nat.zero_add, blk_cell h2, ← Array.getElem?_toList, h3]
  exact hu
theorem VAt.keep (h : VAt w va vec) (hk : ∀ (i : Nat) (cur : Array Value), w.heap[i]? = some (Obj.cells cur 71 (0, 0)) → w'.heap[i]? = w.heap[i]?) : VAt w' va vec := by
  obtain ⟨g, cur, h1, h2, h3⟩ := h
  exact ⟨g, cur, h1, (hk g cur h2).trans h2, h3⟩
theorem EvAt.keep (h : EvAt T w g o e va vc) (hg : w'.heap[g]? = w.heap[g]?) (hk : ∀ i, T i → w'.heap[i]? = w.heap[i]?) (hT : ∀ i, T i → T' i) : EvAt T' w' g o e va vc :=
  ⟨(cell_same hg _).trans h.c0, (cell_same hg _).trans h.c1, (cell_same hg _).trans h.c2, (cell_same hg _).trans h.c3, (cell_same hg _).trans h.c4, h.vec.keep hk hT⟩
theorem EAt.keep (h : EAt T w fa g o es) (hk : ∀ i, T i → w'.heap[i]? = w.heap[i]?) (hT : ∀ i, T i → T' i) : EAt T' w' fa g o es :=
  ⟨fun hl => ⟨(h.lt hl).1, hT _ (h.lt hl).2⟩, fun j hj => by
    obtain ⟨va, vc, he⟩ := h.at' j hj
    exact ⟨va, vc, he.keep (hk g (h.lt (by omega)).2) hk hT⟩⟩
theorem ERow.keep (h : ERow T w fa es) (hk : ∀ i, T i → w'.heap[i]? = w.heap[i]?) (hT : ∀ i, T i → T' i) : ERow T' w' fa es := by
  obtain ⟨g, o, h1⟩ := h
  exact ⟨g, o, h1.keep hk hT⟩
theorem ERow.nil (T : Nat → Prop) (w : World) (fa : Option Addr) : ERow T w fa [] := ⟨0, 0, fun h => by simp at h, fun j hj => by simp at hj⟩
end
/-- Below a bound. -/
def Lt (B : Nat) : Nat → Prop := fun i => i < B
theorem keep_below {w w' : World} {B : Nat} (hb : Below B w w') : ∀ i, Lt B i → w'.heap[i]? = w.heap[i]? := fun i hi => hb.block i hi
theorem below_cell {B : Nat} {w w' : World} (h : Below B w w') {p : Addr} (hp : p.block < B) {v : Value} (hv : w.cell? p = some v) : w'.cell? p = some v := by
  rw [← hv]
  have := h.block p.block hp
  unfold World.cell?
  rw [this]
theorem below_drewN {B : Nat} {a w : World} (h : Below B a w) (q : Nat) : Below B a (w.drewN q) := ⟨h.os, h.tape, h.output, h.size, h.block⟩
theorem below_drew {B : Nat} {a w : World} (h : Below B a w) : Below B a w.drew := ⟨h.os, h.tape, h.output, h.size, h.block⟩
theorem info28 : (Try.prog.info? 28).map (fun i => (i.zero, i.size, i.bytes)) = some (some (.agg #[.int .i64 0, .int .i64 0, .int .i64 0, .int .i64 0, .slice none 0 0]), 5, 56) := by kernel_rfl
theorem info71 : (Try.prog.info? 71).map (fun i => (i.zero, i.size, i.bytes)) = some (some (.agg #[.int .i64 0, .int .i64 0, .int .i64 0]), 3, 24) := by kernel_rfl
end Go.Proofs.Ytchhpgnlfofdcaa.Q
