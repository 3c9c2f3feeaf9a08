/- Parts, offers, and where they lie. No walk. -/
import Derived.Test.YtecgfghmmlpghaaMi
import Derived.Test.YtecgfghmmlpghaaCp
import Derived.Test.YtecgfghmmlpghaaAp
import Derived.Test.YtecgfghmmlpghaaChecked
set_option linter.unusedVariables false
set_option linter.unusedSimpArgs false
namespace Go.Proofs.Ytecgfghmmlpghaa.O
open Go.RowKit Go.Proofs.Ytecgfghmmlpghaa.Hp Go.Proofs.Ytecgfghmmlpghaa.Mp

/-- A part. -/
structure Pt where
  kind : Int
  role : Int
  amount : Int
  deriving DecidableEq
def cellsP (p : Pt) : List Value := [.int .i64 p.kind, .int .i64 p.role, .int .i64 p.amount]
def flatP : List Pt → List Value
  | [] => []
  | p :: ps => cellsP p ++ flatP ps
theorem flatP_length : ∀ ps, (flatP ps).length = ps.length * 3
  | [] => rfl
  | p :: ps => by simp only [flatP, List.length_append, flatP_length ps, List.length_cons]; show 3 + _ = _; omega
theorem flatP_get : ∀ (ps : List Pt) (j i : Nat) (h : j < ps.length), i < 3 → (flatP ps)[j * 3 + i]? = (cellsP ps[j])[i]?
  | p :: ps, 0, i, h, hi => by
    simp only [flatP, Nat.zero_mul, Nat.zero_add, List.getElem_cons_zero]
    rw [List.getElem?_append_left (show i < 3 from hi)]
  | p :: ps, j + 1, i, h, hi => by
    have := flatP_get ps j i (by simpa using h) hi
    simp only [flatP, List.getElem_cons_succ]
    rw [List.getElem?_append_right (show 3 ≤ (j + 1) * 3 + i by omega), ← this]
    congr 1
    show (j + 1) * 3 + i - 3 = _
    omega
theorem flatP_one : ∀ (ps : List Pt), ∀ v ∈ flatP ps, v.oneCell' = true
  | [], v, h => by simp [flatP] at h
  | p :: ps, v, h => by
    simp only [flatP, List.mem_append, cellsP, List.mem_cons, List.not_mem_nil, or_false] at h
    rcases h with (rfl | rfl | rfl) | h
    · rfl
    · rfl
    · rfl
    · exact flatP_one ps v h
/-- Parts at a slice's place, in blocks of T. -/
def PAt (T : Nat → Prop) (w : World) (va : Option Addr) (vec : List Pt) : Prop := ∃ g o, (0 < vec.length → va = some ⟨g, o, none⟩ ∧ T g) ∧ ∀ j u, (flatP vec)[j]? = some u → w.cell? ⟨g, o + j, none⟩ = some u
/-- Parts in a block of their own. -/
def VAt (w : World) (va : Option Addr) (vec : List Pt) : Prop := ∃ g cur, (0 < vec.length → va = some ⟨g, 0, none⟩) ∧ w.heap[g]? = some (.cells cur 48 (0, 0)) ∧ cur.toList = flatP vec
section
variable {T T' : Nat → Prop} {w w' : World} {va : Option Addr} {vec : List Pt} {g : Nat}
theorem cell_same (h : w'.heap[g]? = w.heap[g]?) (j : Nat) : w'.cell? ⟨g, j, none⟩ = w.cell? ⟨g, j, none⟩ := by simp [World.cell?, h]
theorem PAt.keep (h : PAt T w va vec) (hk : ∀ i, T i → w'.heap[i]? = w.heap[i]?) (hT : ∀ i, T i → T' i) : PAt T' w' va vec := by
  obtain ⟨g, o, h1, h2⟩ := h
  refine ⟨g, o, fun hl => ⟨(h1 hl).1, hT _ (h1 hl).2⟩, fun j u hu => ?_⟩
  rw [cell_same (hk g ?_)]
  · exact h2 j u hu
  · refine (h1 ?_).2
    rcases Nat.eq_zero_or_pos vec.length with h0 | h0
    · rw [List.eq_nil_of_length_eq_zero h0] at hu; simp [flatP] at hu
    · exact h0
theorem VAt.lt (h : VAt w va vec) : ∃ g, g < w.heap.size ∧ (0 < vec.length → va = some ⟨g, 0, none⟩) := by
  obtain ⟨g, cur, h1, h2, h3⟩ := h
  exact ⟨g, blk_lt h2, h1⟩
theorem VAt.pat (h : VAt w va vec) (hT : ∀ (i : Nat) (cur : Array Value), w.heap[i]? = some (Obj.cells cur 48 (0, 0)) → T i) : PAt T w va vec := by
  obtain ⟨g, cur, h1, h2, h3⟩ := h
  refine ⟨g, 0, fun hl => ⟨h1 hl, hT g cur h2⟩, fun j u hu => ?_⟩
  rw [Nat.zero_add, blk_cell h2, ← Array.getElem?_toList, h3]
  exact hu
theorem VAt.keep (h : VAt w va vec) (hk : ∀ (i : Nat) (cur : Array Value), w.heap[i]? = some (Obj.cells cur 48 (0, 0)) → w'.heap[i]? = w.heap[i]?) : VAt w' va vec := by
  obtain ⟨g, cur, h1, h2, h3⟩ := h
  exact ⟨g, cur, h1, (hk g cur h2).trans h2, h3⟩
end
/-- Below a bound. -/
def Lt (B : Nat) : Nat → Prop := fun i => i < B
theorem keep_below {w w' : World} {B : Nat} (hb : Below B w w') : ∀ i, Lt B i → w'.heap[i]? = w.heap[i]? := fun i hi => hb.block i hi
theorem below_cell {B : Nat} {w w' : World} (h : Below B w w') {p : Addr} (hp : p.block < B) {v : Value} (hv : w.cell? p = some v) : w'.cell? p = some v := by
  rw [← hv]
  have := h.block p.block hp
  unfold World.cell?
  rw [this]
theorem below_drewN {B : Nat} {a w : World} (h : Below B a w) (q : Nat) : Below B a (w.drewN q) := ⟨h.os, h.tape, h.output, h.size, h.block⟩
theorem below_drew {B : Nat} {a w : World} (h : Below B a w) : Below B a w.drew := ⟨h.os, h.tape, h.output, h.size, h.block⟩
theorem info48 : (Try.prog.info? 48).map (fun i => (i.zero, i.size, i.bytes)) = some (some (.agg #[.int .i64 0, .int .i64 0, .int .i64 0]), 3, 24) := by kernel_rfl
theorem info30 : (Try.prog.info? 30).map (fun i => (i.zero, i.size, i.bytes)) = some (some (.agg #[.int .i64 0, .int .i64 0, .int .i64 0, .slice none 0 0, .int .i64 0]), 5, 56) := by kernel_rfl
theorem info2 : (Try.prog.info? 2).map (fun i => (i.zero, i.size, i.bytes)) = some (some (.int .i64 0), 1, 8) := by kernel_rfl
/-- An offer. -/
structure Of where
  id : Int
  frame : Int
  agent : Int
  vec : List Pt
  till : Int
  deriving DecidableEq
def Of.zero : Of := ⟨0, 0, 0, [], 0⟩
/-- With where its parts lie. -/
abbrev Ox := Of × Option Addr × Nat
def encO (x : Ox) : Value := .agg #[.int .i64 x.1.id, .int .i64 x.1.frame, .int .i64 x.1.agent, .slice x.2.1 x.1.vec.length x.2.2, .int .i64 x.1.till]
def cellsO (x : Ox) : Array Value := #[.int .i64 x.1.id, .int .i64 x.1.frame, .int .i64 x.1.agent, .slice x.2.1 x.1.vec.length x.2.2, .int .i64 x.1.till]
def Ox.zero : Ox := (Of.zero, none, 0)
def encU (_ : Unit) : Value := .agg #[]
def encS (r : Nat) : Value := .map (some r)
/-- A map's keys as pairs. -/
def keysU (ids : List Int) : List (Int × Unit) := ids.map fun i => (i, ())
/-- Numbers by whose they are: a map of maps. -/
structure Sets (w : World) (m : Nat) (l : List (Int × Nat)) (ids : Int → List Int) : Prop where
  map : IsMap encS w m l
  nd : (l.map (·.1)).Nodup
  get : ∀ k r, mget l k = some r → IsMap encU w r (keysU (ids k)) ∧ ids k ≠ []
  gone : ∀ k, mget l k = none → ids k = []
  inj : ∀ k1 k2 r, mget l k1 = some r → mget l k2 = some r → k1 = k2
  ne : ∀ k r, mget l k = some r → r ≠ m
/-- The blocks of it. -/
def OwnS (m : Nat) (l : List (Int × Nat)) : Nat → Prop := fun i => i = m ∨ ∃ k, mget l k = some i
theorem IsMap.lt {α : Type} {enc : α → Value} {w : World} {m : Nat} {l : List (Int × α)} (h : IsMap enc w m l) : m < w.heap.size := by
  obtain ⟨es, clk, hb, _⟩ := h
  exact blk_lt hb
theorem IsMap.heap {α : Type} {enc : α → Value} {w w' : World} {m : Nat} {l : List (Int × α)} (h : IsMap enc w m l) (e : w'.heap[m]? = w.heap[m]?) : IsMap enc w' m l := by
  obtain ⟨es, clk, hb, hr⟩ := h
  exact ⟨es, clk, e.trans hb, hr⟩
theorem IsMap.isMapB {α : Type} {enc : α → Value} {w : World} {m : Nat} {l : List (Int × α)} (h : IsMap enc w m l) : ∃ es clk, w.heap[m]? = some (.map es clk) := by
  obtain ⟨es, clk, hb, _⟩ := h
  exact ⟨es, clk, hb⟩
section
variable {w w' : World} {m : Nat} {l l' : List (Int × Nat)} {ids : Int → List Int}
theorem Sets.own_lt (h : Sets w m l ids) : ∀ i, OwnS m l i → i < w.heap.size := fun i hi => by
  rcases hi with rfl | ⟨k, hk⟩
  · exact IsMap.lt h.map
  · exact IsMap.lt (h.get k i hk).1
theorem Sets.own_map (h : Sets w m l ids) : ∀ i, OwnS m l i → ∃ es clk, w.heap[i]? = some (.map es clk) := fun i hi => by
  rcases hi with rfl | ⟨k, hk⟩
  · exact IsMap.isMapB h.map
  · exact IsMap.isMapB (h.get k i hk).1
theorem Sets.keep (h : Sets w m l ids) (hk : ∀ i, OwnS m l i → w'.heap[i]? = w.heap[i]?) : Sets w' m l ids :=
  ⟨IsMap.heap h.map (hk m (.inl rfl)), h.nd, fun k r hr => ⟨IsMap.heap (h.get k r hr).1 (hk r (.inr ⟨k, hr⟩)), (h.get k r hr).2⟩, h.gone, h.inj, h.ne⟩
end
/-- The numbers of the offers of which p. -/
def idsP (p : Of → Bool) (lo : List (Int × Ox)) : List Int := (lo.filter fun x => p x.2.1).map (·.1)
/-- A table of offers: its block, its three maps. -/
structure Tof (w : World) (b mo mf ma : Nat) (most last : Int) (lo : List (Int × Ox)) (lf la : List (Int × Nat)) : Prop where
  blk : w.heap[b]? = some (.cells #[.int .i64 most, .int .i64 last, .map (some mo), .map (some mf), .map (some ma)] 46 (0, 0))
  offers : IsMap encO w mo lo
  rise : lo.Pairwise fun p q => p.1 < q.1
  ids : ∀ p ∈ lo, p.2.1.id = p.1 ∧ 1 ≤ p.1 ∧ p.1 ≤ last
  vec : ∀ p ∈ lo, VAt w p.2.2.1 p.2.1.vec
  of' : Sets w mf lf fun f => idsP (fun o => o.frame == f) lo
  on' : Sets w ma la fun a => idsP (fun o => o.agent == a) lo
  sep1 : ¬ OwnS mf lf mo ∧ ¬ OwnS ma la mo
  sep2 : ∀ i, OwnS mf lf i → ¬ OwnS ma la i
  last0 : 0 ≤ last
/-- All blocks that a table writes. -/
def Own (b mo mf ma : Nat) (lf la : List (Int × Nat)) : Nat → Prop := fun i => i = b ∨ i = mo ∨ OwnS mf lf i ∨ OwnS ma la i
section
variable {w w' : World} {b mo mf ma : Nat} {most last : Int} {lo : List (Int × Ox)} {lf la : List (Int × Nat)}
theorem Tof.own_lt (h : Tof w b mo mf ma most last lo lf la) : ∀ i, Own b mo mf ma lf la i → i < w.heap.size := fun i hi => by
  rcases hi with rfl | rfl | hi | hi
  · exact blk_lt h.blk
  · exact IsMap.lt h.offers
  · exact h.of'.own_lt i hi
  · exact h.on'.own_lt i hi
theorem Tof.no48 (h : Tof w b mo mf ma most last lo lf la) : ∀ (i : Nat) (cur : Array Value), w.heap[i]? = some (Obj.cells cur 48 (0, 0)) → ¬ Own b mo mf ma lf la i := fun i cur hc hi => by
  rcases hi with rfl | rfl | hi | hi
  · rw [h.blk] at hc; simp at hc
  · obtain ⟨es, clk, hb⟩ := IsMap.isMapB h.offers; rw [hb] at hc; simp at hc
  · obtain ⟨es, clk, hb⟩ := h.of'.own_map i hi; rw [hb] at hc; simp at hc
  · obtain ⟨es, clk, hb⟩ := h.on'.own_map i hi; rw [hb] at hc; simp at hc
theorem Tof.keep (h : Tof w b mo mf ma most last lo lf la) (h1 : ∀ i, Own b mo mf ma lf la i → w'.heap[i]? = w.heap[i]?) (h2 : ∀ (i : Nat) (cur : Array Value), w.heap[i]? = some (Obj.cells cur 48 (0, 0)) → w'.heap[i]? = w.heap[i]?) : Tof w' b mo mf ma most last lo lf la :=
  ⟨(h1 b (.inl rfl)).trans h.blk, IsMap.heap h.offers (h1 mo (.inr (.inl rfl))), h.rise, h.ids, fun p hp => (h.vec p hp).keep h2, h.of'.keep (fun i hi => h1 i (.inr (.inr (.inl hi)))), h.on'.keep (fun i hi => h1 i (.inr (.inr (.inr hi)))), h.sep1, h.sep2, h.last0⟩
theorem Tof.below (h : Tof w b mo mf ma most last lo lf la) (hb : Below w.heap.size w w') : Tof w' b mo mf ma most last lo lf la :=
  h.keep (fun i hi => hb.block i (h.own_lt i hi)) (fun i c hc => hb.block i (blk_lt hc))
theorem Tof.cells (h : Tof w b mo mf ma most last lo lf la) : w.cell? ⟨b, 0, none⟩ = some (.int .i64 most) ∧ w.cell? ⟨b, 1, none⟩ = some (.int .i64 last) ∧ w.cell? ⟨b, 2, none⟩ = some (.map (some mo)) ∧ w.cell? ⟨b, 3, none⟩ = some (.map (some mf)) ∧ w.cell? ⟨b, 4, none⟩ = some (.map (some ma)) :=
  ⟨blk_cell h.blk 0, blk_cell h.blk 1, blk_cell h.blk 2, blk_cell h.blk 3, blk_cell h.blk 4⟩
theorem Tof.nd (h : Tof w b mo mf ma most last lo lf la) : (lo.map (·.1)).Nodup := by
  rw [List.nodup_iff_pairwise_ne, List.pairwise_map]
  exact h.rise.imp fun h e => by omega
end
end Go.Proofs.Ytecgfghmmlpghaa.O
