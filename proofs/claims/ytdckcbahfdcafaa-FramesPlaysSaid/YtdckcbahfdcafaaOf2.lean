/- Of: those of a role. -/
import Derived.Test.YtdckcbahfdcafaaOf
import Derived.Test.YtdckcbahfdcafaaBack
set_option linter.unusedVariables false
set_option linter.unusedSimpArgs false
namespace Go.Proofs.Ytdckcbahfdcafaa.F
open Go.RowKit Go.Sort Go.Proofs.Ytdckcbahfdcafaa.Hp Go.Proofs.Ytdckcbahfdcafaa.Mp
set_option maxRecDepth 100000

/-- The library's DeleteFunc at Of's closure, by its contract. -/
def DelC : Prop := ∀ (p : Int → Bool) (lb : Array Value) (blk off cap : Nat) (d : Array Int) (w : World),
  (∀ (W : World) (x : Int), Below w.heap.size w W → Calls Try.prog 34 (#[.int .i64 x] ++ lb) W fun e w' => e = .returned (.bool (p x)) ∧ ∃ q, w' = W.drewN q) →
  (∀ (n : Nat) (os : Array Obj) (dk : Array Int) (x : Int), dk.size = d.size → Calls Try.prog 34 (#[.int .i64 x] ++ lb) (grow (putRow (Value.int .i64) (Sort.ahead w n) blk off dk) os) fun e w' => e = .returned (.bool (p x)) ∧ ∃ q, w' = (grow (putRow (Value.int .i64) (Sort.ahead w n) blk off dk) os).drewN q) →
  Holds (Value.int .i64) w blk off d → d.size ≤ 9223372036854775807 → d.size ≤ cap →
  Calls Try.prog 33 #[.slice (some ⟨blk, off, none⟩) d.size cap, .func (.func 34) #[] lb] w fun e w' => e = .returned (.slice (some ⟨blk, off, none⟩) (d.toList.filter fun x => !p x).length cap) ∧
    ∃ q, w' = putRow (Value.int .i64) (Sort.ahead w q) blk off ((d.toList.filter fun x => !p x) ++ List.replicate (d.size - (d.toList.filter fun x => !p x).length) 0).toArray

theorem grow_none (w : World) : grow w #[] = w := by simp [grow]
theorem row_cut {w : World} {base g cap n : Nat} {e : TypeId} {cur : Array Value} {ts own rest : List Int} (hts : ts = own ++ rest) (hbase : base ≤ g) (hb : w.heap[g]? = some (.cells cur e (0, 0)))
    (h1 : ts.length ≤ cap) (h2 : cap ≤ maxLen) (h3 : cur.size = cap * 1) :
    (putRow (Value.int .i64) (Sort.ahead w n) g 0 ts.toArray).ownsRow base e 1 (.slice (some ⟨g, 0, none⟩) own.length cap) own.length (own.map (Value.int .i64)) := by
  have hh := heap_sortedI (os := #[]) (n := n) ts.toArray hb
  rw [grow_none] at hh
  refine ⟨by simp, .inr ⟨g, cap, _, rfl, hbase, hh, by have := congrArg List.length hts; simp at this; omega, h2, by simp [putCells, h3], ?_⟩⟩
  have := take_putCellsI cur ts (by omega)
  have h4 := congrArg (List.take own.length) this
  rw [List.take_take, hts] at h4
  rw [Nat.mul_one, hts]
  simpa using h4
theorem below_putRow {B : Nat} {a w : World} {g n : Nat} (h : Below B a w) (hB : B ≤ w.heap.size) (hg : B ≤ g) (d : Array Int) : Below B a (putRow (Value.int .i64) (Sort.ahead w n) g 0 d) := by
  have := grownBy_sortedI (w := w) (g := g) (n := n) (os := #[]) d
  rw [grow_none] at this
  exact h.grown this hB (fun j hj => by cases hj; exact hg)

/-- Whose numbers are of a role. -/
def ownF (l : List (Int × Fr)) (number : Int) (ss : List Int) : List Int := ss.filter fun x => !((got l x).role != number)

set_option maxHeartbeats 4000000 in
theorem of_calls (hS : SortC) (hD : DelC) {b m : Nat} {cap : Int} {l : List (Int × Fr)} {R : List (Int × Int)} (number : Int) (w : World) (h : Tab w b m cap l R) (hnd : (l.map (·.1)).Nodup) (hlen : l.length ≤ 900) (hne : l ≠ []) :
    Calls Try.prog 22 #[.pointer (some ⟨b, 0, none⟩), .int .i64 number] w fun e w' => ∃ (v : Value) (ss : List Int), e = .returned v ∧ ss.Perm (l.map (·.1)) ∧ ss.Pairwise (· ≤ ·) ∧
      w'.ownsRow w.heap.size 2 1 v (ownF l number ss).length ((ownF l number ss).map (Value.int .i64)) ∧ Below w.heap.size w w' := by
  have hT := (h.alloc (.cells #[.pointer (some ⟨b, 0, none⟩)] 23)).alloc (.cells #[.int .i64 number] 3)
  have HB := Lib.hid (((Below.refl _ w).alloc (Nat.le_refl _) (.cells #[.pointer (some ⟨b, 0, none⟩)] 23)).alloc (by simp) (.cells #[.int .i64 number] 3))
  have HG1 := Lib.hid (blk_alloc (o' := .cells #[.int .i64 number] 3) (blk_new w (.cells #[.pointer (some ⟨b, 0, none⟩)] 23)))
  have HG2 := Lib.hid (blk_new (w.alloc (.cells #[.pointer (some ⟨b, 0, none⟩)] 23)) (.cells #[.int .i64 number] 3))
  have HC := Lib.hid (sorted_calls hS _ hT hnd hlen)
  have HT := Lib.hid hT
  have HN := Lib.hid hne
  have HL := Lib.hid hlen
  clear h hT hnd hlen hne
  go_enter Try.func22, Try.ntmps22
  go_wp2_with fail
  refine HC.out.mono ?_
  rintro e w1 ⟨v, ss, rfl, hp, hsrt, hrow, hb⟩
  have hs : (w.alloc (.cells #[.pointer (some ⟨b, 0, none⟩)] 23)).heap.size = w.heap.size + 1 := by simp
  have hs2 : ((w.alloc (.cells #[.pointer (some ⟨b, 0, none⟩)] 23)).alloc (.cells #[.int .i64 number] 3)).heap.size = w.heap.size + 2 := by simp
  have hT1 := HT.out.below hb
  have g1 : w1.heap[w.heap.size]? = _ := (hb.block w.heap.size (by rw [hs2]; omega)).trans HG1.out
  have g2' := HG2.out
  rw [hs] at g2'
  have g2 := (hb.block (w.heap.size + 1) (by rw [hs2]; omega)).trans g2'
  have hlb := hT1.lt_b
  have hlm := hT1.lt_m
  have hb0 : b < w.heap.size + 2 := by rw [← hs2]; exact HT.out.lt_b
  have hm0 : m < w.heap.size + 2 := by rw [← hs2]; exact HT.out.lt_m
  rcases hrow.2 with ⟨_, h0⟩ | ⟨g, cp, cur, rfl, hbase, hbk, e1, e2, e3, e4⟩
  · exact absurd (List.eq_nil_of_length_eq_zero h0) HN.out
  rw [hs2] at hbase
  have hpl : ss.length = l.length := by have := hp.length_eq; simpa using this
  have hH : Holds (Value.int .i64) w1 g 0 ss.toArray := holds_of_blockI hbk (by rw [hpl]; simpa using e4)
  have hgl := blk_lt hbk
  have c1 := (blk_cell g1 0).trans (show (#[Value.pointer (some ⟨b, 0, none⟩)])[0]? = some (.pointer (some ⟨b, 0, none⟩)) from rfl)
  have c2 := (blk_cell g2 0).trans (show (#[Value.int .i64 number])[0]? = some (.int .i64 number) from rfl)
  have hdel := hD (fun x => (got l x).role != number) #[.pointer (some ⟨w.heap.size, 0, none⟩), .pointer (some ⟨w.heap.size + 1, 0, none⟩)] g 0 cp ss.toArray w1
    (fun W x hW => of1_calls number x W (hT1.below hW) (below_cell hW (show w.heap.size < w1.heap.size by omega) c1) (below_cell hW (show w.heap.size + 1 < w1.heap.size by omega) c2))
    (fun n os dk x hdk => by
      have hgr := grownBy_sortedI (w := w1) (g := g) (n := n) (os := os) dk
      have k1 := (hgr.block w.heap.size (by omega) (by simp; omega)).trans g1
      have k2 := (hgr.block (w.heap.size + 1) (by omega) (by simp; omega)).trans g2
      exact of1_calls number x _ (hT1.heap (hgr.block b hlb (by simp; omega)) (hgr.block m hlm (by simp; omega))) (blk_cell k1 0) (blk_cell k2 0))
    hH (by have := HL.out; simp; omega) (by simp; omega)
  simp only [List.size_toArray, hpl] at hdel
  have HD := Lib.hid hdel
  have HX := Lib.hid (And.intro hp (And.intro hsrt (And.intro hbase (And.intro hbk (And.intro e2 (And.intro e3 (And.intro e1 (And.intro hpl hb))))))))
  have HB1 := Lib.hid (HB.out.trans (hb.mono (by rw [hs2]; omega)))
  clear hp hsrt hrow hb hs hs2 hT1 g1 g2 g2' hlb hlm hb0 hm0 hbase hbk e1 e2 e3 e4 hpl hH hgl c1 c2 hdel
  go_wp2_with fail
  refine HD.out.mono ?_
  rintro e w' ⟨rfl, q, rfl⟩
  go_wp2
  go_ret
  obtain ⟨hp, hsrt, hbase, hbk, e2, e3, e1, hpl, hb⟩ := HX.out
  refine ⟨_, ss, rfl, hp, hsrt, ?_, below_putRow HB1.out HB1.out.size (by omega) _⟩
  exact row_cut rfl (by omega) hbk (by have := List.length_filter_le (fun x => !((got l x).role != number)) ss; simp; omega) e2 e3
end Go.Proofs.Ytdckcbahfdcafaa.F
