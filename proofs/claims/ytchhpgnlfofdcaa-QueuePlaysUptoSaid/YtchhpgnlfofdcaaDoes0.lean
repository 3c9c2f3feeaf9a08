/- does: what lies in its blocks. -/
import Derived.Test.YtchhpgnlfofdcaaDoesQ
set_option linter.unusedVariables false
set_option linter.unusedSimpArgs false
namespace Go.Proofs.Ytchhpgnlfofdcaa.Q
open Go.RowKit Go.Proofs.Ytchhpgnlfofdcaa.Hp Go.Proofs.Ytchhpgnlfofdcaa.Mp
set_option maxRecDepth 100000

/-- Blocks that are no table's. -/
def Fr (w : World) (m : Nat) (l : List (Int × Qr)) : Nat → Prop := fun i => i < w.heap.size ∧ ¬ Own m l i
/-- The first three blocks of does. -/
structure DSt (wr : World) (N : Nat) (most : Int) (sl : Value) (a : Ac) (ea : Option Addr) (ec : Nat) : Prop where
  box : wr.heap[N]? = some (.cells #[.int .i64 most, sl] 46 (0, 0))
  ab : wr.heap[N + 1]? = some (.cells #[.int .i64 a.kind, .int .i64 a.frame, .int .i64 a.n, .slice ea a.evs.length ec] 50 (0, 0))
  res : wr.heap[N + 2]? = some (.cells #[.int .i64 0, .slice none 0 0] 46 (0, 0))
section
variable {w wr w' w1 w2 : World} {N : Nat} {most : Int} {sl : Value} {a : Ac} {ea : Option Addr} {ec : Nat}
theorem DSt.lt (h : DSt wr N most sl a ea ec) : N + 3 ≤ wr.heap.size := blk_lt h.res
theorem DSt.keep (h : DSt wr N most sl a ea ec) (hk : ∀ i, N ≤ i → i < N + 3 → w'.heap[i]? = wr.heap[i]?) : DSt w' N most sl a ea ec :=
  ⟨(hk _ (by omega) (by omega)).trans h.box, (hk _ (by omega) (by omega)).trans h.ab, (hk _ (by omega) (by omega)).trans h.res⟩
theorem DSt.below (h : DSt wr N most sl a ea ec) {B : Nat} (hb : Below B wr w') (hB : N + 3 ≤ B) : DSt w' N most sl a ea ec := h.keep (fun i _ hi => hb.block i (by omega))
theorem DSt.facts (h : DSt wr N most sl a ea ec) : (wr.cell? ⟨N, 0, none⟩ = some (.int .i64 most) ∧ wr.cell? ⟨N, 1, none⟩ = some sl) ∧ (wr.cell? ⟨N + 1, 0, none⟩ = some (.int .i64 a.kind) ∧ wr.cell? ⟨N + 1, 1, none⟩ = some (.int .i64 a.frame) ∧ wr.cell? ⟨N + 1, 2, none⟩ = some (.int .i64 a.n) ∧ wr.cell? ⟨N + 1, 3, none⟩ = some (.slice ea a.evs.length ec)) ∧
    wr.cell? ⟨N + 1 + 1, 0, none⟩ = some (.int .i64 0) ∧ wr.cell? ⟨N + 1 + 1, 1, none⟩ = some (.slice none 0 0) ∧ wr.frozen? ⟨N + 1 + 1, 0, none⟩ = false ∧ wr.frozen? ⟨N + 1 + 1, 1, none⟩ = false :=
  ⟨⟨blk_cell h.box 0, blk_cell h.box 1⟩, ⟨blk_cell h.ab 0, blk_cell h.ab 1, blk_cell h.ab 2, blk_cell h.ab 3⟩, blk_cell h.res 0, blk_cell h.res 1, blk_frozen h.res 0, blk_frozen h.res 1⟩
end
theorem DSt.start (w : World) (most : Int) (sl : Value) (a : Ac) (ea : Option Addr) (ec : Nat) : DSt (((w.alloc (.cells #[.int .i64 most, sl] 46)).alloc (.cells #[.int .i64 a.kind, .int .i64 a.frame, .int .i64 a.n, .slice ea a.evs.length ec] 50)).alloc (.cells #[.int .i64 0, .slice none 0 0] 46)) w.heap.size most sl a ea ec ∧ Below w.heap.size w (((w.alloc (.cells #[.int .i64 most, sl] 46)).alloc (.cells #[.int .i64 a.kind, .int .i64 a.frame, .int .i64 a.n, .slice ea a.evs.length ec] 50)).alloc (.cells #[.int .i64 0, .slice none 0 0] 46)) := by
  have b0 := blk_new w (.cells #[.int .i64 most, sl] 46)
  have hB := (Below.refl _ w).alloc (Nat.le_refl _) (.cells #[.int .i64 most, sl] 46)
  have s1 : (w.alloc (.cells #[.int .i64 most, sl] 46)).heap.size = w.heap.size + 1 := by simp
  generalize w.alloc (.cells #[.int .i64 most, sl] 46) = w1 at *
  have b1 := blk_new w1 (.cells #[.int .i64 a.kind, .int .i64 a.frame, .int .i64 a.n, .slice ea a.evs.length ec] 50)
  have b0 := blk_alloc (o' := .cells #[.int .i64 a.kind, .int .i64 a.frame, .int .i64 a.n, .slice ea a.evs.length ec] 50) b0
  have hB2 := hB.alloc (by omega) (.cells #[.int .i64 a.kind, .int .i64 a.frame, .int .i64 a.n, .slice ea a.evs.length ec] 50)
  have s2 : (w1.alloc (.cells #[.int .i64 a.kind, .int .i64 a.frame, .int .i64 a.n, .slice ea a.evs.length ec] 50)).heap.size = w.heap.size + 2 := by simp; omega
  rw [s1] at b1
  generalize w1.alloc (.cells #[.int .i64 a.kind, .int .i64 a.frame, .int .i64 a.n, .slice ea a.evs.length ec] 50) = w2 at *
  have b2 := blk_new w2 (.cells #[.int .i64 0, .slice none 0 0] 46)
  rw [s2] at b2
  exact ⟨⟨blk_alloc b0, blk_alloc b1, b2⟩, hB2.alloc (by omega) _⟩
/-- The reference's answer, beside a table. -/
def MFin (w' : World) (m : Nat) (l' : List (Int × Qr)) (A' : List On) (sl : Value) : Prop :=
  ∃ (ys : List Oe) (fa : Option Addr) (g fc : Nat), ys.map (·.1) = A' ∧ sl = .slice fa ys.length fc ∧ MAt (Fr w' m l') w' fa g ys
/-- What does answers. -/
def DAns (b m : Nat) (most : Int) (l : List (Int × Qr)) (w : World) (P : List (Int × Pl)) (A : List On) (c : Nat) (e : Ending) (w' : World) : Prop :=
  ∃ sl l', e = .returned (.tuple #[.agg #[.int .i64 most, sl], .bool true]) ∧ Qs w w' b m most l l' ∧ abs l' = P ∧ Bd c l' ∧ MFin w' m l' A sl
/-- Behind the last store. -/
theorem DSt.fin {w wW w1 wq w2 : World} {N b m : Nat} {most : Int} {l l' : List (Int × Qr)} {A' : List On} {sl sl0 : Value} {a : Ac} {ea : Option Addr} {ec : Nat} (hN : w.heap.size = N) (hT : Tq w b m most l) (hm : MAns (Fr w m l) most wW A' sl w1) (hW : N + 3 ≤ wW.heap.size) (hWs : wW.heap.size ≤ w1.heap.size)
    (hq0 : Qs w wq b m most l l) (hb1 : Below w1.heap.size w1 wq) (hq : Qs wq w2 b m most l l') (hd : DSt w2 N most sl0 a ea ec) :
    ((w2.setCell ⟨N + 1 + 1, 0, none⟩ (.int .i64 most)).setCell ⟨N + 1 + 1, 1, none⟩ sl).cell? ⟨N + 1 + 1, 0, none⟩ = some (.int .i64 most) ∧ ((w2.setCell ⟨N + 1 + 1, 0, none⟩ (.int .i64 most)).setCell ⟨N + 1 + 1, 1, none⟩ sl).cell? ⟨N + 1 + 1, 1, none⟩ = some sl ∧
    Qs w ((w2.setCell ⟨N + 1 + 1, 0, none⟩ (.int .i64 most)).setCell ⟨N + 1 + 1, 1, none⟩ sl) b m most l l' ∧ MFin ((w2.setCell ⟨N + 1 + 1, 0, none⟩ (.int .i64 most)).setCell ⟨N + 1 + 1, 1, none⟩ sl) m l' A' sl := by
  have e1 := blk_set hd.res 0 (.int .i64 most)
  have e2 := blk_set e1 1 sl
  have hQ := hq0.trans hq
  refine ⟨blk_cell e2 0, blk_cell e2 1, (hQ.setFar hd.res (by omega) 0 _).setFar e1 (by omega) 1 _, ?_⟩
  obtain ⟨ys, fa, g, fc, h1, h2, h3⟩ := hm
  have hs1 := hb1.size
  have hs2 := hq.chg.size
  have hown : ∀ i, Up (Fr w m l) wW w1 i → ¬ Own m l i ∧ i ≠ N + 2 ∧ i < w1.heap.size := fun i hi => by
    rcases hi with hi | hi
    · exact ⟨hi.2, by have := hi.1; omega, by have := hi.1; omega⟩
    · exact ⟨fun ho => by have := hT.own_lt i ho; omega, by omega, hi.2⟩
  have hsz : ((w2.setCell ⟨N + 1 + 1, 0, none⟩ (.int .i64 most)).setCell ⟨N + 1 + 1, 1, none⟩ sl).heap.size = w2.heap.size := by simp [World.setCell]
  refine ⟨ys, fa, g, fc, h1, h2, h3.keep (fun i hi => ?_) (fun i hi => ?_)⟩
  · obtain ⟨k1, k2, k3⟩ := hown i hi
    rw [Below.heap_setCell _ _ _ _ (show i ≠ N + 1 + 1 from k2), Below.heap_setCell _ _ _ _ (show i ≠ N + 1 + 1 from k2), hq.chg.block i (by omega) k1, hb1.block i k3]
  · obtain ⟨k1, k2, k3⟩ := hown i hi
    refine ⟨by rw [hsz]; omega, fun ho => ?_⟩
    rcases hq.own i ho with h | h
    · exact k1 h
    · omega
end Go.Proofs.Ytchhpgnlfofdcaa.Q
