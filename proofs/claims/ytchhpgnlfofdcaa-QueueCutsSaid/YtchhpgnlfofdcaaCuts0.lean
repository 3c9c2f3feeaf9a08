/- Two tables of queues at once, and rows of events taken out of them. -/
import Derived.Test.YtchhpgnlfofdcaaTakeOwn
import Derived.Test.YtchhpgnlfofdcaaNil
import Derived.Test.YtchhpgnlfofdcaaLawK
import Derived.Laws.AppendOwnNone
import Derived.OwnWalk
set_option linter.unusedVariables false
set_option linter.unusedSimpArgs false
namespace Go.Proofs.Ytchhpgnlfofdcaa.Q
open Go.RowKit Go.Proofs.Ytchhpgnlfofdcaa.Hp Go.Proofs.Ytchhpgnlfofdcaa.Mp
set_option maxRecDepth 100000

theorem Tq.no35 {w : World} {b m : Nat} {most : Int} {l : List (Int × Qr)} (h : Tq w b m most l) : ∀ (i : Nat) (cur : Array Value), w.heap[i]? = some (Obj.cells cur 35 (0, 0)) → ¬ Own m l i := fun i cur hc hi => by
  rcases hi with rfl | ⟨k, q, hk, hi⟩
  · obtain ⟨es, clk, hm, _⟩ := h.map
    rw [hm] at hc
    simp at hc
  · obtain ⟨cap, frm, hr⟩ := h.ring k q hk
    obtain ⟨cs, h1⟩ := hr.tag_rb
    rcases hi with rfl | rfl
    · rw [h1] at hc; simp at hc
    · rcases hr.tag_ab with h2 | ⟨cs2, h2⟩
      · rw [h2, h1] at hc; simp at hc
      · rw [h2] at hc; simp at hc
/-- Two tables that share no block. -/
structure Two (B : Nat) (w : World) (ba ma bb mb : Nat) (most : Int) (la lb : List (Int × Qr)) : Prop where
  ta : Tq w ba ma most la
  tb : Tq w bb mb most lb
  sep : ∀ i, Own ma la i → ¬ Own mb lb i
  oa : ∀ i, Own ma la i → B ≤ i
  ob : ∀ i, Own mb lb i → B ≤ i
section
variable {B : Nat} {w w' : World} {ba ma bb mb : Nat} {most : Int} {la lb la' lb' : List (Int × Qr)}
theorem Two.swap (h : Two B w ba ma bb mb most la lb) : Two B w bb mb ba ma most lb la := ⟨h.tb, h.ta, fun i h1 h2 => h.sep i h2 h1, h.ob, h.oa⟩
theorem Two.stepB (h : Two B w ba ma bb mb most la lb) (hq : Qs w w' bb mb most lb lb') (hB : B ≤ w.heap.size) : Two B w' ba ma bb mb most la lb' :=
  ⟨h.ta.keep (hq.chg.block ba h.ta.lt_b (h.tb.no35 ba _ h.ta.blk)) (fun i hi => hq.chg.block i (h.ta.own_lt i hi) (h.sep i hi)) (fun i c hc => hq.chg.block i (blk_lt hc) (h.tb.no71 i c hc)), hq.tq,
    fun i hi ho => by
      rcases hq.own i ho with h1 | h1
      · exact h.sep i hi h1
      · have := h.ta.own_lt i hi; omega,
    h.oa, fun i hi => by
      rcases hq.own i hi with h1 | h1
      · exact h.ob i h1
      · omega⟩
theorem Two.stepA (h : Two B w ba ma bb mb most la lb) (hq : Qs w w' ba ma most la la') (hB : B ≤ w.heap.size) : Two B w' ba ma bb mb most la' lb := (h.swap.stepB hq hB).swap
theorem Two.below (h : Two B w ba ma bb mb most la lb) (hb : Below w.heap.size w w') : Two B w' ba ma bb mb most la lb := ⟨h.ta.below hb, h.tb.below hb, h.sep, h.oa, h.ob⟩
/-- All blocks of a table and all rows are as they were. -/
theorem Two.keep (h : Two B w ba ma bb mb most la lb) (h1 : ∀ i, Own ma la i ∨ Own mb lb i → w'.heap[i]? = w.heap[i]?) (h2 : ∀ (i : Nat) (o : Obj), w.heap[i]? = some o → (∀ cs, o ≠ .cells cs 28 (0, 0)) → w'.heap[i]? = w.heap[i]?) : Two B w' ba ma bb mb most la lb :=
  ⟨h.ta.keep (h2 _ _ h.ta.blk (by simp)) (fun i hi => h1 i (.inl hi)) (fun i c hc => h2 i _ hc (by simp)), h.tb.keep (h2 _ _ h.tb.blk (by simp)) (fun i hi => h1 i (.inr hi)) (fun i c hc => h2 i _ hc (by simp)), h.sep, h.oa, h.ob⟩
end
theorem Own.nil {m i : Nat} : Own m [] i ↔ i = m := by
  constructor
  · rintro (h | ⟨k, q, hk, _⟩)
    · exact h
    · simp [mget] at hk
  · exact fun h => .inl h
/-- A queue opened, as a step. -/
theorem Qs.open {w w' : World} {b m : Nat} {most : Int} {k : Int} (ht : Tq w' b m most (mput [] k (freshQ w.heap.size))) (hc : Chg (fun i => i = m) w w') : Qs w w' b m most [] [(k, freshQ w.heap.size)] :=
  ⟨ht, fun i hi => by
    rcases hi with rfl | ⟨k2, q, hk, hi⟩
    · exact .inl (.inl rfl)
    · simp only [mget] at hk
      split at hk
      · injection hk with hk
        rw [← hk] at hi
        rcases hi with rfl | rfl <;> exact .inr (Nat.le_refl _)
      · simp at hk, hc.mono (fun i hi => .inl hi)⟩
theorem flatX_one : ∀ (ys : List Ex), ∀ u ∈ flatX ys, u.oneCell' = true
  | [], u, hu => by simp [flatX] at hu
  | y :: ys, u, hu => by
    simp only [flatX, List.mem_append] at hu
    rcases hu with hu | hu
    · exact one_five y.1 y.2.1 y.2.2 u (by simpa [flatX] using hu)
    · exact flatX_one ys u hu
/-- An append of a row of events to an own row, be it of none. -/
theorem wpList_append_ev {w : World} {ops : Array Oper} {rest : List Oper} {o : Oper} {a : Act} {Q : Exit → Act → World → Prop} (hgd : o.guard = none) (s x : Operand)
    (ho : o.op = .call { callee := .builtin .append, args := #[s, x], argTypes := #[22, 22] })
    (base : Nat) (v : Value) (xs ys : List Ex) (B : Nat) (fy : Option Addr) (cy : Nat) (hs : a.eval s = v) (hx : a.eval x = .slice fy ys.length cy)
    (hown : w.ownsRow base 28 5 v xs.length (flatX xs)) (hv : ∃ fs fc, v = .slice fs xs.length fc) (hrow : Rw w B (.slice fy ys.length cy) ys) (h0 : ys = [] → fy = none ∧ cy = 0) (hb : xs.length + ys.length ≤ 100000) (hbase : base ≤ w.heap.size)
    (h : ∀ fs fc w', w'.ownsRow base 28 5 (.slice fs (xs ++ ys).length fc) (xs ++ ys).length (flatX (xs ++ ys)) → w.grownBy w' v.ownBlock → (∀ g, (Value.slice fs (xs ++ ys).length fc).ownBlock = some g → v.ownBlock = some g ∨ g = w.heap.size) → wpList Try.prog ops Q rest (a.put o.dst (.slice fs (xs ++ ys).length fc)) w') : wpList Try.prog ops Q (o :: rest) a w := by
  obtain ⟨i0, hi, hz0, hz1, hz2⟩ := info_parts info28
  by_cases hy : ys = []
  · obtain ⟨h1, h2⟩ := h0 hy
    subst hy h1 h2
    obtain ⟨fs, fc, rfl⟩ := hv
    refine wpList_append_own_none hgd s x 22 ho base 28 i0 5 Try.underlying22 hi _ _ _ hs hown hx ?_
    have := h fs fc w (by simpa using hown) (World.grownBy.refl _ _) (fun g hg => .inl (by simpa using hg))
    simpa using this
  · have hp : 0 < ys.length := List.length_pos_iff.2 hy
    obtain ⟨gy, cap', e, _⟩ := hrow.own.form hp
    injection e with e1 _ e3
    subst e1
    refine wpList_append_lies w hgd s x 22 ho base 28 i0 (.agg #[.int .i64 0, .int .i64 0, .int .i64 0, .int .i64 0, .slice none 0 0]) 5 56 Try.underlying22 hi hz0 hz1 hz2 rfl (by decide) v xs.length (flatX xs) hs hown ⟨gy, 0, none⟩ ys.length cy (flatX ys) hx (flatX_length ys) (fun j u hu => ?_) (fun u hu => ?_) hp (by unfold maxLen; omega) (by omega) hbase _ rfl (fun g cap w' h1 h2 h3 h4 => ?_)
    · rw [add_flat, Nat.zero_add, hrow.own.cellAt j (by have := (List.getElem?_eq_some_iff.1 hu).1; rw [flatX_length] at this; exact this)]
      exact hu
    · exact flatX_one ys u hu
    · have := h (some ⟨g, 0, none⟩) cap w' (by rw [List.length_append, flatX_append]; exact h1) h2 (fun g' hg' => by
        simp only [Value.ownBlock, Option.some.injEq] at hg'
        subst hg'
        exact h3)
      rw [List.length_append] at this
      exact this
/-- Where QueueCuts is, once the first table has been emptied. -/
structure Cs (B : Nat) (w wr : World) (ba ma bb mb : Nat) (la lb : List (Int × Qr)) (va vs : Value) (xa xs : List Ex) : Prop where
  two : Two B wr ba ma bb mb 1000 la lb
  ra : Rw wr B va xa
  rs : Rw wr B vs xs
  na : ∀ g, va.ownBlock = some g → ¬ Own mb lb g
  ns : ∀ g, vs.ownBlock = some g → ¬ Own ma la g ∧ ¬ Own mb lb g
  ne : ∀ g, va.ownBlock = some g → vs.ownBlock ≠ some g
  le : B ≤ wr.heap.size
  chg : Below B w wr
section
variable {D : Nat} {w wr w' : World} {ba ma bb mb : Nat} {la lb lb' : List (Int × Qr)} {va vs : Value} {xa xs ys : List Ex}
theorem Cs.stepB (h : Cs D w wr ba ma bb mb la lb va vs xa xs) (hq : Qs wr w' bb mb 1000 lb lb') : Cs D w w' ba ma bb mb la lb' va vs xa xs := by
  have h71 : ∀ (i : Nat) (c : Array Value), wr.heap[i]? = some (Obj.cells c 71 (0, 0)) → w'.heap[i]? = wr.heap[i]? := fun i c hc => hq.chg.block i (blk_lt hc) (h.two.tb.no71 i c hc)
  refine ⟨h.two.stepB hq h.le, h.ra.keep (fun g hg => hq.chg.block g (h.ra.lt hg) (h.na g hg)) h71, h.rs.keep (fun g hg => hq.chg.block g (h.rs.lt hg) (h.ns g hg).2) h71, fun g hg ho => ?_, fun g hg => ⟨(h.ns g hg).1, fun ho => ?_⟩, h.ne, Nat.le_trans h.le hq.chg.size, h.chg.trans (hq.chg.below h.two.ob h.le)⟩
  · rcases hq.own g ho with h1 | h1
    · exact h.na g hg h1
    · have := h.ra.lt hg; omega
  · rcases hq.own g ho with h1 | h1
    · exact (h.ns g hg).2 h1
    · have := h.rs.lt hg; omega
theorem Cs.app (h : Cs D w wr ba ma bb mb la lb va vs xa xs) {B : Nat} {vy : Value} (hy : Rw wr B vy ys) {v4 : Value} (hg : wr.grownBy w' vs.ownBlock) (ho : w'.ownsRow D 28 5 v4 (xs ++ ys).length (flatX (xs ++ ys))) (hat : ∀ g, v4.ownBlock = some g → vs.ownBlock = some g ∨ g = wr.heap.size) :
    Cs D w w' ba ma bb mb la lb va v4 xa (xs ++ ys) := by
  have hold : ∀ j, j < wr.heap.size → some j ≠ vs.ownBlock → w'.heap[j]? = wr.heap[j]? := hg.block
  have htag : ∀ j (ob : Obj), wr.heap[j]? = some ob → (∀ cs, ob ≠ .cells cs 28 (0, 0)) → w'.heap[j]? = wr.heap[j]? := fun j ob hj hne => by
    refine hold j (blk_lt hj) (fun e => ?_)
    obtain ⟨cs, ht⟩ := row_tag h.rs.own e
    rw [hj] at ht
    injection ht with ht
    exact hne cs ht
  have h71 : ∀ (i : Nat) (c : Array Value), wr.heap[i]? = some (Obj.cells c 71 (0, 0)) → w'.heap[i]? = wr.heap[i]? := fun i c hc => htag i _ hc (by simp)
  refine ⟨h.two.keep (fun i hi => ?_) htag, h.ra.keep (fun g hg' => hold g (h.ra.lt hg') (fun e => h.ne g hg' e.symm)) h71, ⟨ho, fun x hx => ?_⟩, h.na, fun g hg' => ?_, fun g hg' e => ?_, Nat.le_trans h.le hg.size, ?_⟩
  · rcases hi with hi | hi
    · exact hold i (h.two.ta.own_lt i hi) (fun e => (h.ns i e.symm).1 hi)
    · exact hold i (h.two.tb.own_lt i hi) (fun e => (h.ns i e.symm).2 hi)
  · rcases List.mem_append.1 hx with hx | hx
    · exact (h.rs.vec x hx).keep h71
    · exact (hy.vec x hx).keep h71
  · rcases hat g hg' with h1 | h1
    · exact h.ns g h1
    · exact ⟨fun ho' => by have := h.two.ta.own_lt _ ho'; omega, fun ho' => by have := h.two.tb.own_lt _ ho'; omega⟩
  · rcases hat g e with h1 | h1
    · exact h.ne g hg' h1
    · have := h.ra.lt hg'; omega
  · refine ⟨hg.os.trans h.chg.os, hg.tape.trans h.chg.tape, hg.output.trans h.chg.output, by have := hg.size; have := h.chg.size; omega, fun j hj => ?_⟩
    rw [hold j (Nat.lt_of_lt_of_le hj h.le) (fun e => by have := h.rs.ge e.symm; omega)]
    exact h.chg.block j hj
end
end Go.Proofs.Ytchhpgnlfofdcaa.Q
