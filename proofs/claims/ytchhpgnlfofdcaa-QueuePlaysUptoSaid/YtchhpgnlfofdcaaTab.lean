/- Queues in memory: a block, a map of rings; a ring, its array. -/
import Derived.Test.YtchhpgnlfofdcaaDat
set_option linter.unusedVariables false
set_option linter.unusedSimpArgs false
namespace Go.Proofs.Ytchhpgnlfofdcaa.Q
open Go.RowKit Go.Proofs.Ytchhpgnlfofdcaa.Hp Go.Proofs.Ytchhpgnlfofdcaa.Mp

/-- A queue: its ring's block, its array's block, its events, how many are lost. -/
structure Qr where
  rb : Nat
  ab : Nat
  evs : List Ev
  lost : Int
def encQ (q : Qr) : Value := .pointer (some ⟨q.rb, 0, none⟩)
/-- An event in an array. -/
def EvIn (w : World) (cur : Array Value) (o : Nat) (e : Ev) : Prop := ∃ va vc, (∀ i u, (cellsE e va vc)[i]? = some u → cur[o + i]? = some u) ∧ VAt w va e.vec
/-- A ring in memory: its room, and where it begins. -/
structure RingAt (w : World) (most : Int) (q : Qr) (cap frm : Nat) : Prop where
  blk : ∃ ea, w.heap[q.rb]? = some (.cells #[.slice ea cap cap, .int .i64 frm, .int .i64 q.evs.length, .int .i64 q.lost] 58 (0, 0)) ∧
    ((cap = 0 ∧ ea = none ∧ q.ab = q.rb ∧ frm = 0 ∧ q.evs = []) ∨
     (0 < cap ∧ ea = some ⟨q.ab, 0, none⟩ ∧ frm < cap ∧ q.evs.length ≤ cap ∧ ∃ cur : Array Value, w.heap[q.ab]? = some (.cells cur 28 (0, 0)) ∧ cur.size = cap * 5 ∧ (∀ i, i < cur.size → ∃ u, cur[i]? = some u ∧ u.oneCell' = true) ∧ ∀ i (hi : i < q.evs.length), EvIn w cur ((frm + i) % cap * 5) q.evs[i]))
  most : (cap : Int) ≤ most
  cap : cap ≤ 2001
  lost : 0 ≤ q.lost ∧ q.lost ≤ 100000
/-- The blocks that a ring writes. -/
def Rb (q : Qr) : Nat → Prop := fun i => i = q.rb ∨ i = q.ab
section
variable {w w' : World} {most : Int} {q : Qr} {cap frm : Nat}
theorem RingAt.lt_rb (h : RingAt w most q cap frm) : q.rb < w.heap.size := by obtain ⟨ea, h1, _⟩ := h.blk; exact blk_lt h1
theorem RingAt.tag_rb (h : RingAt w most q cap frm) : ∃ cs, w.heap[q.rb]? = some (.cells cs 58 (0, 0)) := by obtain ⟨ea, h1, _⟩ := h.blk; exact ⟨_, h1⟩
theorem RingAt.tag_ab (h : RingAt w most q cap frm) : (q.ab = q.rb) ∨ ∃ cs, w.heap[q.ab]? = some (.cells cs 28 (0, 0)) := by
  obtain ⟨ea, h1, h2 | h2⟩ := h.blk
  · exact .inl h2.2.2.1
  · obtain ⟨_, _, _, _, cur, h3, _⟩ := h2; exact .inr ⟨_, h3⟩
theorem RingAt.lt_ab (h : RingAt w most q cap frm) : q.ab < w.heap.size := by
  rcases h.tag_ab with h1 | ⟨cs, h1⟩
  · rw [h1]; exact h.lt_rb
  · exact blk_lt h1
theorem RingAt.lt (h : RingAt w most q cap frm) : ∀ i, Rb q i → i < w.heap.size := fun i hi => by
  rcases hi with rfl | rfl
  · exact h.lt_rb
  · exact h.lt_ab
theorem RingAt.no71 (h : RingAt w most q cap frm) : ∀ (i : Nat) (cur : Array Value), w.heap[i]? = some (Obj.cells cur 71 (0, 0)) → ¬ Rb q i := fun i cur hc hi => by
  obtain ⟨cs, h1⟩ := h.tag_rb
  rcases hi with rfl | rfl
  · rw [h1] at hc; simp at hc
  · rcases h.tag_ab with h2 | ⟨cs2, h2⟩
    · rw [h2, h1] at hc; simp at hc
    · rw [h2] at hc; simp at hc
/-- A ring whose blocks, and whose events' parts, are as they were. -/
theorem RingAt.keep (h : RingAt w most q cap frm) (h1 : ∀ i, Rb q i → w'.heap[i]? = w.heap[i]?) (h2 : ∀ (i : Nat) (cur : Array Value), w.heap[i]? = some (Obj.cells cur 71 (0, 0)) → w'.heap[i]? = w.heap[i]?) : RingAt w' most q cap frm := by
  obtain ⟨⟨ea, e1, e2⟩, hm, hc, hl⟩ := h
  refine ⟨⟨ea, (h1 _ (.inl rfl)).trans e1, ?_⟩, hm, hc, hl⟩
  rcases e2 with e2 | ⟨f1, f2, f3, f4, cur, f5, f6, f7, f8⟩
  · exact .inl e2
  · refine .inr ⟨f1, f2, f3, f4, cur, (h1 _ (.inr rfl)).trans f5, f6, f7, fun i hi => ?_⟩
    obtain ⟨va, vc, g1, g2⟩ := f8 i hi
    exact ⟨va, vc, g1, g2.keep h2⟩
end

/-- Queues at block b, their map at block m. -/
structure Tq (w : World) (b m : Nat) (most : Int) (l : List (Int × Qr)) : Prop where
  blk : w.heap[b]? = some (.cells #[.int .i64 most, .map (some m)] 35 (0, 0))
  map : IsMap encQ w m l
  nd : (l.map (·.1)).Nodup
  ring : ∀ k q, mget l k = some q → ∃ cap frm, RingAt w most q cap frm
  sep : ∀ k1 k2 q1 q2, mget l k1 = some q1 → mget l k2 = some q2 → k1 ≠ k2 → q1.rb ≠ q2.rb ∧ q1.ab ≠ q2.ab
/-- The blocks that queues write. -/
def Own (m : Nat) (l : List (Int × Qr)) : Nat → Prop := fun i => i = m ∨ ∃ k q, mget l k = some q ∧ Rb q i
section
variable {w w' : World} {b m : Nat} {most : Int} {l l' : List (Int × Qr)}
theorem IsMap.heap {enc : Qr → Value} (h : IsMap enc w m l) (e : w'.heap[m]? = w.heap[m]?) : IsMap enc w' m l := by
  obtain ⟨es, clk, hb, hr⟩ := h
  exact ⟨es, clk, e.trans hb, hr⟩
theorem Tq.lt_b (h : Tq w b m most l) : b < w.heap.size := blk_lt h.blk
theorem Tq.lt_m (h : Tq w b m most l) : m < w.heap.size := by
  obtain ⟨es, clk, hb, _⟩ := h.map
  exact blk_lt hb
theorem Tq.own_lt (h : Tq w b m most l) : ∀ i, Own m l i → i < w.heap.size := fun i hi => by
  rcases hi with rfl | ⟨k, q, hk, hi⟩
  · exact h.lt_m
  · obtain ⟨cap, frm, hr⟩ := h.ring k q hk
    exact hr.lt i hi
theorem Tq.b_not_own (h : Tq w b m most l) : ¬ Own m l b := fun hb => by
  rcases hb with rfl | ⟨k, q, hk, hi⟩
  · obtain ⟨es, clk, hm, _⟩ := h.map
    have := h.blk
    rw [hm] at this
    simp at this
  · obtain ⟨cap, frm, hr⟩ := h.ring k q hk
    obtain ⟨cs, h1⟩ := hr.tag_rb
    have hbk := h.blk
    rcases hi with rfl | rfl
    · rw [h1] at hbk; simp at hbk
    · rcases hr.tag_ab with h2 | ⟨cs2, h2⟩
      · rw [h2, h1] at hbk; simp at hbk
      · rw [h2] at hbk; simp at hbk
theorem Tq.no71 (h : Tq w b m most l) : ∀ (i : Nat) (cur : Array Value), w.heap[i]? = some (Obj.cells cur 71 (0, 0)) → ¬ Own m l i := fun i cur hc hi => by
  rcases hi with rfl | ⟨k, q, hk, hi⟩
  · obtain ⟨es, clk, hm, _⟩ := h.map
    rw [hm] at hc
    simp at hc
  · obtain ⟨cap, frm, hr⟩ := h.ring k q hk
    exact hr.no71 i cur hc hi
/-- Queues whose blocks are as they were. -/
theorem Tq.keep (h : Tq w b m most l) (hb : w'.heap[b]? = w.heap[b]?) (h1 : ∀ i, Own m l i → w'.heap[i]? = w.heap[i]?) (h2 : ∀ (i : Nat) (cur : Array Value), w.heap[i]? = some (Obj.cells cur 71 (0, 0)) → w'.heap[i]? = w.heap[i]?) : Tq w' b m most l :=
  ⟨hb.trans h.blk, IsMap.heap h.map (h1 m (.inl rfl)), h.nd, fun k q hk => by
    obtain ⟨cap, frm, hr⟩ := h.ring k q hk
    exact ⟨cap, frm, hr.keep (fun i hi => h1 i (.inr ⟨k, q, hk, hi⟩)) h2⟩, h.sep⟩
theorem Tq.below (h : Tq w b m most l) (hb : Below w.heap.size w w') : Tq w' b m most l :=
  h.keep (hb.block b h.lt_b) (fun i hi => hb.block i (h.own_lt i hi)) (fun i cur hc => hb.block i (blk_lt hc))
theorem Tq.cell0 (h : Tq w b m most l) : w.cell? ⟨b, 0, none⟩ = some (.int .i64 most) := blk_cell h.blk 0
theorem Tq.cell1 (h : Tq w b m most l) : w.cell? ⟨b, 1, none⟩ = some (.map (some m)) := blk_cell h.blk 1
theorem mput_enc {l : List (Int × Qr)} {k : Int} {q q' : Qr} (h : mget l k = some q) (he : encQ q' = encQ q) : (mput l k q').map (fun p => (Value.int .i64 p.1, encQ p.2)) = l.map fun p => (Value.int .i64 p.1, encQ p.2) := by
  induction l with
  | nil => simp [mget] at h
  | cons p l ih =>
    simp only [mget] at h
    simp only [mput]
    split at h
    · rename_i e
      injection h with h
      rw [if_pos e, List.map_cons, List.map_cons, he, ← h, e]
    · rename_i e
      rw [if_neg e, List.map_cons, List.map_cons, ih h]
/-- One ring has changed. -/
theorem Tq.one {k : Int} {q q' : Qr} {cap frm : Nat} (h : Tq w b m most l) (hk : mget l k = some q) (hr : RingAt w' most q' cap frm) (hrb : q'.rb = q.rb) (hab : q'.ab = q.ab ∨ w.heap.size ≤ q'.ab) (hc : Chg (Rb q) w w') :
    Tq w' b m most (mput l k q') ∧ (∀ i, Own m (mput l k q') i → Own m l i ∨ w.heap.size ≤ i) := by
  obtain ⟨c0, f0, hr0⟩ := h.ring k q hk
  have hbn : ¬ Rb q b := fun hb => h.b_not_own (.inr ⟨k, q, hk, hb⟩)
  have hmn : ¬ Rb q m := fun hm => by
    obtain ⟨es, clk, hmb, _⟩ := h.map
    obtain ⟨cs, h1⟩ := hr0.tag_rb
    rcases hm with rfl | rfl
    · rw [h1] at hmb; simp at hmb
    · rcases hr0.tag_ab with h2 | ⟨cs2, h2⟩
      · rw [h2, h1] at hmb; simp at hmb
      · rw [h2] at hmb; simp at hmb
  have hoth : ∀ k2 q2, mget l k2 = some q2 → k2 ≠ k → ∀ i, Rb q2 i → ¬ Rb q i := fun k2 q2 hk2 hne i h2 h1 => by
    obtain ⟨c2, f2, hr2⟩ := h.ring k2 q2 hk2
    obtain ⟨s1, s2⟩ := h.sep k2 k q2 q hk2 hk hne
    obtain ⟨cs, t1⟩ := hr0.tag_rb
    obtain ⟨cs2, t2⟩ := hr2.tag_rb
    rcases h2 with e2 | e2 <;> rcases h1 with e1 | e1
    · exact s1 (by rw [← e2, ← e1])
    · rcases hr0.tag_ab with h3 | ⟨cs3, h3⟩
      · exact s1 (by rw [← e2, e1, h3])
      · rw [← e1, e2] at h3; rw [t2] at h3; simp at h3
    · rcases hr2.tag_ab with h3 | ⟨cs3, h3⟩
      · exact s1 (by rw [← e1, e2, h3])
      · rw [← e2, e1] at h3; rw [t1] at h3; simp at h3
    · exact s2 (by rw [← e2, ← e1])
  refine ⟨⟨(hc.block b h.lt_b hbn).trans h.blk, ?_, nodup_mput h.nd k q', ?_, ?_⟩, ?_⟩
  · obtain ⟨es, clk, hm1, hm2, hm3⟩ := h.map
    refine ⟨es, clk, hc.blk hm1 hmn, ?_, hm3⟩
    unfold Rep at hm2 ⊢
    rw [hm2, mput_enc hk (by unfold encQ; rw [hrb])]
  · intro k2 q2 hk2
    rw [mget_mput] at hk2
    split at hk2
    · injection hk2 with hk2; rw [← hk2]; exact ⟨cap, frm, hr⟩
    · rename_i hne
      obtain ⟨c2, f2, hr2⟩ := h.ring k2 q2 hk2
      exact ⟨c2, f2, hr2.keep (fun i hi => hc.block i (hr2.lt i hi) (hoth k2 q2 hk2 (Ne.symm hne) i hi)) (fun i cur hcur => hc.block i (blk_lt hcur) (hr0.no71 i cur hcur))⟩
  · have key : ∀ k2 q2, mget l k2 = some q2 → k2 ≠ k → q'.rb ≠ q2.rb ∧ q'.ab ≠ q2.ab := fun k2 q2 hk2 hne => by
      obtain ⟨s1, s2⟩ := h.sep k2 k q2 q hk2 hk hne
      obtain ⟨c2, f2, hr2⟩ := h.ring k2 q2 hk2
      refine ⟨by rw [hrb]; exact Ne.symm s1, ?_⟩
      rcases hab with e | e
      · rw [e]; exact Ne.symm s2
      · have := hr2.lt_ab; omega
    intro k1 k2 q1 q2 h1 h2 hne
    rw [mget_mput] at h1 h2
    split at h1 <;> split at h2
    · rename_i e1 e2; exact absurd (e1.symm.trans e2) hne
    · rename_i e1 e2
      injection h1 with h1; rw [← h1]
      exact key k2 q2 h2 (fun e => e2 e.symm)
    · rename_i e1 e2
      injection h2 with h2; rw [← h2]
      have := key k1 q1 h1 (fun e => e1 e.symm)
      exact ⟨Ne.symm this.1, Ne.symm this.2⟩
    · exact h.sep k1 k2 q1 q2 h1 h2 hne
  · intro i hi
    rcases hi with rfl | ⟨k2, q2, hk2, hi⟩
    · exact .inl (.inl rfl)
    · rw [mget_mput] at hk2
      split at hk2
      · injection hk2 with hk2
        rw [← hk2] at hi
        rcases hi with e | e
        · exact .inl (.inr ⟨k, q, hk, .inl (by rw [e, hrb])⟩)
        · rcases hab with e2 | e2
          · exact .inl (.inr ⟨k, q, hk, .inr (by rw [e, e2])⟩)
          · exact .inr (by rw [e]; exact e2)
      · exact .inl (.inr ⟨k2, q2, hk2, hi⟩)
end
theorem zero54 (w : World) : (zeroValue 54).run Try.prog w = .ok (.pointer none) w := by kernel_rfl
end Go.Proofs.Ytchhpgnlfofdcaa.Q
