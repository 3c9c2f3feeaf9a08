/- Walks: put, of one ring. -/
import Derived.Test.YtchhpgnlfofdcaaPut1
import Derived.Outline
set_option linter.unusedVariables false
set_option linter.unusedSimpArgs false
namespace Go.Proofs.Ytchhpgnlfofdcaa.Q
open Go.RowKit Go.Proofs.Ytchhpgnlfofdcaa.Hp Go.Proofs.Ytchhpgnlfofdcaa.Mp
set_option maxRecDepth 100000

/-- A queue with one more event. -/
def putQ (most : Int) (q : Qr) (e : Ev) (ab : Nat) : Qr := if (q.evs.length : Int) = most then { q with ab := ab, evs := q.evs.tail ++ [e], lost := q.lost + 1 } else { q with ab := ab, evs := q.evs ++ [e] }
/-- The five cells of an event in a block. -/
theorem ev_cells {w : World} {g : Nat} {t : TypeId} {e : Ev} {va : Option Addr} {vc : Nat} (h : w.heap[g]? = some (.cells #[.int .i64 e.kind, .int .i64 e.frame, .int .i64 e.id, .int .i64 e.agent, .slice va e.vec.length vc] t (0, 0))) :
    w.cell? ⟨g, 0, none⟩ = some (.int .i64 e.kind) ∧ w.cell? ⟨g, 1, none⟩ = some (.int .i64 e.frame) ∧ w.cell? ⟨g, 2, none⟩ = some (.int .i64 e.id) ∧ w.cell? ⟨g, 3, none⟩ = some (.int .i64 e.agent) ∧ w.cell? ⟨g, 4, none⟩ = some (.slice va e.vec.length vc) :=
  ⟨blk_cell h 0, blk_cell h 1, blk_cell h 2, blk_cell h 3, blk_cell h 4⟩
/-- The old cells where an event is to be stored. -/
theorem RingC.old {w : World} {q : Qr} {cap frm : Nat} {cur : Array Value} (h : RingC w q cap frm cur) {p : Nat} (hp : p < cap) :
    (∃ u, w.cell? ⟨q.ab, p * 5, none⟩ = some u ∧ u.oneCell' = true) ∧ (∃ u, w.cell? ⟨q.ab, p * 5 + 1, none⟩ = some u ∧ u.oneCell' = true) ∧ (∃ u, w.cell? ⟨q.ab, p * 5 + 2, none⟩ = some u ∧ u.oneCell' = true) ∧ (∃ u, w.cell? ⟨q.ab, p * 5 + 3, none⟩ = some u ∧ u.oneCell' = true) ∧ (∃ u, w.cell? ⟨q.ab, p * 5 + 4, none⟩ = some u ∧ u.oneCell' = true) := by
  have key : ∀ r, r < 5 → ∃ u, w.cell? ⟨q.ab, p * 5 + r, none⟩ = some u ∧ u.oneCell' = true := fun r hr => by
    obtain ⟨u, hu, h1⟩ := h.one (p * 5 + r) (by rw [h.size]; omega)
    exact ⟨u, (blk_cell h.ab _).trans hu, h1⟩
  exact ⟨key 0 (by omega), key 1 (by omega), key 2 (by omega), key 3 (by omega), key 4 (by omega)⟩

set_option maxHeartbeats 4000000 in
theorem put_room (most : Int) (q : Qr) (cap frm : Nat) (e : Ev) (va : Option Addr) (vc : Nat) (w : World) (h : RingAt w most q cap frm) (hm : 1 ≤ most) (hlen : q.evs.length ≤ 900) (hl : q.lost < 100000) (hv : VAt w va e.vec) (hlt : (q.evs.length : Int) < most) :
    Calls Try.prog 20 #[.pointer (some ⟨q.rb, 0, none⟩), .agg #[.int .i64 e.kind, .int .i64 e.frame, .int .i64 e.id, .int .i64 e.agent, .slice va e.vec.length vc], .int .i64 most] w (Putted most q (fun ab => { q with ab := ab, evs := q.evs ++ [e] }) w) := by
  have hB := (Below.refl _ w).alloc (Nat.le_refl _) (.cells #[.int .i64 e.kind, .int .i64 e.frame, .int .i64 e.id, .int .i64 e.agent, .slice va e.vec.length vc] 28)
  have hr0 : RingAt (w.alloc (.cells #[.int .i64 e.kind, .int .i64 e.frame, .int .i64 e.id, .int .i64 e.agent, .slice va e.vec.length vc] 28)) most q cap frm := h.keep (fun i hi => hB.block i (h.lt i hi)) (fun i c hc => hB.block i (blk_lt hc))
  have hv0 : VAt (w.alloc (.cells #[.int .i64 e.kind, .int .i64 e.frame, .int .i64 e.id, .int .i64 e.agent, .slice va e.vec.length vc] 28)) va e.vec := hv.keep (fun i c hc => hB.block i (blk_lt hc))
  have HG := Lib.hid (grow_calls most q cap frm _ hr0 hm hlen)
  have HE := Lib.hid (blk_new w (.cells #[.int .i64 e.kind, .int .i64 e.frame, .int .i64 e.id, .int .i64 e.agent, .slice va e.vec.length vc] 28))
  have HR := Lib.hid h
  have HV := Lib.hid hv0
  have HC := Lib.hid ((Chg.refl (Rb q) w).alloc (.cells #[.int .i64 e.kind, .int .i64 e.frame, .int .i64 e.id, .int .i64 e.agent, .slice va e.vec.length vc] 28))
  have HM := Lib.hid (And.intro hm (And.intro hlen (And.intro hl hlt)))
  clear hB hr0 hv0 h hm hlen hl hv hlt
  go_enter Try.func20, Try.ntmps20
  go_wp2_with fail
  refine HG.out.mono ?_
  rintro e' w1 ⟨rfl, ab', cap', frm', hr1, hroom, hab, hc1⟩
  have hlt' : q.evs.length < cap' := by
    have := HM.out.2.2.2
    rcases hroom with h | h <;> omega
  obtain ⟨cur, hC⟩ := hr1.cells (by omega)
  have HC1 := Lib.hid hC
  have hrbn : w.heap.size ≠ q.rb := Nat.ne_of_gt HR.out.lt_rb
  have HE1 := Lib.hid (hc1.blk HE.out (fun h => hrbn h))
  have HV1 := Lib.hid (HV.out.keep (w' := w1) (fun i c hc => hc1.block i (blk_lt hc) (fun h => by
    obtain ⟨cs, ht⟩ := HR.out.tag_rb
    have ht2 := blk_alloc (o' := .cells #[.int .i64 e.kind, .int .i64 e.frame, .int .i64 e.id, .int .i64 e.agent, .slice va e.vec.length vc] 28) ht
    rw [h, ht2] at hc; simp at hc)))
  have HR1 := Lib.hid hr1
  have HAB := Lib.hid (show ab' = q.ab ∨ w.heap.size ≤ ab' by rcases hab with h | h; exact .inl h; exact .inr (by simp at h; omega))
  have HCH := Lib.hid (HC.out.trans (hc1.mono (fun i hi => .inl hi)))
  have HLT := Lib.hid hlt'
  clear hr1 hroom hab hc1 hlt' hC hrbn HG HE HV HC
  have c0 := HC1.out.c0
  have c1 := HC1.out.c1
  have c2 := HC1.out.c2
  simp only at c0 c1 c2
  have q1 : ((q.evs.length : Int) == (cap' : Int)) = false := by rw [beq_eq_false_iff_ne]; have := HLT.out; omega
  go_wp2_with fail
  go_quiet (fail)
  have HC2 := Lib.hid (HC1.out.drewN nq)
  have HE2 : Hid ((w1.drewN nq).heap[w.heap.size]? = _) := HE1
  have HV2 := Lib.hid (HV1.out.keep (w' := w1.drewN nq) (fun _ _ _ => rfl))
  have HCH2 := Lib.hid (HCH.out.drewN nq)
  clear c0 c1 c2 q1 HC1 HE1 HV1 HCH
  go_wp2_with fail
  generalize w1.drewN nq = w2 at *
  have c0 := HC2.out.c0
  have c1 := HC2.out.c1
  have c2 := HC2.out.c2
  simp only at c0 c1 c2
  obtain ⟨p, hp⟩ : ∃ p, p = (frm' + q.evs.length) % cap' := ⟨_, rfl⟩
  have hpl : p < cap' := by rw [hp]; exact Nat.mod_lt _ (by have := HLT.out; omega)
  have s1 : IntKind.i64.wrap ((frm' : Int) + (q.evs.length : Int)) = (frm' : Int) + (q.evs.length : Int) := IntWalk.i64_in _ (by have := HR1.out.cap; have := HC2.out.flt; have := HM.out.2.1; omega)
  have s2 : ((frm' : Int) + (q.evs.length : Int)).tmod (cap' : Int) = (p : Int) := by
    rw [Int.tmod_eq_emod_of_nonneg (by omega), hp, Int.natCast_emod, Int.natCast_add]
  have s3 : ((frm' : Int) + (q.evs.length : Int)) % (cap' : Int) = (p : Int) := by rw [hp, Int.natCast_emod, Int.natCast_add]
  have s4 : IntKind.i64.wrap (p : Int) = (p : Int) := IntWalk.i64_in _ (by have := HR1.out.cap; omega)
  have s5 : ((cap' : Int) == 0) = false := by rw [beq_eq_false_iff_ne]; have := HLT.out; omega
  have s6 : ¬ cap' = 0 := by have := HLT.out; omega
  have s7 : (0 : Int) ≤ (p : Int) := by omega
  have s8 : (p : Int) < (cap' : Int) := by omega
  have HP := Lib.hid (And.intro hp hpl)
  obtain ⟨e0, e1, e2, e3, e4⟩ := ev_cells HE2.out
  clear hp hpl
  go_still_tail 21, (by kernel_rfl)
  change wpList _ _ _ _ _ w2.drew
  have HC3 := Lib.hid HC2.out.drew
  have HV3 := Lib.hid (HV2.out.keep (w' := w2.drew) (fun _ _ _ => rfl))
  have HCH3 := Lib.hid HCH2.out.drew
  clear c0 c1 c2 e0 e1 e2 e3 e4 s1 s2 s3 s4 s5 s6 s7 s8 HC2 HE2 HV2 HCH2
  generalize w2.drew = w3 at *
  have c0 := HC3.out.c0
  have c1 := HC3.out.c1
  have c2 := HC3.out.c2
  obtain ⟨⟨u0, v0, o0⟩, ⟨u1, v1, o1⟩, ⟨u2, v2, o2⟩, ⟨u3, v3, o3⟩, ⟨u4, v4, o4⟩⟩ := HC3.out.old HP.out.2
  have f0 := fun j => blk_frozen HC3.out.ab j
  have f1 := fun j => blk_frozen HC3.out.rb j
  have n1 : q.rb ≠ ab' := HC3.out.ne
  have n2 : ab' ≠ q.rb := Ne.symm n1
  simp only at c0 c1 c2 v0 v1 v2 v3 v4 f0 f1
  have s1 : IntKind.i64.wrap ((q.evs.length : Int) + 1) = (q.evs.length : Int) + 1 := IntWalk.i64_in _ (by have := HM.out.2.1; omega)
  go_wp2
  go_end0
  have hpush := HC3.out.push HLT.out e va vc HV3.out
  simp only at hpush
  rw [← HP.out.1] at hpush
  have hS : Rb q ab' ∨ w.heap.size ≤ ab' := HAB.out.imp (fun h => .inr h) id
  refine ⟨rfl, ab', cap', frm', hpush.ring HR1.out.most HR1.out.cap HR1.out.lost, HAB.out, ?_⟩
  exact (Chg.putE HCH3.out hS (p * 5) e va vc).setCell (.inl (.inl rfl)) _
end Go.Proofs.Ytchhpgnlfofdcaa.Q
