/- Walks: put, into a full ring. -/
import Derived.Test.YtchhpgnlfofdcaaPut2
import Derived.Outline
set_option linter.unusedVariables false
set_option linter.unusedSimpArgs false
namespace Go.Proofs.Ytchhpgnlfofdcaa.Q
open Go.RowKit Go.Proofs.Ytchhpgnlfofdcaa.Hp Go.Proofs.Ytchhpgnlfofdcaa.Mp
set_option maxRecDepth 100000

set_option maxHeartbeats 4000000 in
theorem put_full (most : Int) (q : Qr) (cap frm : Nat) (e : Ev) (va : Option Addr) (vc : Nat) (w : World) (h : RingAt w most q cap frm) (hm : 1 ≤ most) (hlen : q.evs.length ≤ 900) (hl : q.lost < 100000) (hv : VAt w va e.vec) (hfull : (q.evs.length : Int) = most) (x : Ev) (rest : List Ev) (hx : q.evs = x :: rest) :
    Calls Try.prog 20 #[.pointer (some ⟨q.rb, 0, none⟩), .agg #[.int .i64 e.kind, .int .i64 e.frame, .int .i64 e.id, .int .i64 e.agent, .slice va e.vec.length vc], .int .i64 most] w (Putted most q (fun ab => { q with ab := ab, evs := rest ++ [e], lost := q.lost + 1 }) w) := by
  have hB := (Below.refl _ w).alloc (Nat.le_refl _) (.cells #[.int .i64 e.kind, .int .i64 e.frame, .int .i64 e.id, .int .i64 e.agent, .slice va e.vec.length vc] 28)
  have hr0 : RingAt (w.alloc (.cells #[.int .i64 e.kind, .int .i64 e.frame, .int .i64 e.id, .int .i64 e.agent, .slice va e.vec.length vc] 28)) most q cap frm := h.keep (fun i hi => hB.block i (h.lt i hi)) (fun i c hc => hB.block i (blk_lt hc))
  have hv0 : VAt (w.alloc (.cells #[.int .i64 e.kind, .int .i64 e.frame, .int .i64 e.id, .int .i64 e.agent, .slice va e.vec.length vc] 28)) va e.vec := hv.keep (fun i c hc => hB.block i (blk_lt hc))
  have HG := Lib.hid (grow_calls most q cap frm _ hr0 hm hlen)
  have HE := Lib.hid (blk_new w (.cells #[.int .i64 e.kind, .int .i64 e.frame, .int .i64 e.id, .int .i64 e.agent, .slice va e.vec.length vc] 28))
  have HR := Lib.hid h
  have HV := Lib.hid hv0
  have HC := Lib.hid ((Chg.refl (Rb q) w).alloc (.cells #[.int .i64 e.kind, .int .i64 e.frame, .int .i64 e.id, .int .i64 e.agent, .slice va e.vec.length vc] 28))
  have HM := Lib.hid (And.intro hm (And.intro hlen (And.intro hl (And.intro hfull hx))))
  clear hB hr0 hv0 h hm hlen hl hv hfull hx
  go_enter Try.func20, Try.ntmps20
  go_wp2_with fail
  refine HG.out.mono ?_
  rintro e' w1 ⟨rfl, ab', cap', frm', hr1, hroom, hab, hc1⟩
  have hlt' : q.evs.length = cap' ∧ 0 < cap' := by
    have h1 := HM.out.2.2.2.1
    have h2 := HM.out.1
    have h3 := hr1.most
    rcases hroom with h | h
    · omega
    · have h4 : q.evs.length ≤ cap' := by
        obtain ⟨ea, _, ⟨h5, _⟩ | ⟨_, _, _, h5, _⟩⟩ := hr1.blk
        · omega
        · exact h5
      omega
  obtain ⟨cur, hC⟩ := hr1.cells (by omega)
  have HC1 := Lib.hid hC
  have hrbn : w.heap.size ≠ q.rb := Nat.ne_of_gt HR.out.lt_rb
  have HE1 := Lib.hid (hc1.blk HE.out (fun h => hrbn h))
  have HV1 := Lib.hid (HV.out.keep (w' := w1) (fun i c hc => hc1.block i (blk_lt hc) (fun h => by
    obtain ⟨cs, ht⟩ := HR.out.tag_rb
    have ht2 := blk_alloc (o' := .cells #[.int .i64 e.kind, .int .i64 e.frame, .int .i64 e.id, .int .i64 e.agent, .slice va e.vec.length vc] 28) ht
    rw [h, ht2] at hc; simp at hc)))
  have HR1 := Lib.hid hr1
  have HAB := Lib.hid (show ab' = q.ab ∨ w.heap.size ≤ ab' by rcases hab with h | h; exact .inl h; exact .inr (by simp at h; omega))
  have HCH := Lib.hid (HC.out.trans (hc1.mono (fun i hi => .inl hi)))
  have HLT := Lib.hid hlt'
  clear hr1 hroom hab hc1 hlt' hC hrbn HG HE HV HC
  have c0 := HC1.out.c0
  have c1 := HC1.out.c1
  have c2 := HC1.out.c2
  simp only at c0 c1 c2
  have q1 : ((q.evs.length : Int) == (cap' : Int)) = true := by rw [beq_iff_eq]; have := HLT.out; omega
  go_wp2_with fail
  go_quiet (fail)
  have HC2 := Lib.hid (HC1.out.drewN nq)
  have HE2 : Hid ((w1.drewN nq).heap[w.heap.size]? = _) := HE1
  have HV2 := Lib.hid (HV1.out.keep (w' := w1.drewN nq) (fun _ _ _ => rfl))
  have HCH2 := Lib.hid (HCH.out.drewN nq)
  clear c0 c1 c2 q1 HC1 HE1 HV1 HCH
  go_wp2_with fail
  generalize w1.drewN nq = w2 at *
  have c0 := HC2.out.c0
  have c1 := HC2.out.c1
  have c2 := HC2.out.c2
  simp only at c0 c1 c2
  obtain ⟨p0, hp0⟩ : ∃ p0, p0 = (frm' + 1) % cap' := ⟨_, rfl⟩
  have s1 : IntKind.i64.wrap ((frm' : Int) + 1) = (frm' : Int) + 1 := IntWalk.i64_in _ (by have := HR1.out.cap; have := HC2.out.flt; omega)
  have s2 : ((frm' : Int) + 1).tmod (cap' : Int) = (p0 : Int) := by
    rw [Int.tmod_eq_emod_of_nonneg (by omega), hp0, Int.natCast_emod, Int.natCast_add]; rfl
  have s3 : ((frm' : Int) + 1) % (cap' : Int) = (p0 : Int) := by rw [hp0, Int.natCast_emod, Int.natCast_add]; rfl
  have s6 : ¬ cap' = 0 := by have := HLT.out; omega
  have HP0 := Lib.hid hp0
  clear hp0
  go_still_tail 14, (by kernel_rfl)
  change wpList _ _ _ _ _ w2.drew
  have HC3 := Lib.hid HC2.out.drew
  have HV3 := Lib.hid (HV2.out.keep (w' := w2.drew) (fun _ _ _ => rfl))
  have HCH3 := Lib.hid HCH2.out.drew
  have HE3 : Hid (w2.drew.heap[w.heap.size]? = _) := HE2
  clear c0 c1 c2 s1 s2 s3 s6 HC2 HV2 HCH2 HE2
  generalize w2.drew = w3 at *
  have c1 := HC3.out.c1
  have c2 := HC3.out.c2
  have c3 := HC3.out.c3
  simp only at c1 c2 c3
  have hrl : (q.evs.length : Int) = (rest.length : Int) + 1 := by rw [HM.out.2.2.2.2]; simp
  have f1 := fun j => blk_frozen HC3.out.rb j
  simp only at f1
  have s1 : IntKind.i64.wrap ((q.evs.length : Int) - 1) = (rest.length : Int) := by rw [hrl, Int.add_sub_cancel]; exact IntWalk.i64_in _ (by have := HM.out.2.1; rw [HM.out.2.2.2.2] at this; simp at this; omega)
  have s2 : IntKind.i64.wrap (q.lost + 1) = q.lost + 1 := IntWalk.i64_in _ (by have := HM.out.2.2.1; have := HR1.out.lost; simp only at this; omega)
  clear hrl
  go_wp2_with fail
  have hdrop := HC3.out.drop HM.out.2.2.2.2
  rw [← HP0.out] at hdrop
  have HC2 := Lib.hid hdrop
  have HV2 : Hid (VAt (((w3.setCell ⟨q.rb, 1, none⟩ (.int .i64 (p0 : Int))).setCell ⟨q.rb, 2, none⟩ (.int .i64 rest.length)).setCell ⟨q.rb, 3, none⟩ (.int .i64 (q.lost + 1))) va e.vec) := by
    refine Lib.hid (HV3.out.keep (fun i c hc => ?_))
    have := (HC3.out.no71 i c hc).1
    rw [hc]
    exact blk_far (blk_far (blk_far hc this _) this _) this _
  have HCH2 := Lib.hid (((HCH3.out.setCell (p := ⟨q.rb, 1, none⟩) (.inl (.inl rfl)) (.int .i64 (p0 : Int))).setCell (p := ⟨q.rb, 2, none⟩) (.inl (.inl rfl)) (.int .i64 rest.length)).setCell (p := ⟨q.rb, 3, none⟩) (.inl (.inl rfl)) (.int .i64 (q.lost + 1)))
  have hrbn : w.heap.size ≠ q.rb := Nat.ne_of_gt HR.out.lt_rb
  have HE2 := Lib.hid (blk_far (p := ⟨q.rb, 3, none⟩) (blk_far (p := ⟨q.rb, 2, none⟩) (blk_far (p := ⟨q.rb, 1, none⟩) HE3.out hrbn (.int .i64 (p0 : Int))) hrbn (.int .i64 rest.length)) hrbn (.int .i64 (q.lost + 1)))
  have HLR := Lib.hid (show rest.length < cap' ∧ rest.length ≤ 900 by have h1 := HM.out.2.1; have h2 := HM.out.2.2.2.2; have h3 := HLT.out; rw [h2] at h1 h3; simp only [List.length_cons] at h1 h3; omega)
  clear c1 c2 c3 f1 s1 s2 hdrop hrbn HC3 HV3 HCH3 HE3
  generalize ((w3.setCell ⟨q.rb, 1, none⟩ (.int .i64 (p0 : Int))).setCell ⟨q.rb, 2, none⟩ (.int .i64 rest.length)).setCell ⟨q.rb, 3, none⟩ (.int .i64 (q.lost + 1)) = w2 at *
  have c0 := HC2.out.c0
  have c1 := HC2.out.c1
  have c2 := HC2.out.c2
  simp only at c0 c1 c2
  obtain ⟨p, hp⟩ : ∃ p, p = (p0 + rest.length) % cap' := ⟨_, rfl⟩
  have hpl : p < cap' := by rw [hp]; exact Nat.mod_lt _ (by have := HLR.out; omega)
  have s1 : IntKind.i64.wrap ((p0 : Int) + (rest.length : Int)) = (p0 : Int) + (rest.length : Int) := IntWalk.i64_in _ (by have := HR1.out.cap; have := HC2.out.flt; have := HLR.out; omega)
  have s2 : ((p0 : Int) + (rest.length : Int)).tmod (cap' : Int) = (p : Int) := by
    rw [Int.tmod_eq_emod_of_nonneg (by omega), hp, Int.natCast_emod, Int.natCast_add]
  have s3 : ((p0 : Int) + (rest.length : Int)) % (cap' : Int) = (p : Int) := by rw [hp, Int.natCast_emod, Int.natCast_add]
  have s4 : IntKind.i64.wrap (p : Int) = (p : Int) := IntWalk.i64_in _ (by have := HR1.out.cap; omega)
  have s5 : ((cap' : Int) == 0) = false := by rw [beq_eq_false_iff_ne]; have := HLR.out; omega
  have s6 : ¬ cap' = 0 := by have := HLR.out; omega
  have s7 : (0 : Int) ≤ (p : Int) := by omega
  have s8 : (p : Int) < (cap' : Int) := by omega
  have HP := Lib.hid (And.intro hp hpl)
  obtain ⟨e0, e1, e2, e3, e4⟩ := ev_cells HE2.out
  clear hp hpl
  go_still_tail 21, (by kernel_rfl)
  change wpList _ _ _ _ _ w2.drew
  have HC3 := Lib.hid HC2.out.drew
  have HV3 := Lib.hid (HV2.out.keep (w' := w2.drew) (fun _ _ _ => rfl))
  have HCH3 := Lib.hid HCH2.out.drew
  clear c0 c1 c2 e0 e1 e2 e3 e4 s1 s2 s3 s4 s5 s6 s7 s8 HC2 HE2 HV2 HCH2
  generalize w2.drew = w3 at *
  have c0 := HC3.out.c0
  have c1 := HC3.out.c1
  have c2 := HC3.out.c2
  obtain ⟨⟨u0, v0, o0⟩, ⟨u1, v1, o1⟩, ⟨u2, v2, o2⟩, ⟨u3, v3, o3⟩, ⟨u4, v4, o4⟩⟩ := HC3.out.old HP.out.2
  have f0 := fun j => blk_frozen HC3.out.ab j
  have f1 := fun j => blk_frozen HC3.out.rb j
  have n1 : q.rb ≠ ab' := HC3.out.ne
  have n2 : ab' ≠ q.rb := Ne.symm n1
  simp only at c0 c1 c2 v0 v1 v2 v3 v4 f0 f1
  have s1 : IntKind.i64.wrap ((rest.length : Int) + 1) = (rest.length : Int) + 1 := IntWalk.i64_in _ (by have := HLR.out; omega)
  go_wp2
  go_end0
  have hpush := HC3.out.push HLR.out.1 e va vc HV3.out
  simp only at hpush
  rw [← HP.out.1] at hpush
  have hS : Rb q ab' ∨ w.heap.size ≤ ab' := HAB.out.imp (fun h => .inr h) id
  refine ⟨rfl, ab', cap', p0, hpush.ring HR1.out.most HR1.out.cap (by have := HR1.out.lost; have := HM.out.2.2.1; simp only at *; omega), HAB.out, ?_⟩
  exact (Chg.putE HCH3.out hS (p * 5) e va vc).setCell (.inl (.inl rfl)) _
end Go.Proofs.Ytchhpgnlfofdcaa.Q
