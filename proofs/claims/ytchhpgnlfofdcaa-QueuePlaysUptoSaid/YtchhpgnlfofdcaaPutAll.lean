/- Walks: Put. -/
import Derived.Test.YtchhpgnlfofdcaaAbs
import Derived.Deep.LoopGhost
import Derived.Outline
set_option linter.unusedVariables false
set_option linter.unusedSimpArgs false
namespace Go.Proofs.Ytchhpgnlfofdcaa.Q
open Go.RowKit Go.Proofs.Ytchhpgnlfofdcaa.Hp Go.Proofs.Ytchhpgnlfofdcaa.Mp
set_option maxRecDepth 100000

/-- Where a loop over queues is. -/
structure Qs (w wr : World) (b m : Nat) (most : Int) (l l' : List (Int × Qr)) : Prop where
  tq : Tq wr b m most l'
  own : ∀ i, Own m l' i → Own m l i ∨ w.heap.size ≤ i
  chg : Chg (Own m l) w wr
section
variable {w wr w' : World} {b m : Nat} {most : Int} {l l' l2 : List (Int × Qr)}
theorem Qs.start (h : Tq w b m most l) : Qs w w b m most l l := ⟨h, fun i hi => .inl hi, Chg.refl _ _⟩
theorem Qs.below (h : Qs w wr b m most l l') (hb : Below wr.heap.size wr w') : Qs w w' b m most l l' :=
  ⟨h.tq.below hb, h.own, h.chg.trans (Chg.of_below hb _)⟩
theorem Qs.step (h : Qs w wr b m most l l') (ht : Tq w' b m most l2) (hown : ∀ i, Own m l2 i → Own m l' i ∨ wr.heap.size ≤ i) (hc : Chg (Own m l') wr w') : Qs w w' b m most l l2 :=
  ⟨ht, fun i hi => by
    rcases hown i hi with h1 | h1
    · exact h.own i h1
    · exact .inr (by have := h.chg.size; omega), h.chg.trans' hc h.own⟩
/-- What a row reads as, behind what the queues do. -/
theorem Qs.keep {T : Nat → Prop} (h : Qs w wr b m most l l') (hT : ∀ i, T i → i < w.heap.size ∧ ¬ Own m l i) : ∀ i, T i → wr.heap[i]? = w.heap[i]? := fun i hi => h.chg.block i (hT i hi).1 (hT i hi).2
end
theorem Qs.setNew {w wr : World} {b m : Nat} {most : Int} {l l' : List (Int × Qr)} (h : Qs w wr b m most l l') {N : Nat} {cs : Array Value} (hN : wr.heap[N]? = some (.cells cs 28 (0, 0))) (hno : ∀ i, Own m l' i → i ≠ N) (hge : w.heap.size ≤ N) (j : Nat) (u : Value) : Qs w (wr.setCell ⟨N, j, none⟩ u) b m most l l' := by
  have hk : ∀ i, i ≠ N → (wr.setCell ⟨N, j, none⟩ u).heap[i]? = wr.heap[i]? := fun i hi => Below.heap_setCell _ _ _ _ hi
  refine ⟨h.tq.keep (hk b ?_) (fun i hi => hk i (hno i hi)) (fun i c hc => hk i ?_), h.own, h.chg.setCell (.inr hge) u⟩
  · rintro rfl
    have := h.tq.blk
    rw [hN] at this
    simp at this
  · rintro rfl
    rw [hN] at hc
    simp at hc
/-- What Put leaves. -/
def PutAll (b m : Nat) (most : Int) (l : List (Int × Qr)) (es : List Ev) (c : Nat) (w : World) (e : Ending) (w' : World) : Prop :=
  ∃ l', e = .returned (.int .i64 (hits (abs l) es)) ∧ Qs w w' b m most l l' ∧ abs l' = putsF most (abs l) es ∧ Bd (c + es.length) l'

set_option maxHeartbeats 4000000 in
theorem putAll_calls (b m : Nat) (most : Int) (l : List (Int × Qr)) (T : Nat → Prop) (fa : Option Addr) (g o fc c : Nat) (es : List Ev) (w : World) (h : Tq w b m most l) (hm : 1 ≤ most) (hbd : Bd c l) (hc : c + es.length ≤ 900) (hT : ∀ i, T i → i < w.heap.size ∧ ¬ Own m l i) (hrow : EAt T w fa g o es) (hvec : ∀ e ∈ es, e.vec.length ≤ 700) :
    Calls Try.prog 8 #[.pointer (some ⟨b, 0, none⟩), .slice fa es.length fc] w (PutAll b m most l es c w) := by
  have HH := Lib.hid h
  have HM := Lib.hid (And.intro hm hc)
  have HBD := Lib.hid hbd
  have HT := Lib.hid hT
  have HROW := Lib.hid hrow
  have HVEC := Lib.hid hvec
  clear h hm hbd hc hT hrow hvec
  go_enter Try.func8, Try.ntmps8
  go_wp2_with fail
  go_loopg [5, 12] es.length (fun gg n x wr => ∃ (k : Nat) (l' : List (Int × Qr)), k ≤ es.length ∧ gg = es.length - k ∧ n = .int .i64 (hits (abs l) (es.take k)) ∧ x = .int .i64 k ∧ Hid (Qs w wr b m most l l') ∧ Hid (abs l' = putsF most (abs l) (es.take k)) ∧ Hid (Bd (c + k) l'))
  case atStart => exact ⟨0, l, by omega, rfl, by simp [hits], rfl, Lib.hid (Qs.start HH.out), Lib.hid rfl, HBD⟩
  case round =>
    obtain ⟨k, l', hk, rfl, rfl, rfl, HQ, HA, HB⟩ := hrel
    by_cases hlt : k < es.length
    · obtain ⟨h1, h2⟩ := HROW.out.lt (by omega)
      subst h1
      obtain ⟨va, vc, hev⟩ := HROW.out.at' k hlt
      have hev2 := hev.keep (HQ.out.keep HT.out g h2) (HQ.out.keep HT.out) (fun i hi => hi)
      obtain ⟨y0, y1, y2, y3, y4, hvp⟩ := hev2
      have hki : (k : Int) < (es.length : Int) := by omega
      have hk0 : (0 : Int) ≤ (k : Int) := by omega
      have hw : IntKind.i64.wrap ((k : Int) + 1) = (k : Int) + 1 := IntWalk.i64_in _ (by have := HM.out.2; omega)
      have HVP := Lib.hid hvp
      have HL := Lib.hid (show es[k].vec.length ≤ 700 from HVEC.out _ (List.getElem_mem hlt))
      have HLT := Lib.hid hlt
      have HP := Lib.hid (putsF_take most (abs l) es k hlt)
      have HHI := Lib.hid (hits_take (abs l) es k hlt)
      have HSM := Lib.hid (isSome_putsF most (es.take k) (abs l) es[k].frame)
      clear hvp hev h2
      generalize es[k] = ev at *
      have hb1 := (Below.refl _ wr).alloc (Nat.le_refl _) (.cells #[.int .i64 ev.kind, .int .i64 ev.frame, .int .i64 ev.id, .int .i64 ev.agent, .slice va ev.vec.length vc] 28)
      have HQ1 := Lib.hid (HQ.out.below hb1)
      have HN1 := Lib.hid (blk_new wr (.cells #[.int .i64 ev.kind, .int .i64 ev.frame, .int .i64 ev.id, .int .i64 ev.agent, .slice va ev.vec.length vc] 28))
      have HVP1 := Lib.hid (HVP.out.keep (w' := wr.alloc (.cells #[.int .i64 ev.kind, .int .i64 ev.frame, .int .i64 ev.id, .int .i64 ev.agent, .slice va ev.vec.length vc] 28)) (fun i hi => hb1.block i (by have := (HT.out i hi).1; have := HQ.out.chg.size; omega)) (fun i hi => hi))
      have hfind := find_calls ev.frame _ HQ1.out.tq
      have HSZ := Lib.hid (show (wr.alloc (.cells #[.int .i64 ev.kind, .int .i64 ev.frame, .int .i64 ev.id, .int .i64 ev.agent, .slice va ev.vec.length vc] 28)).heap.size = wr.heap.size + 1 by simp)
      have HSW := Lib.hid HQ.out.chg.size
      cases hg : mget l' ev.frame with
      | none =>
        rw [ptr_none hg, hg] at hfind
        have HF := Lib.hid hfind
        have HA2 : Hid (abs l' = putsF most (abs l) (es.take (k + 1))) := by
          rw [HP.out, ← HA.out]
          unfold putF
          rw [mget_abs, hg]
          exact Lib.hid rfl
        have HH2 : Hid ((hits (abs l) (es.take (k + 1)) : Int) = hits (abs l) (es.take k)) := by
          rw [HHI.out]
          have h5 := HSM.out
          rw [← HA.out, mget_abs, hg] at h5
          rw [if_neg (by rw [← h5]; simp)]
          exact Lib.hid (by simp)
        clear hfind hb1 hg
        go_wp2_with (go_at_call 17; refine HF.out.mono ?_; rintro e w' ⟨rfl, rfl⟩)
        go_roundg (es.length - (k + 1))
        case measure => have := HLT.out; omega
        case rel => exact ⟨k + 1, l', HLT.out, rfl, by rw [HH2.out], by go_num, HQ1, HA2, Lib.hid (HB.out.mono (by omega))⟩
      | some q =>
        rw [ptr_some hg, hg] at hfind
        have HF := Lib.hid hfind
        have HG := Lib.hid hg
        have KC := Lib.hid (copy_calls T va vc ev.vec _ HVP1.out (fun i hi => by have := (HT.out i hi).1; have := HSW.out; have := HSZ.out; omega) HL.out)
        have HNO := Lib.hid (show ∀ i, Own m l' i → i ≠ wr.heap.size from fun i hi => Nat.ne_of_lt (HQ.out.tq.own_lt i hi))
        clear hfind hb1 hg
        go_wp2_with (go_at_call 17; refine HF.out.mono ?_; rintro e w' ⟨rfl, rfl⟩)
        generalize wr.alloc (.cells #[.int .i64 ev.kind, .int .i64 ev.frame, .int .i64 ev.id, .int .i64 ev.agent, .slice va ev.vec.length vc] 28) = w1 at *
        have HEV0 := Lib.hid HROW.out
        clear HQ HF y0 y1 y2 y3 y4 HVP
        generalize wr.heap.size = N at *
        refine KC.out.mono ?_
        rintro e w2 ⟨va', rfl, hv2, hb2⟩
        have HQ2 := Lib.hid (HQ1.out.below hb2)
        have HN2 := Lib.hid ((hb2.block N (by have := HSZ.out; omega)).trans HN1.out)
        have HV2 := Lib.hid hv2
        clear hv2 hb2 KC HQ1 HN1 HVP1
        obtain ⟨e0, e1, e2, e3, e4⟩ := ev_cells HN2.out
        have f4 := blk_frozen HN2.out 4
        go_wp2_with fail
        have HQ3 := Lib.hid (HQ2.out.setNew HN2.out HNO.out HSW.out 4 (.slice va' ev.vec.length ev.vec.length))
        have HN3 : Hid ((w2.setCell ⟨N, 4, none⟩ (.slice va' ev.vec.length ev.vec.length)).heap[N]? = some (.cells #[.int .i64 ev.kind, .int .i64 ev.frame, .int .i64 ev.id, .int .i64 ev.agent, .slice va' ev.vec.length ev.vec.length] 28 (0, 0))) := Lib.hid (blk_set HN2.out 4 (.slice va' ev.vec.length ev.vec.length))
        have HV3 := Lib.hid (HV2.out.keep (w' := w2.setCell ⟨N, 4, none⟩ (.slice va' ev.vec.length ev.vec.length)) (fun i c hc => Below.heap_setCell _ _ _ _ (fun e => by simp only at e; rw [e, HN2.out] at hc; simp at hc)))
        clear HQ2 HN2 HV2 e0 e1 e2 e3 e4 f4 HNO
        generalize w2.setCell ⟨N, 4, none⟩ (.slice va' ev.vec.length ev.vec.length) = w3 at *
        obtain ⟨e0, e1, e2, e3, e4⟩ := ev_cells HN3.out
        have b0 := HQ3.out.tq.cell0
        go_still_tail 6, (by kernel_rfl)
        change wpList _ _ _ _ _ w3.drew
        have HQ4 := Lib.hid (HQ3.out.below (below_drew (Below.refl _ w3)))
        have HV4 := Lib.hid (HV3.out.keep (w' := w3.drew) (fun _ _ _ => rfl))
        clear e0 e1 e2 e3 e4 b0 HQ3 HN3 HV3
        generalize w3.drew = w4 at *
        obtain ⟨cap, frm, hr⟩ := HQ4.out.tq.ring ev.frame q HG.out
        have hqb := HB.out ev.frame q HG.out
        have KP := Lib.hid (put_calls most q cap frm ev va' ev.vec.length w4 hr HM.out.1 (by have := HM.out.2; have := HLT.out; omega) (by have := HM.out.2; have := HLT.out; omega) HV4.out)
        clear hr hqb
        go_wp2_with fail
        refine KP.out.mono ?_
        rintro e w5 ⟨rfl, ab', cap', frm', hr5, hab5, hc5⟩
        obtain ⟨ht5, ho5⟩ := HQ4.out.tq.one HG.out hr5 rfl hab5 hc5
        have HQ5 := Lib.hid (HQ4.out.step ht5 ho5 (hc5.mono (fun i hi => .inr ⟨ev.frame, q, HG.out, hi⟩)))
        have HB5 := Lib.hid (HB.out.put HG.out most ev ab')
        have HA5 : Hid (abs (mput l' ev.frame ⟨q.rb, ab', (put1 most (plain q) ev).1, (put1 most (plain q) ev).2⟩) = putsF most (abs l) (es.take (k + 1))) := by
          rw [HP.out, ← HA.out, mput_abs]
          unfold putF
          rw [mget_abs, HG.out]
          exact Lib.hid rfl
        have HH5 : Hid ((hits (abs l) (es.take (k + 1)) : Int) = (hits (abs l) (es.take k) : Int) + 1) := by
          rw [HHI.out]
          have h5 := HSM.out
          rw [← HA.out, mget_abs, HG.out] at h5
          rw [if_pos (by rw [← h5]; rfl)]
          exact Lib.hid (by simp)
        have hwn : IntKind.i64.wrap ((hits (abs l) (es.take k) : Int) + 1) = (hits (abs l) (es.take k) : Int) + 1 := IntWalk.i64_in _ (by have h6 := hits_le (abs l) (es.take k); have := HM.out.2; simp at h6; omega)
        clear hr5 hab5 hc5 ht5 ho5 KP HQ4 HV4
        go_wp2
        go_roundg (es.length - (k + 1))
        case measure => have := HLT.out; omega
        case rel => exact ⟨k + 1, _, HLT.out, rfl, by rw [HH5.out], by go_num, HQ5, HA5, Lib.hid (HB5.out.mono (by omega))⟩
    · have hki : decide ((k : Int) < (es.length : Int)) = false := decide_eq_false (by omega)
      have HTk := Lib.hid (show es.take k = es from List.take_of_length_le (by omega))
      have HKE := Lib.hid (show k = es.length by omega)
      go_wp2
      go_ret
      have h1 := HA.out
      have h2 := HB.out
      rw [HTk.out] at h1 ⊢
      rw [HKE.out] at h2
      exact ⟨l', rfl, HQ.out, h1, h2⟩
end Go.Proofs.Ytchhpgnlfofdcaa.Q
