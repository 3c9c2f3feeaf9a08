/- The reference's subscribe of a new one, walked. -/
import Derived.Test.YtdckcbahfdcafaaRef9
import Derived.Test.YtdckcbahfdcafaaRef10
set_option linter.unusedVariables false
set_option linter.unusedSimpArgs false
namespace Go.Proofs.Ytdckcbahfdcafaa.F
open Go.RowKit Go.Sort Go.Proofs.Ytdckcbahfdcafaa.Hp Go.Proofs.Ytdckcbahfdcafaa.Mp
set_option maxRecDepth 100000

set_option maxHeartbeats 4000000 in
theorem rsub_none (cap : Int) (fa : Option Addr) (g fc : Nat) (fs : List Fr) (a : A) (w : World) (hr : RowAt w fa g fs) (hlen : fs.length ≤ 900) (h : MayA a) (he : atF fs a.id = -1) (s : (Bool × Int) × List Fr)
    (hs : s = if 0 < weightF fs a.role ∧ weightF fs a.role ≠ a.weight then ((false, 22), fs) else if cap ≤ fs.length then ((false, 32), fs) else ((true, 0), withF fs ⟨a.id, a.role, a.weight, true, false, a.time, 0⟩)) :
    Calls Try.prog 30 #[.agg #[.int .i64 cap, .slice fa fs.length fc], encA a] w (RAns cap w (.slice fa fs.length fc) fs s) := by
  have HR := Lib.hid hr
  have HSS := Lib.hid hs
  clear hs
  have HS := Lib.hid (SSt.start w cap (.slice fa fs.length fc) a)
  have HL := Lib.hid hlen
  have hR0 := hr.below HS.out.chg (Nat.le_refl _)
  have K1 := at_calls cap a.id fa g fc fs _ hlen hR0.lt hR0.at'
  rw [he] at K1
  have K1' := Lib.hid K1
  clear K1
  have HA := Lib.hid h
  obtain ⟨ak, ai, ar, aw, at'⟩ := a
  obtain ⟨h1, h2, h3, h4, h5, h6, h7⟩ := h
  unfold encA
  simp only at HSS HS K1' h1 h2 h3 h4 h5 h6 h7
  simp only
  clear hr hlen hR0 he
  go_enter Try.func30, Try.ntmps30
  go_wp2_with fail
  refine K1'.out.mono ?_
  rintro e w1 ⟨rfl, hb1⟩
  have HS1 := Lib.hid (HS.out.below hb1 HS.out.lt)
  clear K1' HS hb1 h1 h2 h3 h4 h5 h6 h7
  obtain ⟨⟨b0, b1⟩, ⟨a0, a1, a2, a3, a4⟩, r0, r1, r2, r3⟩ := HS1.out.facts
  go_wp2_with fail
  go_quiet (fail)
  have HS2 := Lib.hid (HS1.out.drewN nq)
  have HR2 := Lib.hid (HR.out.below HS2.out.chg (Nat.le_refl _))
  clear b0 b1 a0 a1 a2 a3 a4 r0 r1 r2 r3 HS1
  generalize w1.drewN nq = w2 at *
  have K2 := Lib.hid (refWeight_calls cap ar fa g fc fs w2 HL.out HR2.out.lt HR2.out.at')
  obtain ⟨⟨b0, b1⟩, ⟨a0, a1, a2, a3, a4⟩, r0, r1, r2, r3⟩ := HS2.out.facts
  go_wp2_with fail
  refine K2.out.mono ?_
  rintro e w3 ⟨rfl, hb3⟩
  have HS3 := Lib.hid (HS2.out.below hb3 HS2.out.lt)
  clear b0 b1 a0 a1 a2 a3 a4 r0 r1 r2 r3 HS2 HR2 K2 hb3
  obtain ⟨⟨b0, b1⟩, ⟨a0, a1, a2, a3, a4⟩, r0, r1, r2, r3⟩ := HS3.out.facts
  generalize weightF fs ar = W at *
  by_cases hq : 0 < W ∧ W ≠ aw
  · obtain ⟨q1, q2⟩ := hq
    have q3 : (W == aw) = false := by rw [beq_eq_false_iff_ne]; exact q2
    have q4 : (W != aw) = true := by rw [bne_iff_ne]; exact q2
    have e1 := HSS.out
    rw [if_pos ⟨q1, q2⟩] at e1
    have HSY := Lib.hid e1
    clear e1 HSS
    clear q2
    go_wp2
    obtain ⟨s1, s2, s3⟩ := HS3.out.stop (.slice fa fs.length fc)
    rw [HSY.out]
    refine bodyPost_ret (v := .tuple #[.agg #[.int .i64 cap, .slice fa fs.length fc], .bool false, .int .i64 22]) (by simp [results, Try.results30, go_sem, s1, s2]) rfl ⟨_, rfl, .inl ⟨rfl, rfl⟩, s3⟩
  · have e1 := HSS.out
    rw [if_neg hq] at e1
    have HSX := Lib.hid e1
    clear e1 HSS
    have hor : (decide (0 < W) && (W != aw)) = false := by
      cases h1 : decide (0 < W) with
      | false => rfl
      | true => cases h2 : W != aw with
        | false => rfl
        | true => exact absurd ⟨of_decide_eq_true h1, by rwa [bne_iff_ne] at h2⟩ hq
    clear hq
    have hd : decide (0 < W) = false ∨ decide (0 < W) = true ∧ W = aw := by
      cases h1 : decide (0 < W) with
      | false => exact .inl rfl
      | true => rw [h1] at hor; exact .inr ⟨rfl, by simpa using hor⟩
    clear hor
    rcases hd with hd | ⟨hd, rfl⟩
    · have HS5 := Lib.hid (HS3.out.alloc (.cells #[.int .i64 ai, .int .i64 ar, .int .i64 aw, .bool true, .bool false, .int .i64 at', .int .i64 0] 30))
      obtain ⟨⟨e0, e1⟩, _, r0', r1', r2', r3'⟩ := HS5.out.facts
      by_cases hcap : cap ≤ (fs.length : Int)
      · have e2 := HSX.out
        rw [if_pos hcap] at e2
        have HSY := Lib.hid e2
        clear e2 HSX
        go_wp2
        obtain ⟨s1, s2, s3⟩ := HS5.out.stop (.slice fa fs.length fc)
        rw [HSY.out]
        refine bodyPost_ret (v := .tuple #[.agg #[.int .i64 cap, .slice fa fs.length fc], .bool false, .int .i64 32]) (by simp [results, Try.results30, go_sem, s1, s2]) rfl ⟨_, rfl, .inl ⟨rfl, rfl⟩, s3⟩
      · have e2 := HSX.out
        rw [if_neg hcap] at e2
        have HSY := Lib.hid e2
        have hc1 : decide (cap ≤ (fs.length : Int)) = false := decide_eq_false hcap
        clear e2 HSX hcap
        have hR5 := HR.out.below HS5.out.chg (Nat.le_refl _)
        have K3 := with_calls cap ⟨ai, ar, aw, true, false, at', 0⟩ fa g fc fs _ HL.out hR5.lt hR5.at'
        simp only [encF_agg] at K3
        have K3' := Lib.hid K3
        clear hR5 K3
        go_wp2_with fail
        refine K3'.out.mono ?_
        rintro e w4 ⟨v, rfl, hrow, hb4⟩
        obtain ⟨va, vg, vc, rfl, _, _⟩ := frow_cell hrow
        have HRW := Lib.hid hrow
        have HS6 := Lib.hid (HS5.out.below hb4 HS5.out.lt)
        have HLt := Lib.hid HS5.out.lt
        clear hrow hb4 K3' e0 e1 HS5 b0 b1 a0 a1 a2 a3 a4 r0 r1 r2 r3 r0' r1' r2' r3'
        obtain ⟨⟨b0, b1⟩, ⟨a0, a1, a2, a3, a4⟩, r0, r1, r2, r3⟩ := HS6.out.facts
        go_wp2
        obtain ⟨s1, s2, s3⟩ := HS6.out.stop (.slice va (withF fs ⟨ai, ar, aw, true, false, at', 0⟩).length vc)
        rw [HSY.out]
        refine bodyPost_ret (v := .tuple #[.agg #[.int .i64 cap, .slice va (withF fs ⟨ai, ar, aw, true, false, at', 0⟩).length vc], .bool true, .int .i64 0]) (by simp [results, Try.results30, go_sem, s1, s2]) rfl ⟨_, rfl, .inr (row_stop HRW.out HLt.out _ _), s3⟩
    · have HS5 := Lib.hid (HS3.out.alloc (.cells #[.int .i64 ai, .int .i64 ar, .int .i64 W, .bool true, .bool false, .int .i64 at', .int .i64 0] 30))
      obtain ⟨⟨e0, e1⟩, _, r0', r1', r2', r3'⟩ := HS5.out.facts
      by_cases hcap : cap ≤ (fs.length : Int)
      · have e2 := HSX.out
        rw [if_pos hcap] at e2
        have HSY := Lib.hid e2
        clear e2 HSX
        go_wp2
        obtain ⟨s1, s2, s3⟩ := HS5.out.stop (.slice fa fs.length fc)
        rw [HSY.out]
        refine bodyPost_ret (v := .tuple #[.agg #[.int .i64 cap, .slice fa fs.length fc], .bool false, .int .i64 32]) (by simp [results, Try.results30, go_sem, s1, s2]) rfl ⟨_, rfl, .inl ⟨rfl, rfl⟩, s3⟩
      · have e2 := HSX.out
        rw [if_neg hcap] at e2
        have HSY := Lib.hid e2
        have hc1 : decide (cap ≤ (fs.length : Int)) = false := decide_eq_false hcap
        clear e2 HSX hcap
        have hR5 := HR.out.below HS5.out.chg (Nat.le_refl _)
        have K3 := with_calls cap ⟨ai, ar, W, true, false, at', 0⟩ fa g fc fs _ HL.out hR5.lt hR5.at'
        simp only [encF_agg] at K3
        have K3' := Lib.hid K3
        clear hR5 K3
        go_wp2_with fail
        refine K3'.out.mono ?_
        rintro e w4 ⟨v, rfl, hrow, hb4⟩
        obtain ⟨va, vg, vc, rfl, _, _⟩ := frow_cell hrow
        have HRW := Lib.hid hrow
        have HS6 := Lib.hid (HS5.out.below hb4 HS5.out.lt)
        have HLt := Lib.hid HS5.out.lt
        clear hrow hb4 K3' e0 e1 HS5 b0 b1 a0 a1 a2 a3 a4 r0 r1 r2 r3 r0' r1' r2' r3'
        obtain ⟨⟨b0, b1⟩, ⟨a0, a1, a2, a3, a4⟩, r0, r1, r2, r3⟩ := HS6.out.facts
        go_wp2
        obtain ⟨s1, s2, s3⟩ := HS6.out.stop (.slice va (withF fs ⟨ai, ar, W, true, false, at', 0⟩).length vc)
        rw [HSY.out]
        refine bodyPost_ret (v := .tuple #[.agg #[.int .i64 cap, .slice va (withF fs ⟨ai, ar, W, true, false, at', 0⟩).length vc], .bool true, .int .i64 0]) (by simp [results, Try.results30, go_sem, s1, s2]) rfl ⟨_, rfl, .inr (row_stop HRW.out HLt.out _ _), s3⟩

/-- The reference's subscribe. -/
theorem rsub_calls (cap : Int) (fa : Option Addr) (g fc : Nat) (fs : List Fr) (a : A) (w : World) (hr : RowAt w fa g fs) (hlen : fs.length ≤ 900) :
    Calls Try.prog 30 #[.agg #[.int .i64 cap, .slice fa fs.length fc], encA a] w (RAns cap w (.slice fa fs.length fc) fs (rsubF cap fs a)) := by
  unfold rsubF
  by_cases hm : MayA a
  · rw [if_neg (fun hh => hh hm)]
    rcases at_cases fs a.id with ⟨hf, he⟩ | ⟨k, f, hk, hf, he, hfk, hid⟩
    · rw [hf]
      exact rsub_none cap fa g fc fs a w hr hlen hm he _ rfl
    · rw [hf]
      exact rsub_some cap fa g fc fs a w hr hlen hm k f he (by rw [List.getElem?_eq_getElem hk, hfk]) _ rfl
  · have hm' := hm
    unfold MayA at hm'
    rw [if_pos hm']
    exact rsub_arg cap _ fs a w (hr.row fc) hm
end Go.Proofs.Ytdckcbahfdcafaa.F
