/- The reference's subscribe, walked. -/
import Derived.Test.YtdckcbahfdcafaaRef8
set_option linter.unusedVariables false
set_option linter.unusedSimpArgs false
namespace Go.Proofs.Ytdckcbahfdcafaa.F
open Go.RowKit Go.Sort Go.Proofs.Ytdckcbahfdcafaa.Hp Go.Proofs.Ytdckcbahfdcafaa.Mp
set_option maxRecDepth 100000

set_option maxHeartbeats 4000000 in
theorem rsub_some (cap : Int) (fa : Option Addr) (g fc : Nat) (fs : List Fr) (a : A) (w : World) (hr : RowAt w fa g fs) (hlen : fs.length ≤ 900) (h : MayA a) (k : Nat) (f : Fr) (he : atF fs a.id = (k : Int)) (hfk : fs[k]? = some f) (s : (Bool × Int) × List Fr)
    (hs : s = if f.role ≠ a.role then ((false, 21), fs) else if 0 < weightF fs a.role ∧ weightF fs a.role ≠ a.weight then ((false, 22), fs) else ((false, 0), withF fs ⟨a.id, a.role, a.weight, true, f.quiet, a.time, 0⟩)) :
    Calls Try.prog 30 #[.agg #[.int .i64 cap, .slice fa fs.length fc], encA a] w (RAns cap w (.slice fa fs.length fc) fs s) := by
  have HR := Lib.hid hr
  have HSS := Lib.hid hs
  clear hs
  have HS := Lib.hid (SSt.start w cap (.slice fa fs.length fc) a)
  have HL := Lib.hid hlen
  have HK := Lib.hid (List.getElem?_eq_some_iff.1 hfk).1
  have HF := Lib.hid hfk
  have hR0 := hr.below HS.out.chg (Nat.le_refl _)
  have K1 := at_calls cap a.id fa g fc fs _ hlen hR0.lt hR0.at'
  rw [he] at K1
  have K1' := Lib.hid K1
  clear K1
  have HA := Lib.hid h
  obtain ⟨ak, ai, ar, aw, at'⟩ := a
  obtain ⟨h1, h2, h3, h4, h5, h6, h7⟩ := h
  unfold encA
  simp only at HSS HS K1' h1 h2 h3 h4 h5 h6 h7
  simp only
  clear hr hlen hfk hR0 he
  go_enter Try.func30, Try.ntmps30
  go_wp2_with fail
  refine K1'.out.mono ?_
  rintro e w1 ⟨rfl, hb1⟩
  have HS1 := Lib.hid (HS.out.below hb1 HS.out.lt)
  clear K1' HS hb1 h1 h2 h3 h4 h5 h6 h7
  obtain ⟨⟨b0, b1⟩, ⟨a0, a1, a2, a3, a4⟩, r0, r1, r2, r3⟩ := HS1.out.facts
  have HR1 := Lib.hid (HR.out.below HS1.out.chg (Nat.le_refl _))
  obtain ⟨hfa, hg⟩ := HR1.out.lt (by have := HK.out; omega)
  subst hfa
  have hc := HR1.out.at' k HK.out
  rw [show fs[k]'HK.out = f from (List.getElem?_eq_some_iff.1 HF.out).2, Nat.zero_add] at hc
  have c1 := hc.c1
  have hk0 : (0 : Int) ≤ (k : Int) := by omega
  have hki : (k : Int) < (fs.length : Int) := by have := HK.out; omega
  clear hc hg
  go_wp2_with fail
  by_cases hx : f.role = ar
  · have e1 := HSS.out
    rw [if_neg (fun hh => hh hx)] at e1
    have HSX := Lib.hid e1
    clear e1
    subst hx
    go_quiet (fail)
    have HS2 := Lib.hid (HS1.out.drewN nq)
    have HR2 := Lib.hid (HR.out.below HS2.out.chg (Nat.le_refl _))
    clear b0 b1 a0 a1 a2 a3 a4 r0 r1 r2 r3 c1 HS1 HR1 HSS
    generalize w1.drewN nq = w2 at *
    have K2 := Lib.hid (refWeight_calls cap f.role (some ⟨g, 0, none⟩) g fc fs w2 HL.out HR2.out.lt HR2.out.at')
    obtain ⟨⟨b0, b1⟩, ⟨a0, a1, a2, a3, a4⟩, r0, r1, r2, r3⟩ := HS2.out.facts
    go_wp2_with fail
    refine K2.out.mono ?_
    rintro e w3 ⟨rfl, hb3⟩
    have HS3 := Lib.hid (HS2.out.below hb3 HS2.out.lt)
    have HR3 := Lib.hid (HR.out.below HS3.out.chg (Nat.le_refl _))
    clear b0 b1 a0 a1 a2 a3 a4 r0 r1 r2 r3 HS2 HR2 K2 hb3
    obtain ⟨⟨b0, b1⟩, ⟨a0, a1, a2, a3, a4⟩, r0, r1, r2, r3⟩ := HS3.out.facts
    generalize weightF fs f.role = W at *
    by_cases hq : 0 < W ∧ W ≠ aw
    · obtain ⟨q1, q2⟩ := hq
      have q3 : (W == aw) = false := by rw [beq_eq_false_iff_ne]; exact q2
      have q4 : (W != aw) = true := by rw [bne_iff_ne]; exact q2
      have e1 := HSX.out
      rw [if_pos ⟨q1, q2⟩] at e1
      have HSY := Lib.hid e1
      clear e1 HSX
      clear q2
      go_wp2
      obtain ⟨s1, s2, s3⟩ := HS3.out.stop (.slice (some ⟨g, 0, none⟩) fs.length fc)
      rw [HSY.out]
      refine bodyPost_ret (v := .tuple #[.agg #[.int .i64 cap, .slice (some ⟨g, 0, none⟩) fs.length fc], .bool false, .int .i64 22]) (by simp [results, Try.results30, go_sem, s1, s2]) rfl ⟨_, rfl, .inl ⟨rfl, rfl⟩, s3⟩
    · have e1 := HSX.out
      rw [if_neg hq] at e1
      have HSY := Lib.hid e1
      clear e1 HSX
      have hor : (decide (0 < W) && (W != aw)) = false := by
        cases h1 : decide (0 < W) with
        | false => rfl
        | true => cases h2 : W != aw with
          | false => rfl
          | true => exact absurd ⟨of_decide_eq_true h1, by rwa [bne_iff_ne] at h2⟩ hq
      clear hq
      have hd : decide (0 < W) = false ∨ decide (0 < W) = true ∧ W = aw := by
        cases h1 : decide (0 < W) with
        | false => exact .inl rfl
        | true => rw [h1] at hor; exact .inr ⟨rfl, by simpa using hor⟩
      clear hor
      rcases hd with hd | ⟨hd, rfl⟩
      · have HS4 := Lib.hid (HS3.out.alloc (.cells #[.int .i64 ai, .int .i64 f.role, .int .i64 aw, .bool true, .bool false, .int .i64 at', .int .i64 0] 30))
        have HS5 := Lib.hid (HS3.out.alloc (.cells #[.int .i64 ai, .int .i64 f.role, .int .i64 aw, .bool true, .bool f.quiet, .int .i64 at', .int .i64 0] 30))
        obtain ⟨⟨d0, d1⟩, _, _⟩ := HS4.out.facts
        obtain ⟨⟨e0, e1⟩, _, _⟩ := HS5.out.facts
        have hc := (HR.out.below HS4.out.chg (Nat.le_refl _)).at' k HK.out
        rw [show fs[k]'HK.out = f from (List.getElem?_eq_some_iff.1 HF.out).2, Nat.zero_add] at hc
        have c4 := hc.c4
        have hR5 := HR.out.below HS5.out.chg (Nat.le_refl _)
        have K3 := with_calls cap ⟨ai, f.role, aw, true, f.quiet, at', 0⟩ (some ⟨g, 0, none⟩) g fc fs _ HL.out hR5.lt hR5.at'
        simp only [encF_agg] at K3
        have K3' := Lib.hid K3
        clear hc hR5 K3
        go_wp2_with fail
        refine K3'.out.mono ?_
        rintro e w4 ⟨v, rfl, hrow, hb4⟩
        obtain ⟨va, vg, vc, rfl, _, _⟩ := frow_cell hrow
        have HRW := Lib.hid hrow
        have HS6 := Lib.hid (HS5.out.below hb4 HS5.out.lt)
        have HLt := Lib.hid HS5.out.lt
        clear hrow hb4 K3' d0 d1 e0 e1 c4 HS5 HS4 b0 b1 a0 a1 a2 a3 a4 r0 r1 r2 r3
        obtain ⟨⟨b0, b1⟩, ⟨a0, a1, a2, a3, a4⟩, r0, r1, r2, r3⟩ := HS6.out.facts
        go_wp2
        obtain ⟨s1, s2, s3⟩ := HS6.out.stop (.slice va (withF fs ⟨ai, f.role, aw, true, f.quiet, at', 0⟩).length vc)
        rw [HSY.out]
        refine bodyPost_ret (v := .tuple #[.agg #[.int .i64 cap, .slice va (withF fs ⟨ai, f.role, aw, true, f.quiet, at', 0⟩).length vc], .bool false, .int .i64 0]) (by simp [results, Try.results30, go_sem, s1, s2]) rfl ⟨_, rfl, .inr (row_stop HRW.out HLt.out _ _), s3⟩
      · have HS4 := Lib.hid (HS3.out.alloc (.cells #[.int .i64 ai, .int .i64 f.role, .int .i64 W, .bool true, .bool false, .int .i64 at', .int .i64 0] 30))
        have HS5 := Lib.hid (HS3.out.alloc (.cells #[.int .i64 ai, .int .i64 f.role, .int .i64 W, .bool true, .bool f.quiet, .int .i64 at', .int .i64 0] 30))
        obtain ⟨⟨d0, d1⟩, _, _⟩ := HS4.out.facts
        obtain ⟨⟨e0, e1⟩, _, _⟩ := HS5.out.facts
        have hc := (HR.out.below HS4.out.chg (Nat.le_refl _)).at' k HK.out
        rw [show fs[k]'HK.out = f from (List.getElem?_eq_some_iff.1 HF.out).2, Nat.zero_add] at hc
        have c4 := hc.c4
        have hR5 := HR.out.below HS5.out.chg (Nat.le_refl _)
        have K3 := with_calls cap ⟨ai, f.role, W, true, f.quiet, at', 0⟩ (some ⟨g, 0, none⟩) g fc fs _ HL.out hR5.lt hR5.at'
        simp only [encF_agg] at K3
        have K3' := Lib.hid K3
        clear hc hR5 K3
        go_wp2_with fail
        refine K3'.out.mono ?_
        rintro e w4 ⟨v, rfl, hrow, hb4⟩
        obtain ⟨va, vg, vc, rfl, _, _⟩ := frow_cell hrow
        have HRW := Lib.hid hrow
        have HS6 := Lib.hid (HS5.out.below hb4 HS5.out.lt)
        have HLt := Lib.hid HS5.out.lt
        clear hrow hb4 K3' d0 d1 e0 e1 c4 HS5 HS4 b0 b1 a0 a1 a2 a3 a4 r0 r1 r2 r3
        obtain ⟨⟨b0, b1⟩, ⟨a0, a1, a2, a3, a4⟩, r0, r1, r2, r3⟩ := HS6.out.facts
        go_wp2
        obtain ⟨s1, s2, s3⟩ := HS6.out.stop (.slice va (withF fs ⟨ai, f.role, W, true, f.quiet, at', 0⟩).length vc)
        rw [HSY.out]
        refine bodyPost_ret (v := .tuple #[.agg #[.int .i64 cap, .slice va (withF fs ⟨ai, f.role, W, true, f.quiet, at', 0⟩).length vc], .bool false, .int .i64 0]) (by simp [results, Try.results30, go_sem, s1, s2]) rfl ⟨_, rfl, .inr (row_stop HRW.out HLt.out _ _), s3⟩
  · have q1 : (f.role == ar) = false := by rw [beq_eq_false_iff_ne]; exact hx
    have q2 : (f.role != ar) = true := by rw [bne_iff_ne]; exact hx
    have e1 := HSS.out
    rw [if_pos hx] at e1
    have HSX := Lib.hid e1
    clear e1
    clear hx
    go_quiet (fail)
    go_wp2
    obtain ⟨s1, s2, s3⟩ := (HS1.out.drewN nq).stop (.slice (some ⟨g, 0, none⟩) fs.length fc)
    rw [HSX.out]
    refine bodyPost_ret (v := .tuple #[.agg #[.int .i64 cap, .slice (some ⟨g, 0, none⟩) fs.length fc], .bool false, .int .i64 21]) (by simp [results, Try.results30, go_sem, s1, s2]) rfl ⟨_, rfl, .inl ⟨rfl, rfl⟩, s3⟩
end Go.Proofs.Ytdckcbahfdcafaa.F
