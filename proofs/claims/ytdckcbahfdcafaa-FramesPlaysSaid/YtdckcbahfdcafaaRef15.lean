/- The reference's Do, walked: quiet, away. -/
import Derived.Test.YtdckcbahfdcafaaRef12
set_option linter.unusedVariables false
set_option linter.unusedSimpArgs false
namespace Go.Proofs.Ytdckcbahfdcafaa.F
open Go.RowKit Go.Sort Go.Proofs.Ytdckcbahfdcafaa.Hp Go.Proofs.Ytdckcbahfdcafaa.Mp
set_option maxRecDepth 100000

set_option maxHeartbeats 4000000 in
theorem rdo_quiet_yes (cap : Int) (fa : Option Addr) (g fc : Nat) (fs : List Fr) (a : A) (w : World) (hr : RowAt w fa g fs) (hlen : fs.length ≤ 900) (hk0 : (a.kind == 0) = false) (hk2 : (a.kind == 2) = false) (hk1 : (a.kind == 1) = false) (hk3 : (a.kind == 3) = true) (k : Nat) (f : Fr) (he : atF fs a.id = (k : Int)) (hfk : fs[k]? = some f) :
    Calls Try.prog 12 #[.agg #[.int .i64 cap, .slice fa fs.length fc], encA a] w (RAns cap w (.slice fa fs.length fc) fs ((false, 0), withF fs { f with quiet := true })) := by
  have HR := Lib.hid hr
  have HS := Lib.hid (SSt.start w cap (.slice fa fs.length fc) a)
  have HL := Lib.hid hlen
  have HK := Lib.hid (List.getElem?_eq_some_iff.1 hfk).1
  have HF := Lib.hid hfk
  have hR0 := hr.below HS.out.chg (Nat.le_refl _)
  have K1 := at_calls cap a.id fa g fc fs _ hlen hR0.lt hR0.at'
  rw [he] at K1
  have K1' := Lib.hid K1
  clear K1
  obtain ⟨ak, ai, ar, aw, at'⟩ := a
  simp only at HS K1' hk0 hk2 hk1 hk3
  unfold encA
  simp only
  clear hr hlen hR0 he hfk
  go_enter Try.func12, Try.ntmps12
  go_wp2_with fail
  refine K1'.out.mono ?_
  rintro e w1 ⟨rfl, hb1⟩
  have HS1 := Lib.hid (HS.out.below hb1 HS.out.lt)
  clear K1' HS hb1
  obtain ⟨⟨b0, b1⟩, ⟨a0, a1, a2, a3, a4⟩, r0, r1, r2, r3⟩ := HS1.out.facts
  have HR1 := Lib.hid (HR.out.below HS1.out.chg (Nat.le_refl _))
  obtain ⟨hfa, hg⟩ := HR1.out.lt (by have := HK.out; omega)
  subst hfa
  have hc := HR1.out.at' k HK.out
  rw [show fs[k]'HK.out = f from (List.getElem?_eq_some_iff.1 HF.out).2, Nat.zero_add] at hc
  obtain ⟨c0, c1, c2, c3, c4, c5, c6⟩ := hc
  have hk0 : (0 : Int) ≤ (k : Int) := by omega
  have hki : (k : Int) < (fs.length : Int) := by have := HK.out; omega
  obtain ⟨fid, frole, fw, fu, fq, ft, fl⟩ := f
  simp only at c0 c1 c2 c3 c4 c5 c6
  clear hg
  have HS4 := Lib.hid (HS1.out.alloc (.cells #[.int .i64 fid, .int .i64 frole, .int .i64 fw, .bool fu, .bool fq, .int .i64 ft, .int .i64 fl] 30))
  obtain ⟨⟨d0, d1⟩, ⟨n0, n1, n2, n3, n4⟩, _⟩ := HS4.out.facts
  have HS5 := Lib.hid (HS1.out.alloc (.cells #[.int .i64 fid, .int .i64 frole, .int .i64 fw, .bool fu, .bool true, .int .i64 ft, .int .i64 fl] 30))
  have hR5 := HR.out.below HS5.out.chg (Nat.le_refl _)
  have K3 := with_calls cap ⟨fid, frole, fw, fu, true, ft, fl⟩ (some ⟨g, 0, none⟩) g fc fs _ HL.out hR5.lt hR5.at'
  simp only [encF_agg] at K3
  have K3' := Lib.hid K3
  clear hR5 K3
  obtain ⟨⟨e0, e1⟩, _, _⟩ := HS5.out.facts
  go_wp2_with fail
  refine K3'.out.mono ?_
  rintro e w4 ⟨v, rfl, hrow, hb4⟩
  obtain ⟨va, vg, vc, rfl, _, _⟩ := frow_cell hrow
  have HRW := Lib.hid hrow
  have HS6 := Lib.hid (HS5.out.below hb4 HS5.out.lt)
  have HLt := Lib.hid HS5.out.lt
  clear hrow hb4 K3' e0 e1 HS5 HS4 d0 d1 n0 n1 n2 n3 n4 b0 b1 a0 a1 a2 a3 a4 r0 r1 r2 r3 c0 c1 c2 c3 c4 c5 c6
  obtain ⟨⟨b0, b1⟩, ⟨a0, a1, a2, a3, a4⟩, r0, r1, r2, r3⟩ := HS6.out.facts
  go_wp2
  obtain ⟨s1, s2, s3⟩ := HS6.out.stop (.slice va (withF fs ⟨fid, frole, fw, fu, true, ft, fl⟩).length vc)
  refine bodyPost_ret (v := .tuple #[.agg #[.int .i64 cap, .slice va (withF fs ⟨fid, frole, fw, fu, true, ft, fl⟩).length vc], .bool false, .int .i64 0]) (by simp [results, Try.results12, go_sem, s1, s2]) rfl ⟨_, rfl, .inr (row_stop HRW.out HLt.out _ _), s3⟩

set_option maxHeartbeats 4000000 in
theorem rdo_quiet_no (cap : Int) (fa : Option Addr) (g fc : Nat) (fs : List Fr) (a : A) (w : World) (hr : RowAt w fa g fs) (hlen : fs.length ≤ 900) (hk0 : (a.kind == 0) = false) (hk2 : (a.kind == 2) = false) (hk1 : (a.kind == 1) = false) (hk3 : (a.kind == 3) = false) (k : Nat) (f : Fr) (he : atF fs a.id = (k : Int)) (hfk : fs[k]? = some f) :
    Calls Try.prog 12 #[.agg #[.int .i64 cap, .slice fa fs.length fc], encA a] w (RAns cap w (.slice fa fs.length fc) fs ((false, 0), withF fs { f with quiet := false })) := by
  have HR := Lib.hid hr
  have HS := Lib.hid (SSt.start w cap (.slice fa fs.length fc) a)
  have HL := Lib.hid hlen
  have HK := Lib.hid (List.getElem?_eq_some_iff.1 hfk).1
  have HF := Lib.hid hfk
  have hR0 := hr.below HS.out.chg (Nat.le_refl _)
  have K1 := at_calls cap a.id fa g fc fs _ hlen hR0.lt hR0.at'
  rw [he] at K1
  have K1' := Lib.hid K1
  clear K1
  obtain ⟨ak, ai, ar, aw, at'⟩ := a
  simp only at HS K1' hk0 hk2 hk1 hk3
  unfold encA
  simp only
  clear hr hlen hR0 he hfk
  go_enter Try.func12, Try.ntmps12
  go_wp2_with fail
  refine K1'.out.mono ?_
  rintro e w1 ⟨rfl, hb1⟩
  have HS1 := Lib.hid (HS.out.below hb1 HS.out.lt)
  clear K1' HS hb1
  obtain ⟨⟨b0, b1⟩, ⟨a0, a1, a2, a3, a4⟩, r0, r1, r2, r3⟩ := HS1.out.facts
  have HR1 := Lib.hid (HR.out.below HS1.out.chg (Nat.le_refl _))
  obtain ⟨hfa, hg⟩ := HR1.out.lt (by have := HK.out; omega)
  subst hfa
  have hc := HR1.out.at' k HK.out
  rw [show fs[k]'HK.out = f from (List.getElem?_eq_some_iff.1 HF.out).2, Nat.zero_add] at hc
  obtain ⟨c0, c1, c2, c3, c4, c5, c6⟩ := hc
  have hk0 : (0 : Int) ≤ (k : Int) := by omega
  have hki : (k : Int) < (fs.length : Int) := by have := HK.out; omega
  obtain ⟨fid, frole, fw, fu, fq, ft, fl⟩ := f
  simp only at c0 c1 c2 c3 c4 c5 c6
  clear hg
  have HS4 := Lib.hid (HS1.out.alloc (.cells #[.int .i64 fid, .int .i64 frole, .int .i64 fw, .bool fu, .bool fq, .int .i64 ft, .int .i64 fl] 30))
  obtain ⟨⟨d0, d1⟩, ⟨n0, n1, n2, n3, n4⟩, _⟩ := HS4.out.facts
  have HS5 := Lib.hid (HS1.out.alloc (.cells #[.int .i64 fid, .int .i64 frole, .int .i64 fw, .bool fu, .bool false, .int .i64 ft, .int .i64 fl] 30))
  have hR5 := HR.out.below HS5.out.chg (Nat.le_refl _)
  have K3 := with_calls cap ⟨fid, frole, fw, fu, false, ft, fl⟩ (some ⟨g, 0, none⟩) g fc fs _ HL.out hR5.lt hR5.at'
  simp only [encF_agg] at K3
  have K3' := Lib.hid K3
  clear hR5 K3
  obtain ⟨⟨e0, e1⟩, _, _⟩ := HS5.out.facts
  go_wp2_with fail
  refine K3'.out.mono ?_
  rintro e w4 ⟨v, rfl, hrow, hb4⟩
  obtain ⟨va, vg, vc, rfl, _, _⟩ := frow_cell hrow
  have HRW := Lib.hid hrow
  have HS6 := Lib.hid (HS5.out.below hb4 HS5.out.lt)
  have HLt := Lib.hid HS5.out.lt
  clear hrow hb4 K3' e0 e1 HS5 HS4 d0 d1 n0 n1 n2 n3 n4 b0 b1 a0 a1 a2 a3 a4 r0 r1 r2 r3 c0 c1 c2 c3 c4 c5 c6
  obtain ⟨⟨b0, b1⟩, ⟨a0, a1, a2, a3, a4⟩, r0, r1, r2, r3⟩ := HS6.out.facts
  go_wp2
  obtain ⟨s1, s2, s3⟩ := HS6.out.stop (.slice va (withF fs ⟨fid, frole, fw, fu, false, ft, fl⟩).length vc)
  refine bodyPost_ret (v := .tuple #[.agg #[.int .i64 cap, .slice va (withF fs ⟨fid, frole, fw, fu, false, ft, fl⟩).length vc], .bool false, .int .i64 0]) (by simp [results, Try.results12, go_sem, s1, s2]) rfl ⟨_, rfl, .inr (row_stop HRW.out HLt.out _ _), s3⟩

set_option maxHeartbeats 4000000 in
theorem rdo_gone (cap : Int) (fa : Option Addr) (g fc : Nat) (fs : List Fr) (a : A) (w : World) (hr : RowAt w fa g fs) (hlen : fs.length ≤ 900) (hk0 : (a.kind == 0) = false) (hk2 : (a.kind == 2) = false) (hk1 : a.kind = 1) (k : Nat) (f : Fr) (hup : f.up = false) (he : atF fs a.id = (k : Int)) (hfk : fs[k]? = some f) :
    Calls Try.prog 12 #[.agg #[.int .i64 cap, .slice fa fs.length fc], encA a] w (RAns cap w (.slice fa fs.length fc) fs ((false, 23), fs)) := by
  have HR := Lib.hid hr
  have HS := Lib.hid (SSt.start w cap (.slice fa fs.length fc) a)
  have HL := Lib.hid hlen
  have HK := Lib.hid (List.getElem?_eq_some_iff.1 hfk).1
  have HF := Lib.hid hfk
  have hR0 := hr.below HS.out.chg (Nat.le_refl _)
  have K1 := at_calls cap a.id fa g fc fs _ hlen hR0.lt hR0.at'
  rw [he] at K1
  have K1' := Lib.hid K1
  clear K1
  obtain ⟨ak, ai, ar, aw, at'⟩ := a
  simp only at HS K1' hk0 hk2 hk1
  unfold encA
  simp only
  subst hk1
  clear hr hlen hR0 he hfk
  go_enter Try.func12, Try.ntmps12
  go_wp2_with fail
  refine K1'.out.mono ?_
  rintro e w1 ⟨rfl, hb1⟩
  have HS1 := Lib.hid (HS.out.below hb1 HS.out.lt)
  clear K1' HS hb1
  obtain ⟨⟨b0, b1⟩, ⟨a0, a1, a2, a3, a4⟩, r0, r1, r2, r3⟩ := HS1.out.facts
  have HR1 := Lib.hid (HR.out.below HS1.out.chg (Nat.le_refl _))
  obtain ⟨hfa, hg⟩ := HR1.out.lt (by have := HK.out; omega)
  subst hfa
  have hc := HR1.out.at' k HK.out
  rw [show fs[k]'HK.out = f from (List.getElem?_eq_some_iff.1 HF.out).2, Nat.zero_add] at hc
  obtain ⟨c0, c1, c2, c3, c4, c5, c6⟩ := hc
  have hk0 : (0 : Int) ≤ (k : Int) := by omega
  have hki : (k : Int) < (fs.length : Int) := by have := HK.out; omega
  obtain ⟨fid, frole, fw, fu, fq, ft, fl⟩ := f
  simp only at hup
  subst hup
  simp only at c0 c1 c2 c3 c4 c5 c6
  clear hg
  have HS4 := Lib.hid (HS1.out.alloc (.cells #[.int .i64 fid, .int .i64 frole, .int .i64 fw, .bool false, .bool fq, .int .i64 ft, .int .i64 fl] 30))
  obtain ⟨⟨d0, d1⟩, ⟨n0, n1, n2, n3, n4⟩, m0, m1, m2, m3⟩ := HS4.out.facts
  go_wp2
  obtain ⟨s1, s2, s3⟩ := HS4.out.stop (.slice (some ⟨g, 0, none⟩) fs.length fc)
  refine bodyPost_ret (v := .tuple #[.agg #[.int .i64 cap, .slice (some ⟨g, 0, none⟩) fs.length fc], .bool false, .int .i64 23]) (by simp [results, Try.results12, go_sem, s1, s2]) rfl ⟨_, rfl, .inl ⟨rfl, rfl⟩, s3⟩

set_option maxHeartbeats 4000000 in
theorem rdo_bad (cap : Int) (fa : Option Addr) (g fc : Nat) (fs : List Fr) (a : A) (w : World) (hr : RowAt w fa g fs) (hlen : fs.length ≤ 900) (hk0 : (a.kind == 0) = false) (hk2 : (a.kind == 2) = false) (hk1 : a.kind = 1) (k : Nat) (f : Fr) (hup : f.up = true) (hn : a.time < 0 ∨ 9007199254740992 < a.time) (he : atF fs a.id = (k : Int)) (hfk : fs[k]? = some f) :
    Calls Try.prog 12 #[.agg #[.int .i64 cap, .slice fa fs.length fc], encA a] w (RAns cap w (.slice fa fs.length fc) fs ((false, 41), fs)) := by
  have HR := Lib.hid hr
  have HS := Lib.hid (SSt.start w cap (.slice fa fs.length fc) a)
  have HL := Lib.hid hlen
  have HK := Lib.hid (List.getElem?_eq_some_iff.1 hfk).1
  have HF := Lib.hid hfk
  have hR0 := hr.below HS.out.chg (Nat.le_refl _)
  have K1 := at_calls cap a.id fa g fc fs _ hlen hR0.lt hR0.at'
  rw [he] at K1
  have K1' := Lib.hid K1
  clear K1
  obtain ⟨ak, ai, ar, aw, at'⟩ := a
  simp only at HS K1' hk0 hk2 hk1 hn
  unfold encA
  simp only
  subst hk1
  have HN := Lib.hid hn
  clear hn
  clear hr hlen hR0 he hfk
  go_enter Try.func12, Try.ntmps12
  go_wp2_with fail
  refine K1'.out.mono ?_
  rintro e w1 ⟨rfl, hb1⟩
  have HS1 := Lib.hid (HS.out.below hb1 HS.out.lt)
  clear K1' HS hb1
  obtain ⟨⟨b0, b1⟩, ⟨a0, a1, a2, a3, a4⟩, r0, r1, r2, r3⟩ := HS1.out.facts
  have HR1 := Lib.hid (HR.out.below HS1.out.chg (Nat.le_refl _))
  obtain ⟨hfa, hg⟩ := HR1.out.lt (by have := HK.out; omega)
  subst hfa
  have hc := HR1.out.at' k HK.out
  rw [show fs[k]'HK.out = f from (List.getElem?_eq_some_iff.1 HF.out).2, Nat.zero_add] at hc
  obtain ⟨c0, c1, c2, c3, c4, c5, c6⟩ := hc
  have hk0 : (0 : Int) ≤ (k : Int) := by omega
  have hki : (k : Int) < (fs.length : Int) := by have := HK.out; omega
  obtain ⟨fid, frole, fw, fu, fq, ft, fl⟩ := f
  simp only at hup
  subst hup
  simp only at c0 c1 c2 c3 c4 c5 c6
  clear hg
  have HS4 := Lib.hid (HS1.out.alloc (.cells #[.int .i64 fid, .int .i64 frole, .int .i64 fw, .bool true, .bool fq, .int .i64 ft, .int .i64 fl] 30))
  obtain ⟨⟨d0, d1⟩, ⟨n0, n1, n2, n3, n4⟩, m0, m1, m2, m3⟩ := HS4.out.facts
  have hq : at' < 0 ∨ ¬ at' < 0 ∧ 9007199254740992 < at' := by have := HN.out; omega
  rcases hq with hq | ⟨hq1, hq2⟩
  all_goals
    go_wp2
    obtain ⟨s1, s2, s3⟩ := HS4.out.stop (.slice (some ⟨g, 0, none⟩) fs.length fc)
    refine bodyPost_ret (v := .tuple #[.agg #[.int .i64 cap, .slice (some ⟨g, 0, none⟩) fs.length fc], .bool false, .int .i64 41]) (by simp [results, Try.results12, go_sem, s1, s2]) rfl ⟨_, rfl, .inl ⟨rfl, rfl⟩, s3⟩

set_option maxHeartbeats 4000000 in
theorem rdo_away (cap : Int) (fa : Option Addr) (g fc : Nat) (fs : List Fr) (a : A) (w : World) (hr : RowAt w fa g fs) (hlen : fs.length ≤ 900) (hk0 : (a.kind == 0) = false) (hk2 : (a.kind == 2) = false) (hk1 : a.kind = 1) (k : Nat) (f : Fr) (hup : f.up = true) (hn : 0 ≤ a.time ∧ a.time ≤ 9007199254740992) (ht : 0 ≤ f.time ∧ f.time ≤ 9007199254740992) (he : atF fs a.id = (k : Int)) (hfk : fs[k]? = some f) :
    Calls Try.prog 12 #[.agg #[.int .i64 cap, .slice fa fs.length fc], encA a] w (RAns cap w (.slice fa fs.length fc) fs ((false, 0), withF fs { f with up := false, till := a.time + f.time })) := by
  have HR := Lib.hid hr
  have HS := Lib.hid (SSt.start w cap (.slice fa fs.length fc) a)
  have HL := Lib.hid hlen
  have HK := Lib.hid (List.getElem?_eq_some_iff.1 hfk).1
  have HF := Lib.hid hfk
  have hR0 := hr.below HS.out.chg (Nat.le_refl _)
  have K1 := at_calls cap a.id fa g fc fs _ hlen hR0.lt hR0.at'
  rw [he] at K1
  have K1' := Lib.hid K1
  clear K1
  obtain ⟨ak, ai, ar, aw, at'⟩ := a
  simp only at HS K1' hk0 hk2 hk1 hn
  unfold encA
  simp only
  subst hk1
  obtain ⟨hn1, hn2⟩ := hn
  clear hr hlen hR0 he hfk
  go_enter Try.func12, Try.ntmps12
  go_wp2_with fail
  refine K1'.out.mono ?_
  rintro e w1 ⟨rfl, hb1⟩
  have HS1 := Lib.hid (HS.out.below hb1 HS.out.lt)
  clear K1' HS hb1
  obtain ⟨⟨b0, b1⟩, ⟨a0, a1, a2, a3, a4⟩, r0, r1, r2, r3⟩ := HS1.out.facts
  have HR1 := Lib.hid (HR.out.below HS1.out.chg (Nat.le_refl _))
  obtain ⟨hfa, hg⟩ := HR1.out.lt (by have := HK.out; omega)
  subst hfa
  have hc := HR1.out.at' k HK.out
  rw [show fs[k]'HK.out = f from (List.getElem?_eq_some_iff.1 HF.out).2, Nat.zero_add] at hc
  obtain ⟨c0, c1, c2, c3, c4, c5, c6⟩ := hc
  have hk0 : (0 : Int) ≤ (k : Int) := by omega
  have hki : (k : Int) < (fs.length : Int) := by have := HK.out; omega
  obtain ⟨fid, frole, fw, fu, fq, ft, fl⟩ := f
  simp only at hup ht
  obtain ⟨ht1, ht2⟩ := ht
  subst hup
  simp only at c0 c1 c2 c3 c4 c5 c6
  clear hg
  have HS4 := Lib.hid (HS1.out.alloc (.cells #[.int .i64 fid, .int .i64 frole, .int .i64 fw, .bool true, .bool fq, .int .i64 ft, .int .i64 fl] 30))
  obtain ⟨⟨d0, d1⟩, ⟨n0, n1, n2, n3, n4⟩, m0, m1, m2, m3⟩ := HS4.out.facts
  have HS4b := Lib.hid (HS1.out.alloc (.cells #[.int .i64 fid, .int .i64 frole, .int .i64 fw, .bool false, .bool fq, .int .i64 ft, .int .i64 fl] 30))
  obtain ⟨_, ⟨p0, p1, p2, p3, p4⟩, _⟩ := HS4b.out.facts
  go_wp2_with fail
  go_region
  clear HS4b p0 p1 p2 p3 p4
  have HS5 := Lib.hid ((HS1.out.alloc (.cells #[.int .i64 fid, .int .i64 frole, .int .i64 fw, .bool false, .bool fq, .int .i64 ft, .int .i64 (at' + ft)] 30)).drew)
  clear d0 d1 n0 n1 n2 n3 n4 m0 m1 m2 m3 HS4 b0 b1 a0 a1 a2 a3 a4 r0 r1 r2 r3 c0 c1 c2 c3 c4 c5 c6
  have hR5 := HR.out.below HS5.out.chg (Nat.le_refl _)
  have K3 := with_calls cap ⟨fid, frole, fw, false, fq, ft, at' + ft⟩ (some ⟨g, 0, none⟩) g fc fs _ HL.out hR5.lt hR5.at'
  simp only [encF_agg] at K3
  have K3' := Lib.hid K3
  clear hR5 K3
  obtain ⟨⟨e0, e1⟩, _, _⟩ := HS5.out.facts
  go_wp2_with fail
  refine K3'.out.mono ?_
  rintro e w4 ⟨v, rfl, hrow, hb4⟩
  obtain ⟨va, vg, vc, rfl, _, _⟩ := frow_cell hrow
  have HRW := Lib.hid hrow
  have HS6 := Lib.hid (HS5.out.below hb4 HS5.out.lt)
  have HLt := Lib.hid HS5.out.lt
  clear hrow hb4 K3' e0 e1 HS5
  obtain ⟨⟨b0, b1⟩, ⟨a0, a1, a2, a3, a4⟩, r0, r1, r2, r3⟩ := HS6.out.facts
  go_wp2
  obtain ⟨s1, s2, s3⟩ := HS6.out.stop (.slice va (withF fs ⟨fid, frole, fw, false, fq, ft, at' + ft⟩).length vc)
  refine bodyPost_ret (v := .tuple #[.agg #[.int .i64 cap, .slice va (withF fs ⟨fid, frole, fw, false, fq, ft, at' + ft⟩).length vc], .bool false, .int .i64 0]) (by simp [results, Try.results12, go_sem, s1, s2]) rfl ⟨_, rfl, .inr (row_stop HRW.out HLt.out _ _), s3⟩
end Go.Proofs.Ytdckcbahfdcafaa.F
