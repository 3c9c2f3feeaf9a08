/- The reference's Do, walked: subscribing, nobody there. -/
import Derived.Test.YtdckcbahfdcafaaRef12
set_option linter.unusedVariables false
set_option linter.unusedSimpArgs false
namespace Go.Proofs.Ytdckcbahfdcafaa.F
open Go.RowKit Go.Sort Go.Proofs.Ytdckcbahfdcafaa.Hp Go.Proofs.Ytdckcbahfdcafaa.Mp
set_option maxRecDepth 100000

set_option maxHeartbeats 4000000 in
theorem rdo_sub (cap : Int) (fa : Option Addr) (g fc : Nat) (fs : List Fr) (a : A) (w : World) (hr : RowAt w fa g fs) (hlen : fs.length ≤ 900) (hkind : a.kind = 0) :
    Calls Try.prog 12 #[.agg #[.int .i64 cap, .slice fa fs.length fc], encA a] w (RAns cap w (.slice fa fs.length fc) fs (rsubF cap fs a)) := by
  have HS := Lib.hid (SSt.start w cap (.slice fa fs.length fc) a)
  have hR0 := hr.below HS.out.chg (Nat.le_refl _)
  have K1 := Lib.hid (rsub_calls cap fa g fc fs a _ hR0 hlen)
  clear hr hR0
  generalize rsubF cap fs a = s at *
  obtain ⟨⟨sb, si⟩, fs'⟩ := s
  obtain ⟨ak, ai, ar, aw, at'⟩ := a
  simp only at HS hkind
  subst hkind
  unfold encA at *
  simp only at K1 ⊢
  clear hlen
  go_enter Try.func12, Try.ntmps12
  go_wp2_with fail
  refine K1.out.mono ?_
  rintro e w1 ⟨v, rfl, hrow, hb1⟩
  simp only
  have HS1 := Lib.hid (HS.out.below hb1 HS.out.lt)
  have hsz := HS.out.lt
  have HRW := Lib.hid hrow
  have HLt := Lib.hid hsz
  have hv : ∃ va n vc, v = .slice va n vc := by
    rcases hrow with ⟨e, _⟩ | h
    · exact ⟨_, _, _, e⟩
    · obtain ⟨va, vg, vc, e, _⟩ := frow_cell h
      exact ⟨_, _, _, e⟩
  obtain ⟨va, vn, vc, rfl⟩ := hv
  clear K1 hb1 hsz hrow
  obtain ⟨⟨b0, b1⟩, ⟨a0, a1, a2, a3, a4⟩, r0, r1, r2, r3⟩ := HS1.out.facts
  go_wp2
  obtain ⟨s1, s2, s3⟩ := HS1.out.stop (.slice va vn vc)
  refine bodyPost_ret (v := .tuple #[.agg #[.int .i64 cap, .slice va vn vc], .bool sb, .int .i64 si]) (by simp [results, Try.results12, go_sem, s1, s2]) rfl ⟨_, rfl, ?_, s3⟩
  exact HRW.out.imp id (fun h => row_stop h HLt.out _ _)

set_option maxHeartbeats 4000000 in
theorem rdo_none (cap : Int) (fa : Option Addr) (g fc : Nat) (fs : List Fr) (a : A) (w : World) (hr : RowAt w fa g fs) (hlen : fs.length ≤ 900) (hk0 : (a.kind == 0) = false) (hk2 : (a.kind == 2) = false) (he : atF fs a.id = -1) :
    Calls Try.prog 12 #[.agg #[.int .i64 cap, .slice fa fs.length fc], encA a] w (RAns cap w (.slice fa fs.length fc) fs ((false, 43), fs)) := by
  have HR := Lib.hid hr
  have HS := Lib.hid (SSt.start w cap (.slice fa fs.length fc) a)
  have HL := Lib.hid hlen
  have hR0 := hr.below HS.out.chg (Nat.le_refl _)
  have K1 := at_calls cap a.id fa g fc fs _ hlen hR0.lt hR0.at'
  rw [he] at K1
  have K1' := Lib.hid K1
  clear K1
  obtain ⟨ak, ai, ar, aw, at'⟩ := a
  simp only at HS K1' hk0 hk2
  unfold encA
  simp only
  clear hr hlen hR0 he
  go_enter Try.func12, Try.ntmps12
  go_wp2_with fail
  refine K1'.out.mono ?_
  rintro e w1 ⟨rfl, hb1⟩
  have HS1 := Lib.hid (HS.out.below hb1 HS.out.lt)
  clear K1' HS hb1
  obtain ⟨⟨b0, b1⟩, ⟨a0, a1, a2, a3, a4⟩, r0, r1, r2, r3⟩ := HS1.out.facts
  go_wp2
  obtain ⟨s1, s2, s3⟩ := HS1.out.stop (.slice fa fs.length fc)
  refine bodyPost_ret (v := .tuple #[.agg #[.int .i64 cap, .slice fa fs.length fc], .bool false, .int .i64 43]) (by simp [results, Try.results12, go_sem, s1, s2]) rfl ⟨_, rfl, .inl ⟨rfl, rfl⟩, s3⟩
end Go.Proofs.Ytdckcbahfdcafaa.F
