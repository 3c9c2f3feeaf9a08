/- The reference's subscribe, refused. -/
import Derived.Test.YtdckcbahfdcafaaRef8
set_option linter.unusedVariables false
set_option linter.unusedSimpArgs false
namespace Go.Proofs.Ytdckcbahfdcafaa.F
open Go.RowKit Go.Sort Go.Proofs.Ytdckcbahfdcafaa.Hp Go.Proofs.Ytdckcbahfdcafaa.Mp
set_option maxRecDepth 100000

set_option maxHeartbeats 4000000 in
theorem rsub_arg (cap : Int) (sl : Value) (fs : List Fr) (a : A) (w : World) (hr : Row w sl fs) (h : ¬ MayA a) : Calls Try.prog 30 #[.agg #[.int .i64 cap, sl], encA a] w (RAns cap w sl fs ((false, 41), fs)) := by
  obtain ⟨fa, g, fc, rfl, ha, hc⟩ := hr
  have HR : Hid (Row w (.slice fa fs.length fc) fs) := Lib.hid ⟨fa, g, fc, rfl, ha, hc⟩
  clear ha hc
  have H := Lib.hid h
  clear h
  have key : a.id < 1 ∨ 1 ≤ a.id ∧ a.role < 1 ∨ 1 ≤ a.id ∧ 1 ≤ a.role ∧ 32 < a.role ∨ 1 ≤ a.id ∧ 1 ≤ a.role ∧ a.role ≤ 32 ∧ a.weight < 1 ∨ 1 ≤ a.id ∧ 1 ≤ a.role ∧ a.role ≤ 32 ∧ 1 ≤ a.weight ∧ 1000 < a.weight ∨
      1 ≤ a.id ∧ 1 ≤ a.role ∧ a.role ≤ 32 ∧ 1 ≤ a.weight ∧ a.weight ≤ 1000 ∧ a.time < 0 ∨ 1 ≤ a.id ∧ 1 ≤ a.role ∧ a.role ≤ 32 ∧ 1 ≤ a.weight ∧ a.weight ≤ 1000 ∧ 0 ≤ a.time ∧ 9007199254740992 < a.time := by
    have := H.out
    unfold MayA at this
    omega
  obtain ⟨ak, ai, ar, aw, at'⟩ := a
  simp only at key
  unfold encA
  simp only
  rcases key with h1 | ⟨h1, h2⟩ | ⟨h1, h2, h3⟩ | ⟨h1, h2, h3, h4⟩ | ⟨h1, h2, h3, h4, h5⟩ | ⟨h1, h2, h3, h4, h5, h6⟩ | ⟨h1, h2, h3, h4, h5, h6, h7⟩
  all_goals
    go_enter Try.func30, Try.ntmps30
    go_wp2
    refine bodyPost_ret (v := .tuple #[.agg #[.int .i64 cap, .slice fa fs.length fc], .bool false, .int .i64 41]) (by simp [results, Try.results30, go_sem]) rfl ⟨_, rfl, .inl ⟨rfl, rfl⟩, ?_⟩
    exact (((Below.refl _ w).alloc (Nat.le_refl _) _).alloc (by simp) _).alloc (by simp; omega) _
end Go.Proofs.Ytdckcbahfdcafaa.F
