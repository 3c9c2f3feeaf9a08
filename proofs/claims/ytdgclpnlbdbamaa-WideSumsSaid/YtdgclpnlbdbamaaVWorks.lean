/- The small run that each statement does last answers true. -/
import Derived.Test.YtdgclpnlbdbamaaVTextA
import Derived.Test.YtdgclpnlbdbamaaVSub
import Derived.Test.YtdgclpnlbdbamaaVLawWorks
set_option linter.unusedVariables false
set_option linter.unusedSimpArgs false
namespace Go.Proofs.Ytdgclpnlbdbamaa.V
open Go.RowKit Go.Proofs.YtdgclpnlbdbamaaW.PrintWords Go.Proofs.YtdgclpnlbdbamaaW.PrintLast Go.Proofs.YtdgclpnlbdbamaaW.PrintMore Go.Proofs.Ytdgclpnlbdbamaa.Num

theorem cmp_tells {a0 a1 b0 b1 : Int} (h0 : half a0) (h1 : half a1) (h2 : half b0) (h3 : half b1) :
    wide_Wide_Cmp.f a0 a1 b0 b1 = some (if num a0 a1 < num b0 b1 then -1 else if num b0 b1 < num a0 a1 then 1 else 0) := by
  unfold wide_Wide_Cmp.f
  unfold half num at *
  by_cases e : a0 = b0
  · by_cases e' : a1 = b1
    · subst e; subst e'
      rw [if_pos (by simp)]
      congr 1
      rw [if_neg (by omega), if_neg (by omega)]
    · rw [if_neg (by simp [e'])]
      rw [if_neg (by omega), if_pos e]
      by_cases hl : a1 < b1
      · rw [if_pos hl, if_pos (by omega)]
      · rw [if_neg hl, if_neg (by omega), if_pos (by omega)]
  · rw [if_neg (by simp [e])]
    by_cases hl : a0 < b0
    · rw [if_pos hl, if_pos (by omega)]
    · rw [if_neg hl, if_neg e, if_neg (by omega), if_pos (by omega)]

theorem sub_tells {a0 a1 b0 b1 : Int} (h0 : half a0) (h1 : half a1) (h2 : half b0) (h3 : half b1) :
    wide_Wide_Sub.f a0 a1 b0 b1 = some ((num a0 a1 - num b0 b1) / 18446744073709551616 % 18446744073709551616, (num a0 a1 - num b0 b1) % 18446744073709551616, decide (num b0 b1 ≤ num a0 a1)) := by
  unfold wide_Wide_Sub.f
  rw [cmp_tells h0 h1 h2 h3]
  simp only [Option.bind_some, wu]
  have hd : decide ((if num a0 a1 < num b0 b1 then (-1 : Int) else if num b0 b1 < num a0 a1 then 1 else 0) ≥ 0) = decide (num b0 b1 ≤ num a0 a1) := by
    rw [decide_eq_decide]
    split
    · omega
    · split <;> omega
  rw [hd]
  unfold half num at *
  split
  · refine congrArg some (Prod.ext ?_ (Prod.ext ?_ rfl))
    · show _ % _ = _ / _ % _; omega
    · show _ % _ = _ % _; omega
  · refine congrArg some (Prod.ext ?_ (Prod.ext ?_ rfl))
    · show _ % _ = _ / _ % _; omega
    · show _ % _ = _ % _; omega

theorem works_tells (k : Nat) (hk : 2000 ≤ k) : manciplelaw01_works.f k = some true := by
  have hz : half 0 := by unfold half; omega
  have h7 : half 7 := by unfold half; omega
  have h8 : half 8 := by unfold half; omega
  have h6 : half 6 := by unfold half; omega
  have hb : half 9223372036854775808 := by unfold half; omega
  have h3 : half 3 := by unfold half; omega
  unfold manciplelaw01_works.f
  rw [of_tells, of_tells]
  simp only [Option.bind_some]
  rw [sub_tells hz h7 hz h8, mul_tells hb h6]
  simp only [Option.bind_some]
  have e1 : (9223372036854775808 * 6 : Int) / 18446744073709551616 = 3 := by decide
  have e2 : (9223372036854775808 * 6 : Int) % 18446744073709551616 = 0 := by decide
  rw [e1, e2, div_tells k h3 hz (d := 5) (by decide) (by omega)]
  simp only [Option.bind_some]
  have ht := text_tells k 0 hz hz (by rfl) hk
  have e3 : ¬ decide (num 0 8 ≤ num 0 7) = true := by decide
  have e4 : (num 0 7 - num 0 8) / 18446744073709551616 % 18446744073709551616 = 18446744073709551615 := by decide
  have e5 : num 3 0 / 5 / 18446744073709551616 = 0 := by decide
  have e6 : num 3 0 % 5 = 3 := by decide
  rw [if_pos (by rfl), if_neg e3, if_pos e4, if_pos e5, if_pos e6, of_tells]
  simp only [Option.bind_some]
  rw [ht, chars_small (by decide)]
  simp only [Option.bind_some, List.reverse_singleton]
  have e7 : (strOfNums [48 + ((0 : Nat) : Int)]).toList = [48] := by rw [ByteArray.toList_eq]; rfl
  rw [e7]; rfl
end Go.Proofs.Ytdgclpnlbdbamaa.V
