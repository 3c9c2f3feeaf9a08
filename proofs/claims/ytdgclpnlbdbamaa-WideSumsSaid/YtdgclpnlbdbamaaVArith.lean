/- What the program's own numbers of two halves compute, as printed, in plain arithmetic: sums, differences, products, shifts. -/
import Derived.Test.YtdgclpnlbdbamaaVAdd
import Derived.Test.YtdgclpnlbdbamaaVMul
import Derived.Test.YtdgclpnlbdbamaaVTimes
import Derived.Test.YtdgclpnlbdbamaaVOf
import Derived.Test.YtdgclpnlbdbamaaVNum
set_option linter.unusedVariables false
set_option linter.unusedSimpArgs false
namespace Go.Proofs.Ytdgclpnlbdbamaa.V
open Go.RowKit Go.Proofs.YtdgclpnlbdbamaaW.PrintWords Go.Proofs.YtdgclpnlbdbamaaW.PrintLast Go.Proofs.YtdgclpnlbdbamaaW.PrintMore Go.Proofs.Ytdgclpnlbdbamaa.Num

/-- The whole number 2^64, kept closed. -/
theorem add_tells {a0 a1 b0 b1 : Int} (h0 : half a0) (h1 : half a1) (h2 : half b0) (h3 : half b1) :
    wide_Wide_Add.f a0 a1 b0 b1 = some ((num a0 a1 + num b0 b1) / 18446744073709551616 % 18446744073709551616, (num a0 a1 + num b0 b1) % 18446744073709551616, decide (num a0 a1 + num b0 b1 < 340282366920938463463374607431768211456)) := by
  unfold wide_Wide_Add.f
  simp only [wu]
  unfold half num at *
  split
  · split
    · refine congrArg some (Prod.ext ?_ (Prod.ext ?_ ?_))
      · show _ % _ = _ % _; omega
      · show _ % _ = _ % _; omega
      · show false = decide _
        symm; rw [decide_eq_false_iff_not]; omega
    · refine congrArg some (Prod.ext ?_ (Prod.ext ?_ ?_))
      · show _ % _ = _ % _; omega
      · show _ % _ = _ % _; omega
      · show (!(_ == (0 : Int))) = decide _
        rw [Bool.eq_iff_iff]
        simp only [Bool.not_eq_true', beq_eq_false_iff_ne, decide_eq_true_eq]
        omega
  · refine congrArg some (Prod.ext ?_ (Prod.ext ?_ ?_))
    · show _ % _ = _ % _; omega
    · show _ % _ = _ % _; omega
    · show (!(decide _)) = decide _
      rw [Bool.eq_iff_iff]
      simp only [Bool.not_eq_true', decide_eq_false_iff_not, decide_eq_true_eq]
      omega

theorem mul_tells {a b : Int} (h0 : half a) (h1 : half b) :
    wide_Mul.f a b = some (a * b / 18446744073709551616, a * b % 18446744073709551616) := by
  unfold wide_Mul.f
  have ha := h0; have hb := h1
  unfold half at ha hb
  rw [and_low a ha.1 ha.2, and_low b hb.1 hb.2]
  obtain ⟨ah, hah⟩ : ∃ x, x = a / 4294967296 := ⟨_, rfl⟩
  obtain ⟨al, hal⟩ : ∃ x, x = a % 4294967296 := ⟨_, rfl⟩
  obtain ⟨bh, hbh⟩ : ∃ x, x = b / 4294967296 := ⟨_, rfl⟩
  obtain ⟨bl, hbl⟩ : ∃ x, x = b % 4294967296 := ⟨_, rfl⟩
  rw [← hah, ← hal, ← hbh, ← hbl]
  have ra : a = ah * 4294967296 + al := by omega
  have rb : b = bh * 4294967296 + bl := by omega
  have b1 : 0 ≤ ah ∧ ah ≤ 4294967295 := by omega
  have b2 : 0 ≤ al ∧ al ≤ 4294967295 := by omega
  have b3 : 0 ≤ bh ∧ bh ≤ 4294967295 := by omega
  have b4 : 0 ≤ bl ∧ bl ≤ 4294967295 := by omega
  have bnd : ∀ {x y : Int}, 0 ≤ x ∧ x ≤ 4294967295 → 0 ≤ y ∧ y ≤ 4294967295 → 0 ≤ x * y ∧ x * y ≤ 18446744065119617025 := by
    intro x y hx hy
    refine ⟨Int.mul_nonneg hx.1 hy.1, ?_⟩
    have : x * y ≤ 4294967295 * 4294967295 := Int.mul_le_mul hx.2 hy.2 hy.1 (by decide)
    simpa using this
  have p1 := bnd b1 b3
  have p2 := bnd b1 b4
  have p3 := bnd b2 b3
  have p4 := bnd b2 b4
  have e : a * b = (ah * bh) * 18446744073709551616 + (ah * bl + al * bh) * 4294967296 + al * bl := by
    rw [ra, rb]
    simp only [Int.add_mul, Int.mul_add]
    have e1 : ah * 4294967296 * (bh * 4294967296) = ah * bh * 18446744073709551616 := by
      rw [Int.mul_assoc, Int.mul_left_comm 4294967296 bh, ← Int.mul_assoc]; rfl
    have e2 : ah * 4294967296 * bl = ah * bl * 4294967296 := by rw [Int.mul_right_comm]
    have e3 : al * (bh * 4294967296) = al * bh * 4294967296 := by rw [Int.mul_assoc]
    rw [e1, e2, e3]; omega
  rw [e]
  clear e ra rb hah hal hbh hbl bnd
  generalize ah * bh = p at *
  generalize ah * bl = q at *
  generalize al * bh = r at *
  generalize al * bl = s at *
  rw [wu_id p (by omega) (by omega), wu_id q (by omega) (by omega), wu_id r (by omega) (by omega), wu_id s (by omega) (by omega)]
  rw [and_low s (by omega) (by omega)]
  rw [wu_id (q + s / 4294967296) (by omega) (by omega)]
  rw [and_low (q + s / 4294967296) (by omega) (by omega)]
  rw [wu_id (r + (q + s / 4294967296) % 4294967296) (by omega) (by omega)]
  rw [wu_id (p + (q + s / 4294967296) / 4294967296) (by omega) (by omega)]
  simp only [wu]
  refine congrArg some (Prod.ext ?_ ?_)
  · show _ % _ = _ / _; omega
  · show _ % _ = _ % _; omega

theorem mul_half {a b : Int} (h0 : half a) (h1 : half b) : half (a * b / 18446744073709551616) := by
  unfold half at *
  have h : 0 ≤ a * b := Int.mul_nonneg h0.1 h1.1
  have h' : a * b ≤ 18446744073709551615 * 18446744073709551615 := Int.mul_le_mul (by omega) (by omega) h1.1 (by decide)
  omega

theorem times_tells {a0 a1 b : Int} (h0 : half a0) (h1 : half a1) (h2 : half b) :
    wide_Wide_Times.f a0 a1 b = some (num a0 a1 * b / 18446744073709551616 % 18446744073709551616, num a0 a1 * b % 18446744073709551616, decide (num a0 a1 * b < 340282366920938463463374607431768211456)) := by
  unfold wide_Wide_Times.f
  rw [mul_tells h0 h2, mul_tells h1 h2]
  simp only [Option.bind_some]
  rw [add_tells (mul_half h1 h2) (half_mod _) (half_mod _) (by unfold half; omega)]
  simp only [Option.bind_some]
  have e : num a0 a1 * b = a0 * b * 18446744073709551616 + a1 * b := by
    unfold num; rw [Int.add_mul, Int.mul_right_comm]
  rw [e, num_split]
  have n0 : 0 ≤ a0 * b := Int.mul_nonneg h0.1 h2.1
  have n1 : 0 ≤ a1 * b := Int.mul_nonneg h1.1 h2.1
  have n2 : a1 * b ≤ 18446744073709551615 * 18446744073709551615 := Int.mul_le_mul (by unfold half at *; omega) (by unfold half at *; omega) h2.1 (by decide)
  generalize a0 * b = p at *
  generalize a1 * b = q at *
  unfold num
  split
  · rename_i h
    have h := of_decide_eq_true h
    refine congrArg some (Prod.ext ?_ (Prod.ext ?_ ?_))
    · show _ % _ = _ % _; omega
    · show _ % _ = _ % _; omega
    · show (_ == (0 : Int)) = decide _
      rw [Bool.eq_iff_iff]
      simp only [beq_iff_eq, decide_eq_true_eq]
      omega
  · rename_i h
    have h := of_decide_eq_false (Bool.eq_false_iff.2 h)
    refine congrArg some (Prod.ext ?_ (Prod.ext ?_ ?_))
    · show _ % _ = _ % _; omega
    · show _ % _ = _ % _; omega
    · show false = decide _
      symm; rw [decide_eq_false_iff_not]; omega

theorem of_tells (a : Int) : wide_Of.f a = some (0, a) := rfl
end Go.Proofs.Ytdgclpnlbdbamaa.V
