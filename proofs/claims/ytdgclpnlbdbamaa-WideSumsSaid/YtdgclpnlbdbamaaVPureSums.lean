/- The law WideSums: the plain law, and the walk's end. -/
import Derived.Test.YtdgclpnlbdbamaaVArith
import Derived.Test.YtdgclpnlbdbamaaVDigits
import Derived.Test.YtdgclpnlbdbamaaVHalves
import Derived.Test.YtdgclpnlbdbamaaVSumLess
import Derived.Test.YtdgclpnlbdbamaaVWorks
import Derived.Test.YtdgclpnlbdbamaaVLawWideSums
set_option linter.unusedVariables false
set_option linter.unusedSimpArgs false
namespace Go.Proofs.Ytdgclpnlbdbamaa.V
open Go.RowKit Go.Proofs.YtdgclpnlbdbamaaW.PrintWords Go.Proofs.YtdgclpnlbdbamaaW.PrintLast Go.Proofs.YtdgclpnlbdbamaaW.PrintMore Go.Proofs.Ytdgclpnlbdbamaa.Num

theorem after_tells (b : Bool) : manciplelaw01_after.f b = some (if b = true then 1 else 0) := by
  unfold manciplelaw01_after.f
  cases b <;> rfl

theorem sums_join (k : Nat) (hk : 2000 ≤ k) {a0 a1 b0 b1 : Int} (h0 : half a0) (h1 : half a1) (h2 : half b0) (h3 : half b1) (c : Int)
    (hc : c = if num a0 a1 < num b0 b1 then -1 else if num b0 b1 < num a0 a1 then 1 else 0) :
    manciplelaw01_WideSums.j0 (k + 1) (decide (num a0 a1 + num b0 b1 < 340282366920938463463374607431768211456)) (decide (num b0 b1 ≤ num a0 a1)) (decide (num a0 a1 < num b0 b1)) c a0 a1 b0 b1
      ((num a0 a1 + num b0 b1) / 18446744073709551616 % 18446744073709551616) ((num a0 a1 + num b0 b1) % 18446744073709551616)
      ((num a0 a1 - num b0 b1) / 18446744073709551616 % 18446744073709551616) ((num a0 a1 - num b0 b1) % 18446744073709551616) = some true := by
  obtain ⟨lA, eA, dA, nA, vA⟩ := own_tells k h0 h1 (by omega)
  obtain ⟨lB, eB, dB, nB, vB⟩ := own_tells k h2 h3 (by omega)
  obtain ⟨lD, eD, dD, nD, vD⟩ := own_tells k (half_mod ((num a0 a1 - num b0 b1) / 18446744073709551616)) (half_mod (num a0 a1 - num b0 b1)) (by omega)
  obtain ⟨lS, eS, dS, nS, vS⟩ := sum_tells k dA dB (by omega) (by omega) (by omega)
  obtain ⟨lT, eT, dT, nT, vT⟩ := sum_tells k dD dB (by omega) (by omega) (by omega)
  have hA0 := num_nonneg h0 h1
  have hA1 := num_lt h0 h1
  have hB0 := num_nonneg h2 h3
  have hB1 := num_lt h2 h3
  have ea0 : num a0 a1 / 18446744073709551616 % 18446744073709551616 = a0 := by rw [num_div _ _ h1]; unfold half at h0; omega
  have ea1 : num a0 a1 % 18446744073709551616 = a1 := num_mod _ _ h1
  have hcmp := cmp_tells h0 h1 h2 h3
  have hT8 := val_take_drop lT 8 (by omega)
  have bT8 := val_bound (dT.take 8)
  have bT1 := val_bound (dT.drop 8)
  rw [List.length_take, Nat.min_eq_left (by omega)] at bT8
  rw [pw8] at hT8 bT8
  have hD : val lD = (num a0 a1 - num b0 b1) % 340282366920938463463374607431768211456 := by
    rw [vD]
    generalize num a0 a1 - num b0 b1 = x
    unfold num; omega
  rw [vA, vB] at vS
  rw [hD, vB] at vT
  rw [vT] at hT8
  have tl : Dig (lT.take 8 ++ [if decide (num a0 a1 < num b0 b1) = true then (1 : Int) else 0]) := (dT.take 8).append (Dig.one (by split <;> omega))
  have tn : (lT.take 8 ++ [if decide (num a0 a1 < num b0 b1) = true then (1 : Int) else 0]).length = 9 := by rw [List.length_append, List.length_take]; simp; omega
  have tv : val (lT.take 8 ++ [if decide (num a0 a1 < num b0 b1) = true then (1 : Int) else 0]) = num a0 a1 + 340282366920938463463374607431768211456 * (if decide (num a0 a1 < num b0 b1) = true then (1 : Int) else 0) := by
    rw [val_append, List.length_take, Nat.min_eq_left (by omega), pw8]
    have : val (lT.take 8) = num a0 a1 := by
      generalize num a0 a1 = A at *
      generalize num b0 b1 = B at *
      omega
    rw [this]
    simp only [val, Int.mul_zero, Int.add_zero]
  rw [manciplelaw01_WideSums.j0]
  rw [bind_of eD, bind_of eB, bind_of eT, bind_of (halves_tells k dT (by omega) (by omega) (by omega)), bind_of eA, bind_of eB, bind_of eS]
  rw [bind_of (is_tells k dS (by omega) (by omega) (by omega) _ (by rw [vS]) (by rw [vS]) (by rw [vS])), if_pos rfl]
  have hun : (decide (num b0 b1 ≤ num a0 a1) == !decide (num a0 a1 < num b0 b1)) = true := by
    by_cases h : num a0 a1 < num b0 b1
    · rw [decide_eq_true h, decide_eq_false (by omega)]; rfl
    · rw [decide_eq_false h, decide_eq_true (by omega)]; rfl
  have hback : val lT / 18446744073709551616 % 18446744073709551616 = a0 := by
    rw [vT]
    refine Eq.trans ?_ ea0
    generalize num a0 a1 = A at *
    generalize num b0 b1 = B at *
    omega
  rw [if_pos hun, if_pos hback, bind_of eD, bind_of eB, bind_of eT, bind_of (after_tells _), if_pos (by omega)]
  have hfit : decide (num b0 b1 ≤ num a0 a1) = decide (num a0 a1 + 340282366920938463463374607431768211456 * (if decide (num a0 a1 < num b0 b1) = true then (1 : Int) else 0) < 340282366920938463463374607431768211456) := by
    rw [decide_eq_decide]
    by_cases h : num a0 a1 < num b0 b1
    · rw [decide_eq_true h, if_pos rfl]; omega
    · rw [decide_eq_false h, if_neg (by simp)]; omega
  have hhi : a0 = (num a0 a1 + 340282366920938463463374607431768211456 * (if decide (num a0 a1 < num b0 b1) = true then (1 : Int) else 0)) / 18446744073709551616 % 18446744073709551616 := by
    generalize (if decide (num a0 a1 < num b0 b1) = true then (1 : Int) else 0) = x
    refine ea0.symm.trans ?_
    generalize num a0 a1 = A at *
    omega
  have hlo : a1 = (num a0 a1 + 340282366920938463463374607431768211456 * (if decide (num a0 a1 < num b0 b1) = true then (1 : Int) else 0)) % 18446744073709551616 := by
    generalize (if decide (num a0 a1 < num b0 b1) = true then (1 : Int) else 0) = x
    refine ea1.symm.trans ?_
    generalize num a0 a1 = A at *
    omega
  rw [bind_of (is_tells k tl (by omega) (by omega) (by omega) _ (by rw [tv]; exact hfit) (by rw [tv]; exact hhi) (by rw [tv]; exact hlo)), if_pos rfl]
  rw [bind_of hcmp, if_pos hc.symm, bind_of (works_tells k hk)]

theorem pure_sums (k : Nat) (hk : 2001 ≤ k) (a0 a1 b0 b1 : Int) (h0 : half a0) (h1 : half a1) (h2 : half b0) (h3 : half b1) : manciplelaw01_WideSums.f k a0 a1 b0 b1 = some true := by
  obtain ⟨k, rfl⟩ : ∃ m, k = m + 1 := ⟨k - 1, by omega⟩
  obtain ⟨lA, eA, dA, nA, vA⟩ := own_tells (k + 1) h0 h1 (by omega)
  obtain ⟨lB, eB, dB, nB, vB⟩ := own_tells (k + 1) h2 h3 (by omega)
  have l1 := less_tells (k + 1) dA dB (by omega) (by omega) (by omega)
  have l2 := less_tells (k + 1) dB dA (by omega) (by omega) (by omega)
  rw [vA, vB] at l1 l2
  unfold manciplelaw01_WideSums.f
  rw [bind_of (add_tells h0 h1 h2 h3), bind_of (sub_tells h0 h1 h2 h3), bind_of eA, bind_of eB, bind_of l1, bind_of eB, bind_of eA, bind_of l2]
  by_cases c1 : num a0 a1 < num b0 b1
  · rw [if_pos (decide_eq_true c1)]
    exact sums_join k (by omega) h0 h1 h2 h3 (-1) (by rw [if_pos c1])
  · rw [if_neg (by rw [decide_eq_true_eq]; exact c1)]
    by_cases c2 : num b0 b1 < num a0 a1
    · rw [if_pos (decide_eq_true c2)]
      exact sums_join k (by omega) h0 h1 h2 h3 1 (by rw [if_neg c1, if_pos c2])
    · rw [if_neg (by rw [decide_eq_true_eq]; exact c2)]
      exact sums_join k (by omega) h0 h1 h2 h3 0 (by rw [if_neg c1, if_neg c2])

theorem law_sums (a0 a1 b0 b1 : Int) (w : World) (h0 : 0 ≤ a0 ∧ a0 ≤ 18446744073709551615) (h1 : 0 ≤ a1 ∧ a1 ≤ 18446744073709551615) (h2 : 0 ≤ b0 ∧ b0 ≤ 18446744073709551615) (h3 : 0 ≤ b1 ∧ b1 ≤ 18446744073709551615) :
    Calls Try.prog 3 #[.agg #[.int .u64 a0, .int .u64 a1], .agg #[.int .u64 b0, .int .u64 b1]] w fun e w' => e = .returned (.bool true) ∧ Below w.heap.size w w' :=
  manciplelaw01_WideSums.calls 3000 a0 a1 b0 b1 true w rfl (pure_sums 3000 (by omega) a0 a1 b0 b1 (by unfold half; omega) (by unfold half; omega) (by unfold half; omega) (by unfold half; omega))
end Go.Proofs.Ytdgclpnlbdbamaa.V
