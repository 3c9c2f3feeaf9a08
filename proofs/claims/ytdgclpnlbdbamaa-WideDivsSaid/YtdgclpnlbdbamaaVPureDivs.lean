/- The law WideDivs: the plain law, and the walk's end. -/
import Derived.Test.YtdgclpnlbdbamaaVArith
import Derived.Test.YtdgclpnlbdbamaaVShift
import Derived.Test.YtdgclpnlbdbamaaVWorks
import Derived.Test.YtdgclpnlbdbamaaVLawWideDivs
set_option linter.unusedVariables false
set_option linter.unusedSimpArgs false
namespace Go.Proofs.Ytdgclpnlbdbamaa.V
open Go.RowKit Go.Proofs.YtdgclpnlbdbamaaW.PrintWords Go.Proofs.YtdgclpnlbdbamaaW.PrintLast Go.Proofs.YtdgclpnlbdbamaaW.PrintMore Go.Proofs.Ytdgclpnlbdbamaa.Num

theorem div_zero (k : Nat) (hi lo : Int) : wide_Wide_Div.f k hi lo 0 = some (0, 0, 0) := by
  unfold wide_Wide_Div.f
  rw [if_pos rfl]

theorem pure_divs (k : Nat) (hk : 2000 ≤ k) (a0 a1 d : Int) (h0 : half a0) (h1 : half a1) (h2 : half d) : manciplelaw01_WideDivs.f k a0 a1 d = some true := by
  unfold manciplelaw01_WideDivs.f
  by_cases hd : d = 0
  · subst hd
    rw [bind_of (div_zero k a0 a1), if_pos rfl, if_pos (by rfl), if_pos rfl, bind_of (works_tells k hk)]
  · have hdp : 0 < d ∧ d < 18446744073709551616 := by unfold half at h2; omega
    rw [bind_of (div_tells k h0 h1 hdp (by omega)), if_neg hd]
    have hN0 := num_nonneg h0 h1
    have hN1 := num_lt h0 h1
    have hQ0 : 0 ≤ num a0 a1 / d := Int.ediv_nonneg hN0 (by omega)
    have hQ1 : num a0 a1 / d ≤ num a0 a1 := Int.ediv_le_self _ hN0
    have hR0 : 0 ≤ num a0 a1 % d := Int.emod_nonneg _ (by omega)
    have hR1 : num a0 a1 % d < d := Int.emod_lt_of_pos _ (by omega)
    have hE : num a0 a1 / d * d + num a0 a1 % d = num a0 a1 := Int.ediv_mul_add_emod _ _
    have hQd : 0 ≤ num a0 a1 / d * d := Int.mul_nonneg hQ0 (by omega)
    have hs := num_split (num a0 a1 / d)
    have hh : half (num a0 a1 / d / 18446744073709551616) := by unfold half; omega
    have ht := times_tells hh (half_mod (num a0 a1 / d)) h2
    rw [hs] at ht
    rw [bind_of ht, bind_of (of_tells _)]
    have hn := h0
    generalize hR : num a0 a1 % d = R at *
    generalize hX : num a0 a1 / d * d = X at *
    have hx : num (X / 18446744073709551616 % 18446744073709551616) (X % 18446744073709551616) = X := by unfold num; omega
    have hr : num 0 R = R := by unfold num; omega
    have hz : half 0 := by unfold half; omega
    have hRh : half R := by unfold half; omega
    have ha := add_tells (half_mod (X / 18446744073709551616)) (half_mod X) hz hRh
    rw [hx, hr, hE] at ha
    rw [bind_of ha, if_pos hR1, if_pos (decide_eq_true (by omega)), if_pos (decide_eq_true hN1)]
    have e0 : num a0 a1 / 18446744073709551616 % 18446744073709551616 = a0 := by rw [num_div _ _ h1]; unfold half at h0; omega
    have e1 : num a0 a1 % 18446744073709551616 = a1 := num_mod _ _ h1
    rw [if_pos (by rw [e0, e1]; simp), bind_of (works_tells k hk)]

theorem law_divs (a0 a1 d : Int) (w : World) (h0 : 0 ≤ a0 ∧ a0 ≤ 18446744073709551615) (h1 : 0 ≤ a1 ∧ a1 ≤ 18446744073709551615) (h2 : 0 ≤ d ∧ d ≤ 18446744073709551615) :
    Calls Try.prog 6 #[.agg #[.int .u64 a0, .int .u64 a1], .int .u64 d] w fun e w' => e = .returned (.bool true) ∧ Below w.heap.size w w' :=
  manciplelaw01_WideDivs.calls 2000 a0 a1 d true w rfl (pure_divs 2000 (Nat.le_refl _) a0 a1 d (by unfold half; omega) (by unfold half; omega) (by unfold half; omega))
end Go.Proofs.Ytdgclpnlbdbamaa.V
