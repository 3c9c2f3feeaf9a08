/- The law WideProducts: the plain law, and the walk's end. -/
import Derived.Test.YtdgclpnlbdbamaaVArith
import Derived.Test.YtdgclpnlbdbamaaVDigits
import Derived.Test.YtdgclpnlbdbamaaVHalves
import Derived.Test.YtdgclpnlbdbamaaVProduct
import Derived.Test.YtdgclpnlbdbamaaVWorks
import Derived.Test.YtdgclpnlbdbamaaVLawWideProducts
set_option linter.unusedVariables false
set_option linter.unusedSimpArgs false
namespace Go.Proofs.Ytdgclpnlbdbamaa.V
open Go.RowKit Go.Proofs.YtdgclpnlbdbamaaW.PrintWords Go.Proofs.YtdgclpnlbdbamaaW.PrintLast Go.Proofs.YtdgclpnlbdbamaaW.PrintMore Go.Proofs.Ytdgclpnlbdbamaa.Num

theorem pure_products (k : Nat) (hk : 2000 ≤ k) (a0 a1 b : Int) (h0 : half a0) (h1 : half a1) (h2 : half b) : manciplelaw01_WideProducts.f k a0 a1 b = some true := by
  have hz : half 0 := by unfold half; omega
  obtain ⟨A, eA, dA, lA, vA⟩ := own_tells k h0 h1 (by omega)
  obtain ⟨B, eB, dB, lB, vB⟩ := digits_tells k hz h2 (by omega)
  obtain ⟨C, eC, dC, lC, vC⟩ := digits_tells k hz h1 (by omega)
  obtain ⟨P, eP, dP, lP, vP⟩ := product_tells k dA dB (by omega) (by omega) (by omega)
  obtain ⟨Q, eQ, dQ, lQ, vQ⟩ := product_tells k dC dB (by omega) (by omega) (by omega)
  have nB : num 0 b = b := by unfold num; omega
  have nC : num 0 a1 = a1 := by unfold num; omega
  rw [vA, vB, nB] at vP
  rw [vC, vB, nB, nC] at vQ
  unfold manciplelaw01_WideProducts.f
  rw [bind_of (times_tells h0 h1 h2), bind_of (mul_tells h1 h2), bind_of eA, bind_of eB, bind_of eP]
  rw [bind_of (is_tells k dP (by omega) (by omega) (by omega) _ (by rw [vP]) (by rw [vP]) (by rw [vP])), if_pos rfl]
  rw [bind_of eC, bind_of eB, bind_of eQ]
  have hm := mul_half h1 h2
  have n0 : 0 ≤ a1 * b := Int.mul_nonneg h1.1 h2.1
  have hlt : a1 * b < 340282366920938463463374607431768211456 := by unfold half at hm; omega
  have hmm : a1 * b / 18446744073709551616 = a1 * b / 18446744073709551616 % 18446744073709551616 := by unfold half at hm; omega
  rw [bind_of (is_tells k dQ (by omega) (by omega) (by omega) true (by rw [vQ]; exact (decide_eq_true hlt).symm) (by rw [vQ]; exact hmm) (by rw [vQ])), if_pos rfl]
  rw [bind_of (of_tells b), if_pos (by simp), bind_of (works_tells k hk)]

theorem law_products (a0 a1 b : Int) (w : World) (h0 : 0 ≤ a0 ∧ a0 ≤ 18446744073709551615) (h1 : 0 ≤ a1 ∧ a1 ≤ 18446744073709551615) (h2 : 0 ≤ b ∧ b ≤ 18446744073709551615) :
    Calls Try.prog 5 #[.agg #[.int .u64 a0, .int .u64 a1], .int .u64 b] w fun e w' => e = .returned (.bool true) ∧ Below w.heap.size w w' :=
  manciplelaw01_WideProducts.calls 2000 a0 a1 b true w (pure_products 2000 (Nat.le_refl _) a0 a1 b (by unfold half; omega) (by unfold half; omega) (by unfold half; omega))
end Go.Proofs.Ytdgclpnlbdbamaa.V
