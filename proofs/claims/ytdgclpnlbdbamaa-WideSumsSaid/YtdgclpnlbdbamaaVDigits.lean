/- The digits to the base 65536 of a number of two halves, and what is left of digits, as printed, in plain arithmetic. -/
import Derived.Test.YtdgclpnlbdbamaaVLawOwn
import Derived.Test.YtdgclpnlbdbamaaVNum
set_option linter.unusedVariables false
set_option linter.unusedSimpArgs false
namespace Go.Proofs.Ytdgclpnlbdbamaa.V
open Go.RowKit Go.Proofs.YtdgclpnlbdbamaaW.PrintWords Go.Proofs.YtdgclpnlbdbamaaW.PrintLast Go.Proofs.YtdgclpnlbdbamaaW.PrintMore Go.Proofs.Ytdgclpnlbdbamaa.Num

theorem digits_step1 (k : Nat) (x0 : Int) (x5 : List Int) (i : Int) (h : half x0) (hl : x5.length ≤ 100) (h0 : 0 ≤ i) (h4 : i < 4) :
    mancipleref01_Digits.l1 (k + 1) x0 x5 i = mancipleref01_Digits.l1 k (x0 / 65536) (x5 ++ [x0 % 65536]) (i + 1) := by
  unfold half at h
  simp only [mancipleref01_Digits.l1]
  rw [if_pos h4, if_pos (by omega), Int.tdiv_eq_ediv_of_nonneg h.1, Int.tmod_eq_emod_of_nonneg h.1, wu_id _ (by omega) (by omega), w64_id _ (by omega) (by omega), w64_id _ (by omega) (by omega)]
theorem digits_step0 (k : Nat) (x0 x1 : Int) (x5 : List Int) (i : Int) (h : half x1) (hl : x5.length ≤ 100) (h0 : 0 ≤ i) (h4 : i < 4) :
    mancipleref01_Digits.l0 (k + 1) x0 x1 x5 i = mancipleref01_Digits.l0 k x0 (x1 / 65536) (x5 ++ [x1 % 65536]) (i + 1) := by
  unfold half at h
  simp only [mancipleref01_Digits.l0]
  rw [if_pos h4, if_pos (by omega), Int.tdiv_eq_ediv_of_nonneg h.1, Int.tmod_eq_emod_of_nonneg h.1, wu_id _ (by omega) (by omega), w64_id _ (by omega) (by omega), w64_id _ (by omega) (by omega)]
theorem half_div {x : Int} (h : half x) : half (x / 65536) := by unfold half at *; omega
theorem digits_tells (k : Nat) {a b : Int} (ha : half a) (hb : half b) (hk : 20 ≤ k) :
    ∃ l, mancipleref01_Digits.f k a b = some l ∧ Dig l ∧ l.length = 8 ∧ val l = num a b := by
  obtain ⟨k, rfl⟩ : ∃ m, k = m + 1 + 1 + 1 + 1 + 1 + 1 + 1 + 1 + 1 + 1 := ⟨k - 10, by omega⟩
  have hb1 := half_div hb; have hb2 := half_div hb1; have hb3 := half_div hb2
  have ha1 := half_div ha; have ha2 := half_div ha1; have ha3 := half_div ha2
  refine ⟨[b % 65536, b / 65536 % 65536, b / 65536 / 65536 % 65536, b / 65536 / 65536 / 65536 % 65536, a % 65536, a / 65536 % 65536, a / 65536 / 65536 % 65536, a / 65536 / 65536 / 65536 % 65536], ?_, ?_, rfl, ?_⟩
  · unfold mancipleref01_Digits.f
    rw [digits_step0 _ _ _ _ _ hb (by simp) (by omega) (by omega), digits_step0 _ _ _ _ _ hb1 (by simp) (by omega) (by omega), digits_step0 _ _ _ _ _ hb2 (by simp) (by omega) (by omega), digits_step0 _ _ _ _ _ hb3 (by simp) (by omega) (by omega)]
    rw [mancipleref01_Digits.l0, if_neg (by decide)]
    rw [digits_step1 _ _ _ _ ha (by simp) (by omega) (by omega), digits_step1 _ _ _ _ ha1 (by simp) (by omega) (by omega), digits_step1 _ _ _ _ ha2 (by simp) (by omega) (by omega), digits_step1 _ _ _ _ ha3 (by simp) (by omega) (by omega)]
    rw [mancipleref01_Digits.l1, if_neg (by decide)]
    rfl
  · intro x hx
    simp only [List.mem_cons, List.not_mem_nil, or_false] at hx
    rcases hx with rfl | rfl | rfl | rfl | rfl | rfl | rfl | rfl <;> omega
  · unfold half num at *
    simp only [val]; omega
theorem own_tells (k : Nat) {a b : Int} (ha : half a) (hb : half b) (hk : 20 ≤ k) :
    ∃ l, manciplelaw01_own.f k a b = some l ∧ Dig l ∧ l.length = 8 ∧ val l = num a b := by
  obtain ⟨l, h, r⟩ := digits_tells k ha hb hk
  exact ⟨l, by unfold manciplelaw01_own.f; rw [h]; rfl, r⟩
end Go.Proofs.Ytdgclpnlbdbamaa.V
