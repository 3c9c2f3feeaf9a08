/- The law WideTexts: the plain law, and the walk's end. -/
import Derived.Test.YtdgclpnlbdbamaaVDigits
import Derived.Test.YtdgclpnlbdbamaaVTextB
import Derived.Test.YtdgclpnlbdbamaaVWorks
import Derived.Test.YtdgclpnlbdbamaaVLawWideTexts
set_option linter.unusedVariables false
set_option linter.unusedSimpArgs false
namespace Go.Proofs.Ytdgclpnlbdbamaa.V
open Go.RowKit Go.Proofs.YtdgclpnlbdbamaaW.PrintWords Go.Proofs.YtdgclpnlbdbamaaW.PrintLast Go.Proofs.YtdgclpnlbdbamaaW.PrintMore Go.Proofs.Ytdgclpnlbdbamaa.Num

theorem ltext_tells (k : Nat) {hi lo : Int} (n : Nat) (h0 : half hi) (h1 : half lo) (hn : num hi lo = (n : Int)) (hk : 2000 ≤ k) :
    manciplelaw01_text.f k hi lo = some (strOfNums (chars n).reverse) := by
  obtain ⟨l, h, hd, hl, hv⟩ := own_tells k h0 h1 (by omega)
  have hb := num_lt h0 h1
  unfold manciplelaw01_text.f
  rw [bind_of h, bind_of (rtext_tells k hd (by omega) n (by omega) (by omega) hk)]

theorem pure_texts (k : Nat) (hk : 2000 ≤ k) (a0 a1 : Int) (s : ByteArray) (h0 : half a0) (h1 : half a1) : manciplelaw01_WideTexts.f k a0 a1 s = some true := by
  have hN0 := num_nonneg h0 h1
  have hN1 := num_lt h0 h1
  obtain ⟨n, hn⟩ := Int.eq_ofNat_of_zero_le hN0
  have ht := text_tells k n h0 h1 hn hk
  have hp := parse_text n (by omega) k (by omega)
  have e0 : (n : Int) / 18446744073709551616 = a0 := by rw [← hn]; exact num_div _ _ h1
  have e1 : (n : Int) % 18446744073709551616 = a1 := by rw [← hn]; exact num_mod _ _ h1
  rw [e0, e1] at hp
  unfold manciplelaw01_WideTexts.f
  rw [bind_of ht, bind_of hp]
  by_cases hs : (s.size : Int) > 200
  · rw [if_pos hs]
  · rw [if_neg hs]
    have hps := parse_tells s (by omega) k (by omega)
    cases hpt : pt (bytesOf s) with
    | none =>
      rw [hpt] at hps
      rw [bind_of hps, bind_of ht, bind_of (ltext_tells k n h0 h1 hn hk), if_pos rfl, if_pos rfl, if_pos (by simp), if_neg (by simp), if_pos (by rfl), bind_of (works_tells k hk)]
    | some W =>
      rw [hpt] at hps
      obtain ⟨w0, w1, hw⟩ := pt_text hpt
      have g0 : half (W / 18446744073709551616) := by unfold half; omega
      have gn : num (W / 18446744073709551616) (W % 18446744073709551616) = (W.toNat : Int) := by rw [num_split]; omega
      have htw := text_tells k W.toNat g0 (half_mod W) gn hk
      rw [hw] at htw
      rw [bind_of hps, bind_of ht, bind_of (ltext_tells k n h0 h1 hn hk), if_pos rfl, if_pos rfl, if_pos (by simp), if_pos rfl, bind_of htw, if_pos rfl, bind_of (works_tells k hk)]

theorem law_texts (a0 a1 : Int) (s : ByteArray) (w : World) (h0 : 0 ≤ a0 ∧ a0 ≤ 18446744073709551615) (h1 : 0 ≤ a1 ∧ a1 ≤ 18446744073709551615) (_hs : s.size ≤ maxLen) :
    Calls Try.prog 7 #[.agg #[.int .u64 a0, .int .u64 a1], .string s] w fun e w' => e = .returned (.bool true) ∧ Below w.heap.size w w' :=
  manciplelaw01_WideTexts.calls 2000 a0 a1 s true w rfl (pure_texts 2000 (Nat.le_refl _) a0 a1 s (by unfold half; omega) (by unfold half; omega))
end Go.Proofs.Ytdgclpnlbdbamaa.V
