/- The reference's Do, whole. -/
import Derived.Test.YtdckcbahfdcafaaRef13
import Derived.Test.YtdckcbahfdcafaaRef14
import Derived.Test.YtdckcbahfdcafaaRef15
set_option linter.unusedVariables false
set_option linter.unusedSimpArgs false
namespace Go.Proofs.Ytdckcbahfdcafaa.F
open Go.RowKit Go.Sort Go.Proofs.Ytdckcbahfdcafaa.Hp Go.Proofs.Ytdckcbahfdcafaa.Mp

theorem rdo_calls (cap : Int) (fa : Option Addr) (g fc : Nat) (fs : List Fr) (a : A) (w : World) (hr : RowAt w fa g fs) (hlen : fs.length ≤ 900) (hg : ∀ f ∈ fs, 0 ≤ f.time ∧ f.time ≤ 9007199254740992) :
    Calls Try.prog 12 #[.agg #[.int .i64 cap, .slice fa fs.length fc], encA a] w (RAns cap w (.slice fa fs.length fc) fs (rdoF cap fs a)) := by
  unfold rdoF
  by_cases h0 : a.kind = 0
  · rw [if_pos h0]
    exact rdo_sub cap fa g fc fs a w hr hlen h0
  rw [if_neg h0]
  have k0 : (a.kind == 0) = false := by rw [beq_eq_false_iff_ne]; exact h0
  by_cases h2 : a.kind = 2
  · rw [if_pos h2]
    rcases at_cases fs a.id with ⟨hf, he⟩ | ⟨k, f, hk, hf, he, hfk, hid⟩
    · have := rdo_rem cap fa g fc fs a w hr hlen h2 (-1) he (by omega) (by omega)
      rw [← he, offF_all, he] at this
      rw [hf]
      exact this
    · have := rdo_rem cap fa g fc fs a w hr hlen h2 k he (by omega) (by omega)
      rw [← he, offF_all, he] at this
      rw [hf]
      rw [decide_eq_true (show (0 : Int) ≤ (k : Int) by omega)] at this
      exact this
  rw [if_neg h2]
  have k2 : (a.kind == 2) = false := by rw [beq_eq_false_iff_ne]; exact h2
  rcases at_cases fs a.id with ⟨hf, he⟩ | ⟨k, f, hk, hf, he, hfk, hid⟩
  · rw [hf]
    exact rdo_none cap fa g fc fs a w hr hlen k0 k2 he
  · rw [hf]
    simp only
    have hfk' : fs[k]? = some f := by rw [List.getElem?_eq_getElem hk, hfk]
    by_cases h1 : a.kind = 1
    · rw [if_pos h1]
      unfold awayF
      cases hup : f.up with
      | false =>
        simp only [if_true]
        rw [if_neg (by omega)]
        exact rdo_gone cap fa g fc fs a w hr hlen k0 k2 h1 k f hup he hfk'
      | true =>
        simp only [Bool.true_eq_false, if_false]
        by_cases hn : a.time < 0 ∨ 9007199254740992 < a.time
        · rw [if_pos hn]
          simp only
          rw [if_neg (by omega)]
          exact rdo_bad cap fa g fc fs a w hr hlen k0 k2 h1 k f hup hn he hfk'
        · rw [if_neg hn]
          simp only [if_true]
          exact rdo_away cap fa g fc fs a w hr hlen k0 k2 h1 k f hup (by omega) (hg f (hfk ▸ List.getElem_mem hk)) he hfk'
    · rw [if_neg h1]
      have k1 : (a.kind == 1) = false := by rw [beq_eq_false_iff_ne]; exact h1
      cases k3 : a.kind == 3 with
      | true => exact rdo_quiet_yes cap fa g fc fs a w hr hlen k0 k2 k1 k3 k f he hfk'
      | false => exact rdo_quiet_no cap fa g fc fs a w hr hlen k0 k2 k1 k3 k f he hfk'
end Go.Proofs.Ytdckcbahfdcafaa.F
