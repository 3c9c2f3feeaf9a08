/- A number's text, by the program, as printed. -/
import Derived.Test.YtdgclpnlbdbamaaVText
import Derived.Test.YtdgclpnlbdbamaaVDec
import Derived.Test.YtdgclpnlbdbamaaVArith
import Derived.Test.YtdgclpnlbdbamaaVShift
set_option linter.unusedVariables false
set_option linter.unusedSimpArgs false
namespace Go.Proofs.Ytdgclpnlbdbamaa.V
open Go.RowKit Go.Proofs.YtdgclpnlbdbamaaW.PrintWords Go.Proofs.YtdgclpnlbdbamaaW.PrintLast Go.Proofs.YtdgclpnlbdbamaaW.PrintMore Go.Proofs.Ytdgclpnlbdbamaa.Num

/-- Turning a list round, by exchanges from both ends. -/
theorem text_turn (l : List Int) (hn : l.length ≤ 1000) : ∀ (d k : Nat) (xs : List Int) (i : Nat), d + i = l.length / 2 → xs.length = l.length → d < k →
    (∀ j : Nat, j < l.length → rd xs j = if j < i ∨ l.length - i ≤ j then rd l ((l.length - 1 - j : Nat) : Int) else rd l j) →
    wide_Wide_Text.l1 k xs ((l.length / 2 : Nat) : Int) i = some (strOfNums l.reverse) := by
  intro d
  induction d with
  | zero =>
    intro k xs i hi hx hk h
    obtain ⟨k, rfl⟩ : ∃ m, k = m + 1 := ⟨k - 1, by omega⟩
    simp only [wide_Wide_Text.l1]
    rw [if_neg (by omega)]
    congr 2
    apply List.ext_getElem (by simp [hx])
    intro j h1 h2
    have hj : j < l.length := by omega
    have := h j hj
    rw [rd_nat _ _ h1] at this
    rw [this, List.getElem_reverse]
    split
    · rw [rd_nat _ _ (by omega)]
    · rw [rd_nat _ _ (by omega)]
      congr 1; omega
  | succ d ih =>
    intro k xs i hi hx hk h
    obtain ⟨k, rfl⟩ : ∃ m, k = m + 1 := ⟨k - 1, by omega⟩
    have e1 : wrap64 (wrap64 ((xs.length : Int) - 1) - (i : Int)) = ((l.length - 1 - i : Nat) : Int) := by
      rw [w64_id ((xs.length : Int) - 1) (by omega) (by omega), w64_id _ (by omega) (by omega)]; omega
    have e2 : wrap64 ((i : Int) + 1) = ((i + 1 : Nat) : Int) := by rw [w64_id _ (by omega) (by omega)]; omega
    simp only [wide_Wide_Text.l1]
    rw [e1, e2, if_pos (by omega), if_pos (by omega), if_pos (by omega), if_pos (by omega), if_pos (by omega), Int.toNat_natCast, Int.toNat_natCast]
    refine ih k _ (i + 1) (by omega) (by simpa using hx) (by omega) ?_
    intro j hj
    have ha := h i (by omega)
    have hb := h (l.length - 1 - i) (by omega)
    rw [if_neg (by omega)] at ha hb
    have hset : ∀ (ys : List Int) (m n : Nat) (v : Int), m < ys.length → rd (ys.set m v) (n : Int) = if m = n then v else rd ys (n : Int) := by
      intro ys m n v hm
      split
      · rename_i e; subst e
        rw [rd_nat _ _ (by simpa using hm)]; simp
      · rename_i e; exact rd_set _ _ _ _ e
    rw [hset _ _ _ _ (by rw [List.length_set]; omega), hset _ _ _ _ (by omega)]
    by_cases c1 : l.length - 1 - i = j
    · rw [if_pos c1, if_pos (by omega), ha]
      congr 1; omega
    · rw [if_neg c1]
      by_cases c2 : i = j
      · rw [if_pos c2, if_pos (by omega), hb]
        congr 1; omega
      · rw [if_neg c2, h j hj]
        by_cases c3 : j < i ∨ l.length - i ≤ j
        · rw [if_pos c3, if_pos (by omega)]
        · rw [if_neg c3, if_neg (by omega)]

theorem text_false (k : Nat) (out : List Int) (hi lo : Int) (h0 : half hi) (h1 : half lo) (hz : num hi lo ≠ 0) :
    wide_Wide_Text.l0 (k + 1) out false hi lo = wide_Wide_Text.l0 (k + 1) out true hi lo := by
  simp only [wide_Wide_Text.l0]
  have hne : ¬ (hi = 0 ∧ lo = 0) := fun ⟨a, b⟩ => hz (by subst a; subst b; rfl)
  have hb : (!(hi == 0) || !(lo == 0)) = true := by
    by_cases a : hi = 0
    · by_cases b : lo = 0
      · exact absurd ⟨a, b⟩ hne
      · simp [b]
    · simp [a]
  rw [if_neg (by simp), if_pos hb]
  rfl

theorem text_loop : ∀ (j n k K : Nat) (out : List Int) (hi lo : Int) (r : ByteArray), n < tens (j + 1) → half hi → half lo → num hi lo = (n : Int) → out.length ≤ 1000 → 200 ≤ K → K + j + 5 ≤ k →
    (∀ k', K ≤ k' → wide_Wide_Text.l1 k' (out ++ chars n) (((out ++ chars n).length / 2 : Nat) : Int) 0 = some r) → out.length + j ≤ 900 →
    wide_Wide_Text.l0 k out true hi lo = some r := by
  intro j
  induction j with
  | zero =>
    intro n k K out hi lo r hn h0 h1 hnum ho hK hk H hoj
    obtain ⟨k, rfl⟩ : ∃ m, k = m + 1 + 1 := ⟨k - 2, by omega⟩
    have hlt : n < 10 := by rw [tens_one] at hn; exact hn
    have e := div_tells (k + 1) h0 h1 (d := 10) (by decide) (by omega)
    rw [hnum] at e
    have e1 : (n : Int) / 10 = 0 := by omega
    have e2 : (n : Int) % 10 = n := by omega
    rw [e1, e2] at e
    rw [wide_Wide_Text.l0, if_pos rfl, e]
    simp only [Option.bind_some]
    rw [if_pos (by omega)]
    have e3 : IntKind.u64.wrap (48 + (n : Int)) % 256 = 48 + (n : Int) := by rw [wu]; omega
    rw [e3]
    have e4 : out ++ [48 + (n : Int)] = out ++ chars n := by rw [chars_small hlt]
    rw [e4, wide_Wide_Text.l0, if_neg (by simp), if_neg (by simp)]
    have hl : (out ++ chars n).length ≤ 1001 := by rw [List.length_append, chars_small hlt]; simp; omega
    have e5 : wrap64 (((out ++ chars n).length : Int) / 2) = (((out ++ chars n).length / 2 : Nat) : Int) := by rw [w64_id _ (by omega) (by omega)]; omega
    rw [e5]
    exact H k (by omega)
  | succ j ih =>
    intro n k K out hi lo r hn h0 h1 hnum ho hK hk H hoj
    by_cases hlt : n < 10
    · obtain ⟨k, rfl⟩ : ∃ m, k = m + 1 + 1 := ⟨k - 2, by omega⟩
      have e := div_tells (k + 1) h0 h1 (d := 10) (by decide) (by omega)
      rw [hnum] at e
      have e1 : (n : Int) / 10 = 0 := by omega
      have e2 : (n : Int) % 10 = n := by omega
      rw [e1, e2] at e
      rw [wide_Wide_Text.l0, if_pos rfl, e]
      simp only [Option.bind_some]
      rw [if_pos (by omega)]
      have e3 : IntKind.u64.wrap (48 + (n : Int)) % 256 = 48 + (n : Int) := by rw [wu]; omega
      rw [e3]
      have e4 : out ++ [48 + (n : Int)] = out ++ chars n := by rw [chars_small hlt]
      rw [e4, wide_Wide_Text.l0, if_neg (by simp), if_neg (by simp)]
      have hl : (out ++ chars n).length ≤ 1001 := by rw [List.length_append, chars_small hlt]; simp; omega
      have e5 : wrap64 (((out ++ chars n).length : Int) / 2) = (((out ++ chars n).length / 2 : Nat) : Int) := by rw [w64_id _ (by omega) (by omega)]; omega
      rw [e5]
      exact H k (by omega)
    · obtain ⟨k, rfl⟩ : ∃ m, k = m + 1 + 1 := ⟨k - 2, by omega⟩
      have e := div_tells (k + 1) h0 h1 (d := 10) (by decide) (by omega)
      rw [hnum] at e
      rw [wide_Wide_Text.l0, if_pos rfl, e]
      simp only [Option.bind_some]
      rw [if_pos (by omega)]
      have e3 : IntKind.u64.wrap (48 + (n : Int) % 10) % 256 = 48 + ((n % 10 : Nat) : Int) := by rw [wu]; omega
      have hb := num_lt h0 h1
      rw [hnum] at hb
      have g0 : half ((n : Int) / 10 / 18446744073709551616) := by unfold half; omega
      have g1 : half ((n : Int) / 10 % 18446744073709551616) := half_mod _
      have gn : num ((n : Int) / 10 / 18446744073709551616) ((n : Int) / 10 % 18446744073709551616) = ((n / 10 : Nat) : Int) := by rw [num_split]; omega
      rw [e3, text_false k _ _ _ g0 g1 (by rw [gn]; omega)]
      refine ih (n / 10) (k + 1) K _ _ _ r ?_ g0 g1 gn (by simp; omega) hK (by omega) ?_ (by simp; omega)
      · rw [tens_succ (j + 1)] at hn; omega
      · intro k' hk'
        have := H k' hk'
        rw [chars_big hlt] at this
        simpa using this

theorem text_tells (k : Nat) {hi lo : Int} (n : Nat) (h0 : half hi) (h1 : half lo) (hn : num hi lo = (n : Int)) (hk : 2000 ≤ k) :
    wide_Wide_Text.f k hi lo = some (strOfNums (chars n).reverse) := by
  have hb := num_lt h0 h1
  rw [hn] at hb
  have hb' := tens_wide (n := n) (by omega)
  have hl := chars_length n 38 hb'
  unfold wide_Wide_Text.f
  refine text_loop 38 n k 1500 [] hi lo _ hb' h0 h1 hn (by simp) (by omega) (by omega) ?_ (by simp)
  intro k' hk'
  rw [List.nil_append]
  refine text_turn (chars n) (by omega) ((chars n).length / 2) k' (chars n) 0 (by omega) rfl (by omega) ?_
  intro j hj
  rw [if_neg (by omega)]

end Go.Proofs.Ytdgclpnlbdbamaa.V
