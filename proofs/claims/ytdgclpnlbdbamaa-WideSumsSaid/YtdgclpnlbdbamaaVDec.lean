/- Decimal digits: they tell a number, and are read back. No program. -/
import Derived.Test.YtdgclpnlbdbamaaVNum
set_option linter.unusedVariables false
set_option linter.unusedSimpArgs false
namespace Go.Proofs.Ytdgclpnlbdbamaa.Num
open Go.RowKit Go.Proofs.YtdgclpnlbdbamaaW.PrintWords Go.Proofs.YtdgclpnlbdbamaaW.PrintLast Go.Proofs.YtdgclpnlbdbamaaW.PrintMore

/-- The characters of a number's decimal digits, the lowest one first. -/
def chars (n : Nat) : List Int := if n < 10 then [48 + (n : Int)] else (48 + ((n % 10 : Nat) : Int)) :: chars (n / 10)
termination_by n
decreasing_by omega

theorem chars_small {n : Nat} (h : n < 10) : chars n = [48 + (n : Int)] := by rw [chars, if_pos h]
theorem chars_big {n : Nat} (h : ¬ n < 10) : chars n = (48 + ((n % 10 : Nat) : Int)) :: chars (n / 10) := by rw [chars, if_neg h]
theorem chars_ne (n : Nat) : chars n ≠ [] := by
  by_cases h : n < 10
  · rw [chars_small h]; simp
  · rw [chars_big h]; simp
theorem chars_dig (n : Nat) : ∀ c, c ∈ chars n → 48 ≤ c ∧ c ≤ 57 := by
  induction n using Nat.strongRecOn with
  | ind n ih =>
    intro c hc
    by_cases h : n < 10
    · rw [chars_small h] at hc; simp at hc; omega
    · rw [chars_big h] at hc
      rcases List.mem_cons.1 hc with rfl | hc
      · omega
      · exact ih (n / 10) (by omega) c hc
/-- The powers of ten, kept closed. -/
@[irreducible] def tens (j : Nat) : Nat := 10 ^ j
theorem tens_one : tens (0 + 1) = 10 := by unfold tens; rfl
theorem tens_succ (j : Nat) : tens (j + 1) = 10 * tens j := by unfold tens; rw [Nat.pow_succ, Nat.mul_comm]
theorem tens_wide {n : Nat} (h : n < 340282366920938463463374607431768211456) : n < tens (38 + 1) := Nat.lt_of_lt_of_le h (by unfold tens; decide)
theorem chars_length (n : Nat) : ∀ j, n < tens (j + 1) → (chars n).length ≤ j + 1 := by
  intro j
  induction j generalizing n with
  | zero => intro h; rw [tens_one] at h; rw [chars_small h]; simp
  | succ j ih =>
    intro h
    by_cases h' : n < 10
    · rw [chars_small h']; simp
    · rw [chars_big h', List.length_cons]
      have := ih (n / 10) (by rw [tens_succ (j + 1)] at h; omega)
      omega
/-- The last one is no zero, but of the number 0. -/
theorem chars_last (n : Nat) : ∃ t c, chars n = t ++ [c] ∧ (c = 48 → n = 0 ∧ t = []) := by
  induction n using Nat.strongRecOn with
  | ind n ih =>
    by_cases h : n < 10
    · exact ⟨[], 48 + (n : Int), by rw [chars_small h]; rfl, fun hc => ⟨by omega, rfl⟩⟩
    · obtain ⟨t, c, e, hc⟩ := ih (n / 10) (by omega)
      refine ⟨(48 + ((n % 10 : Nat) : Int)) :: t, c, by rw [chars_big h, e]; rfl, fun h48 => ?_⟩
      have := hc h48; omega

/-- What digits tell, if it fits. -/
def pv : Int → List Int → Option Int
  | V, [] => some V
  | V, b :: r => if b < 48 ∨ 57 < b then none else if V * 10 + (b - 48) < 340282366920938463463374607431768211456 then pv (V * 10 + (b - 48)) r else none
theorem pv_append : ∀ (a b : List Int) (V : Int), pv V (a ++ b) = (pv V a).bind fun W => pv W b
  | [], b, V => rfl
  | x :: a, b, V => by
    simp only [List.cons_append, pv]
    split
    · rfl
    · split
      · exact pv_append a b _
      · rfl
theorem pv_chars (n : Nat) (h : (n : Int) < 340282366920938463463374607431768211456) : pv 0 (chars n).reverse = some (n : Int) := by
  induction n using Nat.strongRecOn with
  | ind n ih =>
    by_cases h' : n < 10
    · rw [chars_small h']
      simp only [List.reverse_cons, List.reverse_nil, List.nil_append, pv]
      rw [if_neg (by omega), if_pos (by omega)]
      congr 1; omega
    · rw [chars_big h', List.reverse_cons, pv_append, ih (n / 10) (by omega) (by omega)]
      simp only [Option.bind_some, pv]
      rw [if_neg (by omega), if_pos (by omega)]
      congr 1; omega
theorem pv_nonneg : ∀ (l : List Int) (V W : Int), 0 ≤ V → pv V l = some W → 0 ≤ W
  | [], V, W, hV, h => by simp only [pv, Option.some.injEq] at h; omega
  | b :: l, V, W, hV, h => by
    simp only [pv] at h
    split at h
    · exact absurd h (by simp)
    · split at h
      · exact pv_nonneg l _ W (by omega) h
      · exact absurd h (by simp)
theorem pv_lt : ∀ (l : List Int) (V W : Int), V < 340282366920938463463374607431768211456 → pv V l = some W → W < 340282366920938463463374607431768211456
  | [], V, W, hV, h => by simp only [pv, Option.some.injEq] at h; omega
  | b :: l, V, W, hV, h => by
    simp only [pv] at h
    split at h
    · exact absurd h (by simp)
    · split at h
      · rename_i hlt; exact pv_lt l _ W hlt h
      · exact absurd h (by simp)
/-- Whatever is read is told by the same digits. -/
theorem chars_pv : ∀ (n : Nat) (l : List Int) (W : Int), l.length = n → l ≠ [] → (l.head? = some 48 → l.length = 1) → pv 0 l = some W → (chars W.toNat).reverse = l := by
  intro n
  induction n with
  | zero => intro l W hl hne; exact absurd (List.eq_nil_of_length_eq_zero hl) hne
  | succ n ih =>
    intro l W hl hne hz h
    rcases List.eq_nil_or_concat l with rfl | ⟨t, b, rfl⟩
    · exact absurd rfl hne
    · rw [List.concat_eq_append] at *
      rw [pv_append] at h
      obtain ⟨U, hU, h⟩ := Option.bind_eq_some_iff.1 h
      have hU0 := pv_nonneg t 0 U (by omega) hU
      simp only [pv] at h
      split at h
      · exact absurd h (by simp)
      · rename_i hb
        split at h
        · simp only [Option.some.injEq] at h
          subst h
          by_cases ht : t = []
          · subst ht
            simp only [pv, Option.some.injEq] at hU
            subst hU
            rw [chars_small (by omega)]
            simp only [List.reverse_cons, List.reverse_nil, List.nil_append]
            congr 1; omega
          · have ht' : t.head? = some 48 → t.length = 1 := by
              intro hh
              have h1 : (t ++ [b]).head? = some 48 := by
                rw [List.head?_append]; simp [hh]
              have h2 := hz h1
              have h3 : 0 < t.length := List.length_pos_iff.2 ht
              rw [List.length_append, List.length_singleton] at h2; omega
            have hr := ih t U (by simp at hl; omega) ht ht' hU
            have hU1 : U ≠ 0 := by
              intro e
              subst e
              have e1 : (chars (0 : Int).toNat).reverse = [48] := by
                rw [show (0 : Int).toNat = 0 from rfl, chars_small (by omega)]; rfl
              rw [e1] at hr
              have h1 : (t ++ [b]).head? = some 48 := by rw [← hr]; rfl
              have h2 := hz h1
              rw [← hr] at h2
              simp at h2
            have hbig : ¬ (U * 10 + (b - 48)).toNat < 10 := by omega
            rw [chars_big hbig, List.reverse_cons]
            have e1 : (U * 10 + (b - 48)).toNat / 10 = U.toNat := by omega
            rw [e1, hr]
            congr 2; omega
        · exact absurd h (by simp)
theorem strOfNums_append (a b : List Int) : strOfNums (a ++ b) = strOfNums a ++ strOfNums b := by
  apply ByteArray.ext
  simp [strOfNums]
end Go.Proofs.Ytdgclpnlbdbamaa.Num
