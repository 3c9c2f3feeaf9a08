/- What is left of digits, as two halves, as printed, in plain arithmetic. -/
import Derived.Test.YtdgclpnlbdbamaaVLawIs
import Derived.Test.YtdgclpnlbdbamaaVNum
set_option linter.unusedVariables false
set_option linter.unusedSimpArgs false
namespace Go.Proofs.Ytdgclpnlbdbamaa.V
open Go.RowKit Go.Proofs.YtdgclpnlbdbamaaW.PrintWords Go.Proofs.YtdgclpnlbdbamaaW.PrintLast Go.Proofs.YtdgclpnlbdbamaaW.PrintMore Go.Proofs.Ytdgclpnlbdbamaa.Num

/-- The digits below the fourth. -/
theorem halves_lo (l : List Int) (hd : Dig l) (hl : 8 ≤ l.length) (hi : Int) (fits : Bool) : ∀ (n : Nat) (k : Nat) (lo : Int), n ≤ 4 → n < k → half lo → lo * pw n < 18446744073709551616 →
    mancipleref01_Halves.l0 k l hi lo fits ((n : Int) - 1) = some (hi, lo * pw n + val (l.take n), fits) := by
  intro n
  induction n with
  | zero =>
    intro k lo _ hk _ _
    obtain ⟨k, rfl⟩ : ∃ m, k = m + 1 := ⟨k - 1, by omega⟩
    simp only [mancipleref01_Halves.l0]
    rw [if_neg (by omega)]
    simp [pw, val]
  | succ n ih =>
    intro k lo h4 hk hlo hlt
    obtain ⟨k, rfl⟩ : ∃ m, k = m + 1 := ⟨k - 1, by omega⟩
    have hr := rd_dig hd (n : Int) (by rw [Int.toNat_natCast]; omega)
    have hp := pw_pos n
    have hu : lo * 65536 < 18446744073709551616 := by
      refine Int.lt_of_le_of_lt ?_ hlt
      simp only [pw]
      exact Int.mul_le_mul_of_nonneg_left (by omega) hlo.1
    have e0 : ((n + 1 : Nat) : Int) - 1 = (n : Int) := by omega
    unfold half at *
    simp only [mancipleref01_Halves.l0, e0]
    rw [if_pos (by omega), if_neg (by omega), if_neg (by omega), if_pos (by omega), if_pos (by omega)]
    rw [wu_id (rd l n) (by omega) (by omega), wu_id (lo * 65536) (by omega) (by omega), w64_id _ (by omega) (by omega)]
    have hs : lo * 65536 + rd l n < 18446744073709551616 := by
      by_cases hz : lo * 65536 + 65536 ≤ 18446744073709551616
      · omega
      · omega
    rw [wu_id _ (by omega) hs]
    have hlt' : (lo * 65536 + rd l n) * pw n < 18446744073709551616 := by
      have h1 : (lo * 65536 + rd l n) * pw n ≤ (lo * 65536 + 65535) * pw n := Int.mul_le_mul_of_nonneg_right (by omega) (by omega)
      have h2 : lo * pw (n + 1) = lo * 65536 * pw n := by simp only [pw, Int.mul_assoc]
      have h3 : (lo * 65536 + 65535) * pw n = lo * 65536 * pw n + 65535 * pw n := Int.add_mul _ _ _
      -- both sides are whole numbers of pw (n+1)
      have h4' : pw n * 65536 = pw (n + 1) := by simp only [pw]; omega
      have h5 : lo * pw (n + 1) + pw (n + 1) ≤ 18446744073709551616 := by
        have hn : n = 0 ∨ n = 1 ∨ n = 2 ∨ n = 3 := by omega
        rcases hn with rfl | rfl | rfl | rfl <;> simp only [pw] at * <;> omega
      omega
    rw [ih k (lo * 65536 + rd l n) (by omega) (by omega) (by omega) hlt']
    rw [take_rd l n (by omega), val_append, List.length_take, Nat.min_eq_left (by omega)]
    simp only [val, pw, Int.mul_zero, Int.add_zero]
    refine congrArg some (Prod.ext rfl (Prod.ext ?_ rfl))
    show (lo * 65536 + rd l n) * pw n + val (l.take n) = lo * (65536 * pw n) + (val (l.take n) + pw n * rd l n)
    rw [Int.add_mul, Int.mul_assoc, Int.mul_comm (rd l n)]; omega

theorem val_lt4 {l : List Int} (hd : Dig l) (n : Nat) (h : n ≤ 4) : 0 ≤ val (l.take n) ∧ val (l.take n) < 18446744073709551616 := by
  have h1 := val_bound (hd.take n)
  have h2 : (l.take n).length ≤ 4 := by rw [List.length_take]; omega
  generalize (l.take n).length = m at *
  have hm : m = 0 ∨ m = 1 ∨ m = 2 ∨ m = 3 ∨ m = 4 := by omega
  rcases hm with rfl | rfl | rfl | rfl | rfl <;> simp only [pw] at h1 <;> omega

/-- The digits from the fourth to the seventh. -/
theorem halves_hi (l : List Int) (hd : Dig l) (hl : 8 ≤ l.length) (fits : Bool) : ∀ (n : Nat) (k : Nat) (hi : Int), n ≤ 4 → n + 10 < k → half hi → hi * pw n < 18446744073709551616 →
    mancipleref01_Halves.l0 k l hi 0 fits ((n : Int) + 3) = some (hi * pw n + val ((l.drop 4).take n), val (l.take 4), fits) := by
  intro n
  induction n with
  | zero =>
    intro k hi _ hk _ _
    have := halves_lo l hd hl hi fits 4 k 0 (by omega) (by omega) (by unfold half; omega) (by omega)
    have e : ((0 : Nat) : Int) + 3 = ((4 : Nat) : Int) - 1 := by omega
    rw [e, this]
    simp only [pw, Int.mul_one, List.take_zero, val, Int.add_zero, Int.zero_mul, Int.zero_add]
  | succ n ih =>
    intro k hi h4 hk hhi hlt
    obtain ⟨k, rfl⟩ : ∃ m, k = m + 1 := ⟨k - 1, by omega⟩
    have e0 : ((n + 1 : Nat) : Int) + 3 = ((n + 4 : Nat) : Int) := by omega
    have hr := rd_dig hd ((n + 4 : Nat) : Int) (by rw [Int.toNat_natCast]; omega)
    have hp := pw_pos n
    have hu : hi * 65536 < 18446744073709551616 := by
      refine Int.lt_of_le_of_lt ?_ hlt
      simp only [pw]
      exact Int.mul_le_mul_of_nonneg_left (by omega) hhi.1
    unfold half at *
    simp only [mancipleref01_Halves.l0, e0]
    rw [if_pos (by omega), if_neg (by omega), if_pos (by omega), if_pos (by omega), if_pos (by omega)]
    generalize hrd : rd l ((n + 4 : Nat) : Int) = d at *
    rw [wu_id d (by omega) (by omega), wu_id (hi * 65536) (by omega) (by omega), w64_id _ (by omega) (by omega), wu_id _ (by omega) (by omega)]
    have hlt' : (hi * 65536 + d) * pw n < 18446744073709551616 := by
      have h1 : (hi * 65536 + d) * pw n ≤ (hi * 65536 + 65535) * pw n := Int.mul_le_mul_of_nonneg_right (by omega) (by omega)
      have h2 : hi * pw (n + 1) = hi * 65536 * pw n := by simp only [pw, Int.mul_assoc]
      have h3 : (hi * 65536 + 65535) * pw n = hi * 65536 * pw n + 65535 * pw n := Int.add_mul _ _ _
      have h4' : pw n * 65536 = pw (n + 1) := by simp only [pw]; omega
      have h5 : hi * pw (n + 1) + pw (n + 1) ≤ 18446744073709551616 := by
        have hn : n = 0 ∨ n = 1 ∨ n = 2 ∨ n = 3 := by omega
        rcases hn with rfl | rfl | rfl | rfl <;> simp only [pw] at * <;> omega
      omega
    have e1 : ((n + 4 : Nat) : Int) - 1 = (n : Int) + 3 := by omega
    rw [e1, ih k (hi * 65536 + d) (by omega) (by omega) (by omega) hlt']
    have hrd' : rd (l.drop 4) (n : Int) = d := by
      rw [← hrd, rd_nat _ _ (by rw [List.length_drop]; omega), rd_nat _ _ (by omega)]
      rw [List.getElem_drop]; congr 1; omega
    rw [take_rd (l.drop 4) n (by rw [List.length_drop]; omega), val_append, List.length_take, Nat.min_eq_left (by rw [List.length_drop]; omega), hrd']
    simp only [val, pw, Int.mul_zero, Int.add_zero]
    refine congrArg some (Prod.ext ?_ rfl)
    show (hi * 65536 + d) * pw n + val ((l.drop 4).take n) = hi * (65536 * pw n) + (val ((l.drop 4).take n) + pw n * d)
    rw [Int.add_mul, Int.mul_assoc, Int.mul_comm d]; omega

/-- The digits beyond the seventh. -/
theorem halves_top (l : List Int) (hd : Dig l) : ∀ (n : Nat) (k : Nat) (fits : Bool), n + 8 ≤ l.length → l.length ≤ 50 → n + 20 < k →
    mancipleref01_Halves.l0 k l 0 0 fits ((n : Int) + 7) = some (val ((l.drop 4).take 4), val (l.take 4), fits && decide (val ((l.drop 8).take n) = 0)) := by
  intro n
  induction n with
  | zero =>
    intro k fits hl hl' hk
    have := halves_hi l hd (by omega) fits 4 k 0 (by omega) (by omega) (by unfold half; omega) (by omega)
    have e : ((0 : Nat) : Int) + 7 = ((4 : Nat) : Int) + 3 := by omega
    rw [e, this]
    simp only [List.take_zero, val, decide_true, Bool.and_true, Int.zero_mul, Int.zero_add]
  | succ n ih =>
    intro k fits hl hl' hk
    obtain ⟨k, rfl⟩ : ∃ m, k = m + 1 := ⟨k - 1, by omega⟩
    have e0 : ((n + 1 : Nat) : Int) + 7 = ((n + 8 : Nat) : Int) := by omega
    have hr := rd_dig hd ((n + 8 : Nat) : Int) (by rw [Int.toNat_natCast]; omega)
    simp only [mancipleref01_Halves.l0, e0]
    have e1 : ((n + 8 : Nat) : Int) - 1 = (n : Int) + 7 := by omega
    rw [if_pos (show ((n + 8 : Nat) : Int) ≥ 0 by omega), if_pos (show ((n + 8 : Nat) : Int) ≥ 8 by omega), if_pos (show (0 : Int) ≤ ((n + 8 : Nat) : Int) by omega), if_pos (show ((n + 8 : Nat) : Int) < (l.length : Int) by omega), w64_id _ (by omega) (by omega)]
    rw [e1, ih k _ (by omega) hl' (by omega), ih k _ (by omega) hl' (by omega)]
    have hrd' : rd (l.drop 8) (n : Int) = rd l ((n + 8 : Nat) : Int) := by
      rw [rd_nat _ _ (by rw [List.length_drop]; omega), rd_nat _ _ (by omega)]
      rw [List.getElem_drop]; congr 1; omega
    rw [take_rd (l.drop 8) n (by rw [List.length_drop]; omega), val_append, hrd']
    generalize rd l ((n + 8 : Nat) : Int) = d at *
    have hb := val_bound ((hd.drop 8).take n)
    have hp := pw_pos ((l.drop 8).take n).length
    generalize ((l.drop 8).take n).length = m at *
    simp only [val, Int.mul_zero, Int.add_zero]
    generalize val ((l.drop 8).take n) = v at *
    have hz : (v + pw m * d = 0) ↔ (v = 0 ∧ d = 0) := by
      constructor
      · intro h
        have : 0 ≤ pw m * d := Int.mul_nonneg (by omega) (by omega)
        refine ⟨by omega, ?_⟩
        have h0 : pw m * d = 0 := by omega
        rcases Int.mul_eq_zero.1 h0 with h | h
        · omega
        · exact h
      · rintro ⟨rfl, rfl⟩; simp
    cases fits
    · simp
    · simp only [if_true, Bool.true_and]
      refine congrArg some (Prod.ext rfl (Prod.ext rfl ?_))
      show ((d == 0) && decide (v = 0)) = decide (v + pw m * d = 0)
      rw [Bool.eq_iff_iff]
      simp only [Bool.and_eq_true, beq_iff_eq, decide_eq_true_eq, hz]
      exact And.comm

theorem halves_tells (k : Nat) {l : List Int} (hd : Dig l) (hl : 8 ≤ l.length) (hl' : l.length ≤ 50) (hk : 100 ≤ k) :
    mancipleref01_Halves.f k l = some (val l / 18446744073709551616 % 18446744073709551616, val l % 18446744073709551616, decide (val l < 340282366920938463463374607431768211456)) := by
  unfold mancipleref01_Halves.f
  have h := halves_top l hd (l.length - 8) k true (by omega) hl' (by omega)
  have e : ((l.length : Int) - 1) = ((l.length - 8 : Nat) : Int) + 7 := by omega
  rw [w64_id _ (by omega) (by omega), e, h]
  have h4 := val_take_drop l 4 (by omega)
  have h8 := val_take_drop (l.drop 4) 4 (by rw [List.length_drop]; omega)
  rw [List.drop_drop] at h8
  have b1 := val_lt4 hd 4 (by omega)
  have b2 := val_lt4 (hd.drop 4) 4 (by omega)
  have b3 := val_bound (hd.drop 8)
  have e8 : (l.drop 8).take (l.length - 8) = l.drop 8 := List.take_of_length_le (by rw [List.length_drop]; omega)
  rw [e8]
  rw [pw4] at h4 h8
  simp only [Bool.true_and]
  generalize val (l.take 4) = a at *
  generalize val ((l.drop 4).take 4) = b at *
  have h8' : val (l.drop 4) = b + 18446744073709551616 * val (l.drop 8) := h8
  generalize val (l.drop 8) = c at *
  rw [h8'] at h4
  rw [h4]
  refine congrArg some (Prod.ext ?_ (Prod.ext ?_ ?_))
  · show b = _ % _; omega
  · show a = _ % _; omega
  · show decide _ = decide _
    rw [decide_eq_decide]; omega

/-- A number holds what digits leave. -/
theorem is_tells (k : Nat) {l : List Int} (hd : Dig l) (hl : 8 ≤ l.length) (hl' : l.length ≤ 50) (hk : 100 ≤ k) (fits : Bool)
    (hf : fits = decide (val l < 340282366920938463463374607431768211456)) {a b : Int} (ha : a = val l / 18446744073709551616 % 18446744073709551616) (hb : b = val l % 18446744073709551616) :
    manciplelaw01_is.f k a b fits l = some true := by
  unfold manciplelaw01_is.f
  rw [halves_tells k hd hl hl' hk]
  simp only [Option.bind_some]
  rw [if_pos ha, if_pos hb, ← hf]
  simp
end Go.Proofs.Ytdgclpnlbdbamaa.V
