/- Shifts of a number of two halves, and its division, as printed, in plain arithmetic. -/
import Derived.Test.YtdgclpnlbdbamaaVDiv
import Derived.Test.YtdgclpnlbdbamaaVNum
set_option linter.unusedVariables false
set_option linter.unusedSimpArgs false
namespace Go.Proofs.Ytdgclpnlbdbamaa.V
open Go.RowKit Go.Proofs.YtdgclpnlbdbamaaW.PrintWords Go.Proofs.YtdgclpnlbdbamaaW.PrintLast Go.Proofs.YtdgclpnlbdbamaaW.PrintMore Go.Proofs.Ytdgclpnlbdbamaa.Num

theorem pow_pos' (n : Nat) : (0 : Int) < 2 ^ n := by
  have := Nat.two_pow_pos n
  exact_mod_cast this
theorem ipow_add (a b : Nat) : (2 : Int) ^ (a + b) = 2 ^ a * 2 ^ b := by
  induction b with
  | zero => simp
  | succ b ih => rw [← Nat.add_assoc, Int.pow_succ, ih, Int.pow_succ, Int.mul_assoc]
theorem pow64 : (2 : Int) ^ 64 = 18446744073709551616 := by decide
theorem pow_split (n : Nat) (h : n ≤ 64) : (2 : Int) ^ n * 2 ^ (64 - n) = 18446744073709551616 := by
  rw [← ipow_add, show n + (64 - n) = 64 from by omega, pow64]
theorem pow_far (n : Nat) (h : 64 ≤ n) : (2 : Int) ^ n = 18446744073709551616 * 2 ^ (n - 64) := by
  rw [← pow64, ← ipow_add, show 64 + (n - 64) = n from by omega]
theorem shift_parts {p q x : Int} (hp : 0 < p) (hq : 0 < q) (h : p * q = 18446744073709551616) (hx : half x) :
    0 ≤ x / q ∧ x / q < p ∧ x * p % 18446744073709551616 = x % q * p ∧ x * p / 18446744073709551616 = x / q ∧ 0 ≤ x % q * p ∧ x % q * p + p ≤ 18446744073709551616 := by
  unfold half at hx
  have h0 := Int.emod_nonneg x (Int.ne_of_gt hq)
  have h1 := Int.emod_lt_of_pos x hq
  have h2 : x * p = x / q * 18446744073709551616 + x % q * p := by
    have e := Int.mul_ediv_add_emod x q
    calc x * p = (q * (x / q) + x % q) * p := by rw [e]
      _ = x / q * (p * q) + x % q * p := by rw [Int.add_mul, Int.mul_comm q, Int.mul_assoc, Int.mul_comm q p]
      _ = _ := by rw [h]
  have h3 : 0 ≤ x % q * p := Int.mul_nonneg h0 (by omega)
  have h4 : (x % q + 1) * p ≤ q * p := Int.mul_le_mul_of_nonneg_right (by omega) (by omega)
  rw [Int.add_mul, Int.mul_comm q p, h, Int.one_mul] at h4
  have h5 : 0 ≤ x / q := Int.ediv_nonneg hx.1 (by omega)
  have h6 : x / q < p := by
    apply Int.ediv_lt_of_lt_mul hq
    rw [h]; exact hx.2
  rw [h2]
  generalize x % q * p = b at *
  generalize x / q = a at *
  clear h2
  refine ⟨h5, h6, by omega, by omega, h3, h4⟩
theorem shl_tells (x : Int) (n : Nat) (h : n ≤ 64) : shl .u64 x (n : Int) = x * 2 ^ n % 18446744073709551616 := by
  unfold shl
  rw [wu, Int.toNat_natCast, Nat.min_eq_left (by show n ≤ 64; exact h)]
theorem shr_tells (x : Int) (n : Nat) (h : n ≤ 64) : shr .u64 x (n : Int) = x / 2 ^ n := by
  unfold shr
  rw [Int.toNat_natCast, Nat.min_eq_left (by show n ≤ 64; exact h)]
theorem mul_pow_mod (a : Int) (n : Nat) : a * 2 ^ n % 2 ^ n = 0 := Int.mul_emod_left a (2 ^ n)
theorem div_pow_zero (x : Int) : x / 2 ^ 0 = x := by simp

theorem down_tells (k : Nat) {hi lo : Int} (n : Nat) (h0 : half hi) (h1 : half lo) (hn : n < 128) (hk : 0 < k) :
    wide_Wide_Down.f k hi lo n = some (num hi lo / 2 ^ n / 18446744073709551616, num hi lo / 2 ^ n % 18446744073709551616) := by
  obtain ⟨k, rfl⟩ : ∃ m, k = m + 1 := ⟨k - 1, by omega⟩
  unfold wide_Wide_Down.f
  rw [if_neg (by omega)]
  have e : decide ((n : Int) ≥ 128) = false := decide_eq_false (by omega)
  rw [e]
  simp only [wide_Wide_Down.j0]
  rw [if_neg (by simp)]
  by_cases h64 : 64 ≤ n
  · have e2 : wrap64 ((n : Int) - 64) = ((n - 64 : Nat) : Int) := by rw [w64_id _ (by omega) (by omega)]; omega
    rw [if_pos (by omega), e2, if_pos (by omega), shr_tells _ _ (by omega)]
    have e3 : num hi lo / 2 ^ n = hi / 2 ^ (n - 64) := by
      have e4 := pow_far n h64
      rw [e4, ← Int.ediv_ediv_of_nonneg (by decide), num_div _ _ h1]
    rw [e3]
    have hb : 0 ≤ hi / 2 ^ (n - 64) := Int.ediv_nonneg h0.1 (Int.le_of_lt (pow_pos' _))
    have hc : hi / 2 ^ (n - 64) ≤ hi := Int.ediv_le_self _ h0.1
    unfold half at *
    generalize hi / 2 ^ (n - 64) = x at *
    refine congrArg some (Prod.ext ?_ ?_)
    · show 0 = x / 18446744073709551616; omega
    · show x = x % 18446744073709551616; omega
  · rw [if_neg (by omega)]
    by_cases hz : n = 0
    · subst hz
      rw [if_pos (by rfl), div_pow_zero, num_div _ _ h1, num_mod _ _ h1]
    · have e2 : wrap64 (64 - (n : Int)) = ((64 - n : Nat) : Int) := by rw [w64_id _ (by omega) (by omega)]; omega
      rw [if_neg (by omega), if_pos (by omega), e2, if_pos (by omega), shr_tells _ _ (by omega), shr_tells _ _ (by omega), shl_tells _ _ (by omega)]
      have hpq := pow_split n (by omega)
      have hp := pow_pos' n
      have hq := pow_pos' (64 - n)
      obtain ⟨g1, g2, g3, g4, g5, g6⟩ := shift_parts hq hp (by rw [Int.mul_comm]; exact hpq) h0
      obtain ⟨f1, f2, _⟩ := shift_parts hq hp (by rw [Int.mul_comm]; exact hpq) h1
      have ej : Go.bits .or .u64 (lo / 2 ^ n) (hi * 2 ^ (64 - n) % 18446744073709551616) = lo / 2 ^ n + hi * 2 ^ (64 - n) % 18446744073709551616 := by
        rw [Num.or_comm, or_join (64 - n) _ _ (by omega) (by rw [g3]; exact mul_pow_mod _ _) (by omega) f1 f2 (by omega), Int.add_comm]
      have en : num hi lo / 2 ^ n = hi * 2 ^ (64 - n) + lo / 2 ^ n := by
        have : num hi lo = lo + (hi * 2 ^ (64 - n)) * 2 ^ n := by
          unfold num; rw [← hpq, Int.mul_assoc hi, Int.mul_comm (2 ^ n)]; omega
        rw [this, Int.add_mul_ediv_right _ _ (Int.ne_of_gt hp)]; omega
      rw [ej, en]
      generalize lo / 2 ^ n = b at *
      generalize hi / 2 ^ n = a at *
      generalize hi % 2 ^ n * 2 ^ (64 - n) = c at *
      generalize hi * 2 ^ (64 - n) = x at *
      refine congrArg some (Prod.ext ?_ ?_)
      · show a = _ / _; omega
      · show b + _ % _ = _ % _; omega

theorem up_tells (k : Nat) {hi lo : Int} (n : Nat) (h0 : half hi) (h1 : half lo) (hn : n < 128) (hk : 0 < k) :
    wide_Wide_Up.f k hi lo n = some (num hi lo * 2 ^ n / 18446744073709551616 % 18446744073709551616, num hi lo * 2 ^ n % 18446744073709551616) := by
  obtain ⟨k, rfl⟩ : ∃ m, k = m + 1 := ⟨k - 1, by omega⟩
  unfold wide_Wide_Up.f
  rw [if_neg (by omega)]
  have e : decide ((n : Int) ≥ 128) = false := decide_eq_false (by omega)
  rw [e]
  simp only [wide_Wide_Up.j0]
  rw [if_neg (by simp)]
  by_cases h64 : 64 ≤ n
  · have e2 : wrap64 ((n : Int) - 64) = ((n - 64 : Nat) : Int) := by rw [w64_id _ (by omega) (by omega)]; omega
    rw [if_pos (by omega), e2, if_pos (by omega), shl_tells _ _ (by omega)]
    have e4 := pow_far n h64
    have e5 : num hi lo * 2 ^ n = (hi * 2 ^ (n - 64) * 18446744073709551616 + lo * 2 ^ (n - 64)) * 18446744073709551616 := by
      rw [e4]; unfold num
      rw [Int.mul_comm 18446744073709551616, ← Int.mul_assoc, Int.add_mul, Int.mul_right_comm hi]
    rw [e5]
    generalize hi * 2 ^ (n - 64) = x
    generalize lo * 2 ^ (n - 64) = y
    refine congrArg some (Prod.ext ?_ ?_)
    · show _ % _ = _ / _ % _; omega
    · show 0 = _ % _; omega
  · rw [if_neg (by omega)]
    by_cases hz : n = 0
    · subst hz
      rw [if_pos (by rfl)]
      simp only [Int.pow_zero, Int.mul_one]
      rw [num_div _ _ h1, num_mod _ _ h1]
      unfold half at *
      refine congrArg some (Prod.ext ?_ rfl)
      show hi = hi % _; omega
    · have e2 : wrap64 (64 - (n : Int)) = ((64 - n : Nat) : Int) := by rw [w64_id _ (by omega) (by omega)]; omega
      rw [if_neg (by omega), if_pos (by omega), e2, if_pos (by omega), shr_tells _ _ (by omega), shl_tells _ _ (by omega), shl_tells _ _ (by omega)]
      have hpq := pow_split n (by omega)
      have hp := pow_pos' n
      have hq := pow_pos' (64 - n)
      obtain ⟨g1, g2, g3, g4, g5, g6⟩ := shift_parts hp hq hpq h0
      obtain ⟨f1, f2, f3, f4, f5, f6⟩ := shift_parts hp hq hpq h1
      have ej : Go.bits .or .u64 (hi * 2 ^ n % 18446744073709551616) (lo / 2 ^ (64 - n)) = hi * 2 ^ n % 18446744073709551616 + lo / 2 ^ (64 - n) := by
        rw [or_join n _ _ (by omega) (by rw [g3]; exact mul_pow_mod _ _) (by omega) f1 f2 (by omega)]
      have en : num hi lo * 2 ^ n = hi * 2 ^ n * 18446744073709551616 + lo * 2 ^ n := by
        unfold num; rw [Int.add_mul, Int.mul_right_comm]
      rw [ej, en]
      generalize lo / 2 ^ (64 - n) = b at *
      generalize hi / 2 ^ (64 - n) = a at *
      generalize hi % 2 ^ (64 - n) * 2 ^ n = c at *
      generalize lo % 2 ^ (64 - n) * 2 ^ n = d at *
      generalize hi * 2 ^ n = x at *
      generalize lo * 2 ^ n = y at *
      refine congrArg some (Prod.ext ?_ ?_)
      · show _ + b = _ / _ % _; omega
      · show _ % _ = _ % _; omega

theorem div_pow_succ (N : Int) (n : Nat) : N / 2 ^ n / 2 = N / 2 ^ (n + 1) := by
  rw [Int.ediv_ediv_of_nonneg (Int.le_of_lt (pow_pos' n)), Int.pow_succ]

/-- One round of the division, bit by bit. -/
theorem div_round (d rest b : Int) (hd : 0 < d ∧ d < 18446744073709551616) (hr : 0 ≤ rest ∧ rest < d) (hb : 0 ≤ b ∧ b < 2) :
    Go.bits .or .u64 (IntKind.u64.wrap (rest * 2)) b = rest * 2 % 18446744073709551616 + b := by
  rw [wu, or_one _ (by omega) (by omega) (by omega) b hb.1 hb.2]

theorem div_loop (d hi lo : Int) (hd : 0 < d ∧ d < 18446744073709551616) (h0 : half hi) (h1 : half lo) : ∀ (n k : Nat) (rest q0 q1 : Int), n ≤ 128 → n < k →
    half q0 → half q1 → num q0 q1 * d + rest = num hi lo / 2 ^ n → 0 ≤ rest ∧ rest < d →
    wide_Wide_Div.l0 k d rest (128 - (n : Int)) hi lo q0 q1 = some (num hi lo / d / 18446744073709551616, num hi lo / d % 18446744073709551616, num hi lo % d) := by
  intro n
  induction n with
  | zero =>
    intro k rest q0 q1 _ hk g0 g1 hq hr
    obtain ⟨k, rfl⟩ : ∃ m, k = m + 1 := ⟨k - 1, by omega⟩
    simp only [wide_Wide_Div.l0]
    rw [if_neg (by omega)]
    rw [div_pow_zero] at hq
    have e1 : num hi lo / d = num q0 q1 := by
      rw [← hq, Int.add_comm, Int.add_mul_ediv_right _ _ (by omega), Int.ediv_eq_zero_of_lt hr.1 hr.2]; omega
    have e2 : num hi lo % d = rest := by
      rw [← hq, Int.add_comm, Int.add_mul_emod_self_right]; exact Int.emod_eq_of_lt hr.1 hr.2
    rw [e1, e2, num_div _ _ g1, num_mod _ _ g1]
  | succ n ih =>
    intro k rest q0 q1 hn hk g0 g1 hq hr
    obtain ⟨k, rfl⟩ : ∃ m, k = m + 1 := ⟨k - 1, by omega⟩
    have e1 : wrap64 (127 - (128 - ((n + 1 : Nat) : Int))) = (n : Int) := by rw [w64_id _ (by omega) (by omega)]; omega
    have e2 : wrap64 ((128 - ((n + 1 : Nat) : Int)) + 1) = 128 - (n : Int) := by rw [w64_id _ (by omega) (by omega)]; omega
    have hup := up_tells k 1 g0 g1 (by omega) (by omega)
    simp only [Int.pow_one] at hup
    have hNn : 0 ≤ num hi lo := num_nonneg h0 h1
    have hNl : num hi lo < 340282366920938463463374607431768211456 := num_lt h0 h1
    have hT0 : 0 ≤ num hi lo / 2 ^ n := Int.ediv_nonneg hNn (Int.le_of_lt (pow_pos' n))
    have hT1 : num hi lo / 2 ^ n ≤ num hi lo := Int.ediv_le_self _ hNn
    have hT := div_pow_succ (num hi lo) n
    have hQ0 : 0 ≤ num q0 q1 := num_nonneg g0 g1
    have hQ1 : num q0 q1 ≤ num q0 q1 * d := by
      have := Int.mul_le_mul_of_nonneg_left (show (1 : Int) ≤ d by omega) hQ0
      rw [Int.mul_one] at this; exact this
    have i1 := ih k
    simp only [wide_Wide_Div.l0]
    rw [e1, e2, if_pos (by omega), down_tells k n h0 h1 (by omega) (by omega)]
    simp only [Option.bind_some]
    have hup' : wide_Wide_Up.f k q0 q1 1 = some (num q0 q1 * 2 / 18446744073709551616 % 18446744073709551616, num q0 q1 * 2 % 18446744073709551616) := hup
    rw [hup']
    simp only [Option.bind_some]
    generalize hTT : num hi lo / 2 ^ n = T at *
    rw [← hT] at hq
    rw [and_one _ (by omega) (by omega)]
    have hb : T % 18446744073709551616 % 2 = T % 2 := by omega
    rw [hb, div_round d rest (T % 2) hd hr (by omega)]
    have hlo : Go.bits .or .u64 (num q0 q1 * 2 % 18446744073709551616) 1 = num q0 q1 * 2 % 18446744073709551616 + 1 := or_one _ (by omega) (by omega) (by omega) 1 (by decide) (by decide)
    rw [hlo]
    have hsplit : ∀ b : Int, 0 ≤ b → b < 2 → num q0 q1 * 2 + b < 340282366920938463463374607431768211456 → num (num q0 q1 * 2 / 18446744073709551616 % 18446744073709551616) (num q0 q1 * 2 % 18446744073709551616 + b) = num q0 q1 * 2 + b := by
      intro b hb0 hb1 hb2
      generalize num q0 q1 = Q at *
      unfold num; omega
    have m2 : (num q0 q1 * 2 + 1) * d = num q0 q1 * d * 2 + d := by rw [Int.add_mul, Int.one_mul, Int.mul_right_comm]
    have m1 : (num q0 q1 * 2 + 0) * d = num q0 q1 * d * 2 := by rw [Int.add_zero, Int.mul_right_comm]
    have hs1 := hsplit 1 (by decide) (by decide)
    have hs0 := hsplit 0 (by decide) (by decide)
    have c0 : half (num q0 q1 * 2 / 18446744073709551616 % 18446744073709551616) := half_mod _
    have c1 : half (num q0 q1 * 2 % 18446744073709551616 + 1) := by unfold half; omega
    have c2 : half (num q0 q1 * 2 % 18446744073709551616) := half_mod _
    clear hsplit hup hup' hlo e1 e2 hT hTT ih hNn
    by_cases ht : rest / 9223372036854775808 = 1
    · rw [if_pos ht, wu]
      refine i1 _ _ _ (by omega) (by omega) c0 c1 ?_ ?_
      · rw [hs1 (by omega), m2]; omega
      · omega
    · rw [if_neg ht]
      by_cases hge : rest * 2 % 18446744073709551616 + T % 2 ≥ d
      · rw [if_pos hge, wu]
        refine i1 _ _ _ (by omega) (by omega) c0 c1 ?_ ?_
        · rw [hs1 (by omega), m2]; omega
        · omega
      · rw [if_neg hge]
        refine i1 _ _ _ (by omega) (by omega) c0 c2 ?_ ?_
        · have hs0' := hs0 (by omega)
          rw [Int.add_zero] at hs0'
          rw [hs0', m1]; omega
        · omega

theorem div_tells (k : Nat) {hi lo d : Int} (h0 : half hi) (h1 : half lo) (hd : 0 < d ∧ d < 18446744073709551616) (hk : 200 ≤ k) :
    wide_Wide_Div.f k hi lo d = some (num hi lo / d / 18446744073709551616, num hi lo / d % 18446744073709551616, num hi lo % d) := by
  unfold wide_Wide_Div.f
  rw [if_neg (by omega)]
  have hz : num hi lo / 2 ^ 128 = 0 := Int.ediv_eq_zero_of_lt (num_nonneg h0 h1) (by have := num_lt h0 h1; simpa using this)
  have := div_loop d hi lo hd h0 h1 128 k 0 0 0 (by omega) (by omega) (by unfold half; omega) (by unfold half; omega) (by rw [hz]; simp [num]) (by omega)
  exact this
end Go.Proofs.Ytdgclpnlbdbamaa.V
