/- The law WideShifts: bits of shifted numbers, in plain arithmetic. -/
import Derived.Test.YtdgclpnlbdbamaaVShift
import Derived.Test.YtdgclpnlbdbamaaVWorks
import Derived.Test.YtdgclpnlbdbamaaVLawBit
import Derived.Test.YtdgclpnlbdbamaaVBits
import Derived.Test.YtdgclpnlbdbamaaVLawWideShifts
set_option linter.unusedVariables false
set_option linter.unusedSimpArgs false
namespace Go.Proofs.Ytdgclpnlbdbamaa.V
open Go.RowKit Go.Proofs.YtdgclpnlbdbamaaW.PrintWords Go.Proofs.YtdgclpnlbdbamaaW.PrintLast Go.Proofs.YtdgclpnlbdbamaaW.PrintMore Go.Proofs.Ytdgclpnlbdbamaa.Num

/-- A bit of a number; below the lowest place there is none. -/
def bitOf (N i : Int) : Bool := if i < 0 then false else decide (N / 2 ^ i.toNat % 2 = 1)

theorem pow128 : (2 : Int) ^ 128 = 340282366920938463463374607431768211456 := by decide
theorem div_far {N : Int} (h0 : 0 ≤ N) (h1 : N < 340282366920938463463374607431768211456) (n : Nat) (h : 128 ≤ n) : N / 2 ^ n = 0 := by
  apply Int.ediv_eq_zero_of_lt h0
  refine Int.lt_of_lt_of_le h1 ?_
  rw [show n = 128 + (n - 128) from by omega, ipow_add, pow128]
  have := pow_pos' (n - 128)
  omega
theorem num_div_pow_lo {hi lo : Int} (h0 : half hi) (h1 : half lo) (n : Nat) (h : n < 64) : num hi lo / 2 ^ n % 2 = lo / 2 ^ n % 2 := by
  have hpq := pow_split n (by omega)
  have hp := pow_pos' n
  have hq := pow_pos' (63 - n)
  have e2 : (2 : Int) ^ (64 - n) = 2 ^ (63 - n) * 2 := by rw [show 64 - n = (63 - n) + 1 from by omega, Int.pow_succ]
  have : num hi lo = lo + (hi * 2 ^ (64 - n)) * 2 ^ n := by
    unfold num; rw [← hpq, Int.mul_assoc hi, Int.mul_comm (2 ^ n)]; omega
  rw [this, Int.add_mul_ediv_right _ _ (Int.ne_of_gt hp), e2, ← Int.mul_assoc]
  generalize hi * 2 ^ (63 - n) = x
  generalize lo / 2 ^ n = y
  omega
theorem num_div_pow_hi {hi lo : Int} (h1 : half lo) (n : Nat) (h : 64 ≤ n) : num hi lo / 2 ^ n = hi / 2 ^ (n - 64) := by
  rw [pow_far n h, ← Int.ediv_ediv_of_nonneg (by decide), num_div _ _ h1]

theorem bit_tells (k : Nat) (hk : 0 < k) {hi lo : Int} (h0 : half hi) (h1 : half lo) (i : Int) (hi0 : -1000 ≤ i) (hi1 : i ≤ 1000) : manciplelaw01_bit.f k hi lo i = some (bitOf (num hi lo) i) := by
  obtain ⟨k, rfl⟩ : ∃ m, k = m + 1 := ⟨k - 1, by omega⟩
  unfold manciplelaw01_bit.f bitOf
  by_cases hn : i < 0
  · rw [if_pos hn, if_pos hn]
    simp only [manciplelaw01_bit.j0]
    rw [if_pos trivial]
  · rw [if_neg hn, if_neg hn]
    simp only [manciplelaw01_bit.j0]
    obtain ⟨n, rfl⟩ := Int.eq_ofNat_of_zero_le (show 0 ≤ i by omega)
    rw [Int.toNat_natCast]
    by_cases h127 : (n : Int) > 127
    · rw [if_pos (decide_eq_true h127), div_far (num_nonneg h0 h1) (num_lt h0 h1) n (by omega)]; rfl
    · rw [if_neg (by rw [decide_eq_true_eq]; exact h127)]
      by_cases h63 : (n : Int) > 63
      · have e : IntKind.u64.wrap (wrap64 ((n : Int) - 64)) = ((n - 64 : Nat) : Int) := by rw [w64_id _ (by omega) (by omega), wu]; omega
        rw [if_pos h63, e, if_pos (by omega), shr_tells _ _ (by omega), num_div_pow_hi h1 n (by omega), Int.tmod_eq_emod_of_nonneg (Int.ediv_nonneg h0.1 (Int.le_of_lt (pow_pos' _)))]
        rfl
      · have e : IntKind.u64.wrap (n : Int) = ((n : Nat) : Int) := by rw [wu]; omega
        rw [if_neg h63, e, if_pos (by omega), shr_tells _ _ (by omega), num_div_pow_lo h0 h1 n (by omega), Int.tmod_eq_emod_of_nonneg (Int.ediv_nonneg h1.1 (Int.le_of_lt (pow_pos' _)))]
        rfl

/-- Up: each bit goes up by so many places, those beyond the last one out. -/
theorem bit_up {N : Int} (h0 : 0 ≤ N) (n : Nat) (i : Nat) (hi : i < 128) : bitOf (N * 2 ^ n % 340282366920938463463374607431768211456) (i : Int) = bitOf N ((i : Int) - n) := by
  unfold bitOf
  rw [if_neg (by omega), Int.toNat_natCast]
  have e128 : (340282366920938463463374607431768211456 : Int) = 2 ^ (127 - i) * 2 * 2 ^ i := by
    rw [← pow128, Int.mul_comm _ (2 : Int), Int.mul_assoc, ← ipow_add, Int.mul_comm, ← Int.pow_succ]; congr 1; omega
  have hmod : N * 2 ^ n % 340282366920938463463374607431768211456 / 2 ^ i % 2 = N * 2 ^ n / 2 ^ i % 2 := by
    have hp := pow_pos' i
    have hd := Int.mul_ediv_add_emod (N * 2 ^ n) 340282366920938463463374607431768211456
    have : N * 2 ^ n / 2 ^ i = N * 2 ^ n % 340282366920938463463374607431768211456 / 2 ^ i + (2 ^ (127 - i) * 2) * (N * 2 ^ n / 340282366920938463463374607431768211456) := by
      have hx : N * 2 ^ n = N * 2 ^ n % 340282366920938463463374607431768211456 + ((2 ^ (127 - i) * 2) * (N * 2 ^ n / 340282366920938463463374607431768211456)) * 2 ^ i := by
        generalize N * 2 ^ n / 340282366920938463463374607431768211456 = q at *
        rw [Int.mul_right_comm, ← e128]; omega
      generalize hq : N * 2 ^ n / 340282366920938463463374607431768211456 = q at *
      generalize hr : N * 2 ^ n % 340282366920938463463374607431768211456 = r at *
      rw [hx, Int.add_mul_ediv_right _ _ (Int.ne_of_gt hp)]
    rw [this, Int.mul_assoc, Int.mul_left_comm]
    generalize (2 : Int) ^ (127 - i) * (N * 2 ^ n / 340282366920938463463374607431768211456) = x
    omega
  rw [hmod]
  by_cases hin : i < n
  · rw [if_pos (by omega)]
    have e : N * 2 ^ n = N * 2 ^ (n - i - 1) * 2 * 2 ^ i := by
      rw [Int.mul_assoc, Int.mul_assoc, Int.mul_comm (2 : Int) (2 ^ i), ← Int.pow_succ, ← ipow_add, show n - i - 1 + (i + 1) = n from by omega]
    rw [e, Int.mul_ediv_cancel _ (Int.ne_of_gt (pow_pos' i))]
    rw [decide_eq_false_iff_not]; omega
  · rw [if_neg (by omega)]
    have e1 : ((i : Int) - n).toNat = i - n := by omega
    rw [e1]
    have e : (2 : Int) ^ i = 2 ^ (i - n) * 2 ^ n := by rw [← ipow_add, show i - n + n = i from by omega]
    rw [e, Int.mul_ediv_mul_of_pos_left _ _ (pow_pos' n)]

theorem bit_down {N : Int} (n : Nat) (i : Nat) : bitOf (N / 2 ^ n) (i : Int) = bitOf N ((i : Int) + n) := by
  unfold bitOf
  rw [if_neg (by omega), if_neg (by omega), Int.toNat_natCast]
  have e1 : ((i : Int) + n).toNat = n + i := by omega
  rw [e1, Int.ediv_ediv_of_nonneg (Int.le_of_lt (pow_pos' n)), ← ipow_add]
theorem bit_zero (i : Int) : bitOf 0 i = false := by
  unfold bitOf
  split
  · rfl
  · rw [Int.zero_ediv]; rfl
theorem bit_far {N : Int} (h0 : 0 ≤ N) (h1 : N < 340282366920938463463374607431768211456) (i : Int) (h : 128 ≤ i) : bitOf N i = false := by
  unfold bitOf
  rw [if_neg (by omega), div_far h0 h1 _ (by omega)]; rfl

/-- The highest bit that is set, and one: what the law looks for. -/
theorem bits_loop {hi lo : Int} (h0 : half hi) (h1 : half lo) : ∀ (n k : Nat), n ≤ 128 → n + 10 < k → (∀ m : Nat, n ≤ m → m < 128 → bitOf (num hi lo) m = false) →
    ∃ r : Nat, wide_Wide_Bits.l0 k (n : Int) (128 - (n : Int)) hi lo = some (r : Int) ∧ r ≤ n ∧ (∀ m : Nat, r ≤ m → m < 128 → bitOf (num hi lo) m = false) ∧ (0 < r → bitOf (num hi lo) ((r - 1 : Nat) : Int) = true) := by
  intro n
  induction n with
  | zero =>
    intro k _ hk hz
    obtain ⟨k, rfl⟩ : ∃ m, k = m + 1 := ⟨k - 1, by omega⟩
    refine ⟨0, ?_, Nat.le_refl _, hz, fun h => absurd h (by omega)⟩
    simp only [wide_Wide_Bits.l0]
    rw [if_neg (by omega)]
  | succ n ih =>
    intro k hn hk hz
    obtain ⟨k, rfl⟩ : ∃ m, k = m + 1 := ⟨k - 1, by omega⟩
    have e1 : wrap64 (127 - (128 - ((n + 1 : Nat) : Int))) = (n : Int) := by rw [w64_id _ (by omega) (by omega)]; omega
    have e2 : wrap64 ((128 - ((n + 1 : Nat) : Int)) + 1) = 128 - (n : Int) := by rw [w64_id _ (by omega) (by omega)]; omega
    have e3 : wrap64 (((n + 1 : Nat) : Int) - 1) = (n : Int) := by rw [w64_id _ (by omega) (by omega)]; omega
    have hd := down_tells k n h0 h1 (by omega) (by omega)
    have hN0 := num_nonneg h0 h1
    have hN1 := num_lt h0 h1
    have hT0 : 0 ≤ num hi lo / 2 ^ n := Int.ediv_nonneg hN0 (Int.le_of_lt (pow_pos' n))
    -- what lies above the place n is nothing
    have hT1 : num hi lo / 2 ^ n < 2 := by
      have key : ∀ d : Nat, d + n ≤ 127 → num hi lo / 2 ^ (127 - d) < 2 → (d + n = 127 → True) → num hi lo / 2 ^ (127 - d) < 2 := fun _ _ h _ => h
      have go : ∀ d : Nat, d ≤ 127 - n → num hi lo / 2 ^ (127 - d) < 2 := by
        intro d
        induction d with
        | zero =>
          intro _
          have h128 := div_far hN0 hN1 128 (by omega)
          have := div_pow_succ (num hi lo) 127
          have hp := Int.ediv_nonneg hN0 (Int.le_of_lt (pow_pos' 127))
          rw [h128] at this
          rw [Nat.sub_zero]
          generalize num hi lo / 2 ^ 127 = x at *
          omega
        | succ d ihd =>
          intro hd'
          have h1' := ihd (by omega)
          have hb := hz (127 - d) (by omega) (by omega)
          have := div_pow_succ (num hi lo) (127 - (d + 1))
          rw [show 127 - (d + 1) + 1 = 127 - d from by omega] at this
          have hp := Int.ediv_nonneg hN0 (Int.le_of_lt (pow_pos' (127 - d)))
          unfold bitOf at hb
          rw [if_neg (by omega), Int.toNat_natCast, decide_eq_false_iff_not] at hb
          generalize num hi lo / 2 ^ (127 - d) = x at *
          generalize num hi lo / 2 ^ (127 - (d + 1)) = y at *
          omega
      have := go (127 - n) (by omega)
      rw [show 127 - (127 - n) = n from by omega] at this
      exact this
    simp only [wide_Wide_Bits.l0]
    rw [if_pos (by omega), e1, bind_of hd, e2, e3]
    generalize hT : num hi lo / 2 ^ n = T at *
    have hTlo : T % 18446744073709551616 = T := by omega
    have hThi : T / 18446744073709551616 = 0 := by omega
    by_cases ht : T = 0
    · rw [if_neg (by rw [hTlo, hThi, ht]; simp)]
      obtain ⟨r, g1, g2, g3, g4⟩ := ih k (by omega) (by omega) (fun m hm hm' => by
        by_cases hmn : m = n
        · subst hmn
          unfold bitOf
          rw [if_neg (by omega), Int.toNat_natCast, hT, ht]; rfl
        · exact hz m (by omega) hm')
      exact ⟨r, g1, by omega, g3, g4⟩
    · have ht1 : T = 1 := by omega
      rw [if_pos (by rw [hTlo, hThi, ht1]; simp)]
      refine ⟨n + 1, rfl, Nat.le_refl _, hz, fun _ => ?_⟩
      rw [show n + 1 - 1 = n from by omega]
      unfold bitOf
      rw [if_neg (by omega), Int.toNat_natCast, hT, ht1]; rfl

theorem bits_same {N : Int} {r s : Nat} (hr : r ≤ 128) (hs : s ≤ 128) (r0 : ∀ m : Nat, r ≤ m → m < 128 → bitOf N m = false) (r1 : 0 < r → bitOf N ((r - 1 : Nat) : Int) = true)
    (s0 : ∀ m : Nat, s ≤ m → m < 128 → bitOf N m = false) (s1 : 0 < s → bitOf N ((s - 1 : Nat) : Int) = true) : r = s := by
  rcases Nat.lt_trichotomy r s with h | h | h
  · have a := s1 (by omega)
    rw [r0 (s - 1) (by omega) (by omega)] at a
    exact absurd a (by decide)
  · exact h
  · have a := r1 (by omega)
    rw [s0 (r - 1) (by omega) (by omega)] at a
    exact absurd a (by decide)

theorem shifts_loop {a0 a1 u0 u1 d0 d1 : Int} (ha0 : half a0) (ha1 : half a1) (hu0 : half u0) (hu1 : half u1) (hd0 : half d0) (hd1 : half d1) (n : Nat) (hn : n ≤ 200)
    (hu : ∀ i : Nat, i < 128 → bitOf (num u0 u1) i = bitOf (num a0 a1) ((i : Int) - n)) (hd : ∀ i : Nat, i < 128 → bitOf (num d0 d1) i = bitOf (num a0 a1) ((i : Int) + n)) :
    ∀ (j k : Nat) (i most : Nat), j + i = 128 → 2 * j + 2500 ≤ k → most ≤ i → (∀ m : Nat, most ≤ m → m < i → bitOf (num a0 a1) m = false) → (0 < most → bitOf (num a0 a1) ((most - 1 : Nat) : Int) = true) →
    manciplelaw01_WideShifts.l0 k (n : Int) (most : Int) (i : Int) a0 a1 u0 u1 d0 d1 = some true := by
  intro j
  induction j with
  | zero =>
    intro k i most hi hk hm h0 h1
    obtain rfl : i = 128 := by omega
    obtain ⟨k, rfl⟩ : ∃ m, k = m + 1 := ⟨k - 1, by omega⟩
    obtain ⟨r, g1, g2, g3, g4⟩ := bits_loop ha0 ha1 128 k (by omega) (by omega) (fun m hm hm' => absurd hm' (by omega))
    have gf : wide_Wide_Bits.f k a0 a1 = some (r : Int) := g1
    have hrm : r = most := bits_same (by omega) (by omega) g3 g4 h0 h1
    simp only [manciplelaw01_WideShifts.l0]
    rw [if_neg (by omega), bind_of gf, if_pos (by omega), bind_of (works_tells k (by omega))]
  | succ j ih =>
    intro k i most hi hk hm h0 h1
    obtain ⟨k, rfl⟩ : ∃ m, k = m + 1 + 1 := ⟨k - 2, by omega⟩
    have e1 : wrap64 ((i : Int) - (n : Int)) = (i : Int) - n := w64_id _ (by omega) (by omega)
    have e2 : wrap64 ((i : Int) + (n : Int)) = (i : Int) + n := w64_id _ (by omega) (by omega)
    have e3 : wrap64 ((i : Int) + 1) = ((i + 1 : Nat) : Int) := by rw [w64_id _ (by omega) (by omega)]; omega
    have b1 := bit_tells (k + 1) (by omega) hu0 hu1 (i : Int) (by omega) (by omega)
    have b2 := bit_tells (k + 1) (by omega) ha0 ha1 ((i : Int) - n) (by omega) (by omega)
    have b3 := bit_tells (k + 1) (by omega) hd0 hd1 (i : Int) (by omega) (by omega)
    have b4 := bit_tells (k + 1) (by omega) ha0 ha1 ((i : Int) + n) (by omega) (by omega)
    have b5 := bit_tells k (by omega) ha0 ha1 (i : Int) (by omega) (by omega)
    rw [hu i (by omega)] at b1
    rw [hd i (by omega)] at b3
    rw [manciplelaw01_WideShifts.l0, if_pos (by omega), e1, e2, bind_of b1, bind_of b2, if_neg (by simp), bind_of b3, bind_of b4]
    rw [manciplelaw01_WideShifts.j1, if_neg (by simp), bind_of b5, e3]
    cases hb : bitOf (num a0 a1) (i : Int) with
    | true =>
      rw [if_pos rfl]
      refine ih k (i + 1) (i + 1) (by omega) (by omega) (Nat.le_refl _) (fun m hm hm' => absurd hm' (by omega)) (fun _ => ?_)
      rw [show i + 1 - 1 = i from by omega]; exact hb
    | false =>
      rw [if_neg (by simp)]
      refine ih k (i + 1) most (by omega) (by omega) (by omega) (fun m hm hm' => ?_) h1
      by_cases hmi : m = i
      · rw [hmi]; exact hb
      · exact h0 m hm (by omega)

theorem up_far (k : Nat) (hk : 0 < k) (hi lo n : Int) (h : n < 0 ∨ 128 ≤ n) : wide_Wide_Up.f k hi lo n = some (0, 0) := by
  obtain ⟨k, rfl⟩ : ∃ m, k = m + 1 := ⟨k - 1, by omega⟩
  unfold wide_Wide_Up.f
  by_cases hn : n < 0
  · rw [if_pos hn]; simp only [wide_Wide_Up.j0]; rw [if_pos trivial]
  · rw [if_neg hn, decide_eq_true (by omega)]; simp only [wide_Wide_Up.j0]; rw [if_pos trivial]
theorem down_far (k : Nat) (hk : 0 < k) (hi lo n : Int) (h : n < 0 ∨ 128 ≤ n) : wide_Wide_Down.f k hi lo n = some (0, 0) := by
  obtain ⟨k, rfl⟩ : ∃ m, k = m + 1 := ⟨k - 1, by omega⟩
  unfold wide_Wide_Down.f
  by_cases hn : n < 0
  · rw [if_pos hn]; simp only [wide_Wide_Down.j0]; rw [if_pos trivial]
  · rw [if_neg hn, decide_eq_true (by omega)]; simp only [wide_Wide_Down.j0]; rw [if_pos trivial]

theorem pure_shifts (k : Nat) (hk : 3000 ≤ k) (a0 a1 n : Int) (h0 : half a0) (h1 : half a1) : manciplelaw01_WideShifts.f k a0 a1 n = some true := by
  have hz : half 0 := by unfold half; omega
  have hN0 := num_nonneg h0 h1
  have hN1 := num_lt h0 h1
  unfold manciplelaw01_WideShifts.f
  by_cases hn : n < 0
  · rw [bind_of (up_far k (by omega) a0 a1 n (.inl hn)), bind_of (down_far k (by omega) a0 a1 n (.inl hn)), if_pos hn, if_pos (by rfl), if_pos (by rfl), bind_of (works_tells k (by omega))]
  · by_cases hf : 128 ≤ n
    · rw [bind_of (up_far k (by omega) a0 a1 n (.inr hf)), bind_of (down_far k (by omega) a0 a1 n (.inr hf)), if_neg hn]
      obtain ⟨m, hm, hm1, hm2⟩ : ∃ m : Nat, mn n 200 = (m : Int) ∧ m ≤ 200 ∧ 128 ≤ m := by
        refine ⟨(mn n 200).toNat, ?_, ?_, ?_⟩ <;> unfold mn <;> split <;> omega
      rw [hm]
      refine shifts_loop h0 h1 hz hz hz hz m hm1 (fun i hi => ?_) (fun i hi => ?_) 128 k 0 0 (by omega) (by omega) (Nat.le_refl _) (fun m hm hm' => absurd hm' (by omega)) (fun h => absurd h (by omega))
      · rw [show num 0 0 = 0 from rfl, bit_zero]
        unfold bitOf; rw [if_pos (by omega)]
      · rw [show num 0 0 = 0 from rfl, bit_zero, bit_far hN0 hN1 _ (by omega)]
    · obtain ⟨m, rfl⟩ := Int.eq_ofNat_of_zero_le (show 0 ≤ n by omega)
      have hm : mn (m : Int) 200 = (m : Int) := by unfold mn; rw [if_neg (by omega)]
      rw [bind_of (up_tells k m h0 h1 (by omega) (by omega)), bind_of (down_tells k m h0 h1 (by omega) (by omega)), if_neg hn, hm]
      have hT0 : 0 ≤ num a0 a1 / 2 ^ m := Int.ediv_nonneg hN0 (Int.le_of_lt (pow_pos' m))
      have hT1 : num a0 a1 / 2 ^ m ≤ num a0 a1 := Int.ediv_le_self _ hN0
      have hdh : half (num a0 a1 / 2 ^ m / 18446744073709551616) := by unfold half; omega
      refine shifts_loop h0 h1 (half_mod _) (half_mod _) hdh (half_mod _) m (by omega) (fun i hi => ?_) (fun i hi => ?_) 128 k 0 0 (by omega) (by omega) (Nat.le_refl _) (fun m hm hm' => absurd hm' (by omega)) (fun h => absurd h (by omega))
      · rw [← bit_up hN0 m i hi]
        congr 1
        generalize num a0 a1 * 2 ^ m = x
        unfold num; omega
      · rw [num_split, bit_down m i]

theorem law_shifts (a0 a1 n : Int) (w : World) (h0 : 0 ≤ a0 ∧ a0 ≤ 18446744073709551615) (h1 : 0 ≤ a1 ∧ a1 ≤ 18446744073709551615) (_hn : -9223372036854775808 ≤ n ∧ n ≤ 9223372036854775807) :
    Calls Try.prog 4 #[.agg #[.int .u64 a0, .int .u64 a1], .int .i64 n] w fun e w' => e = .returned (.bool true) ∧ Below w.heap.size w w' :=
  manciplelaw01_WideShifts.calls 3000 a0 a1 n true w rfl (pure_shifts 3000 (Nat.le_refl _) a0 a1 n (by unfold half; omega) (by unfold half; omega))
end Go.Proofs.Ytdgclpnlbdbamaa.V
