/- The sum of digits, and which ones are less, as printed, in plain arithmetic. -/
import Derived.Test.YtdgclpnlbdbamaaVRefSum
import Derived.Test.YtdgclpnlbdbamaaVRefLess
import Derived.Test.YtdgclpnlbdbamaaVNum
set_option linter.unusedVariables false
set_option linter.unusedSimpArgs false
namespace Go.Proofs.Ytdgclpnlbdbamaa.V
open Go.RowKit Go.Proofs.YtdgclpnlbdbamaaW.PrintWords Go.Proofs.YtdgclpnlbdbamaaW.PrintLast Go.Proofs.YtdgclpnlbdbamaaW.PrintMore Go.Proofs.Ytdgclpnlbdbamaa.Num

theorem sum_arith (p n o x y : Int) (va vb vo : Int) (h : n = x + y + o) :
    vo + p * (n % 65536 + 65536 * 0) + 65536 * p * (n / 65536 + va + vb) = vo + p * (o + (x + 65536 * va) + (y + 65536 * vb)) := by
  have hn : n % 65536 = x + y + o - 65536 * (n / 65536) := by omega
  rw [hn]
  generalize n / 65536 = q
  simp only [Int.mul_add, Int.mul_sub, Int.mul_assoc, Int.mul_left_comm p 65536, Int.mul_zero]
  generalize p * va = a1; generalize p * vb = a2; generalize p * q = a3; generalize p * x = a4; generalize p * y = a5; generalize p * o = a6
  omega

theorem sum_loop (a b : List Int) (ha : Dig a) (hb : Dig b) (hl : a.length = b.length) (hla : a.length ≤ 20) : ∀ (d : Nat) (k : Nat) (out : List Int) (over : Int) (i : Nat),
    d + i = a.length → out.length = i → Dig out → 0 ≤ over ∧ over ≤ 1 → d < k →
    ∃ r, mancipleref01_Sum.l0 k a b out over i = some r ∧ Dig r ∧ r.length = a.length + 1 ∧ val r = val out + pw i * (over + val (a.drop i) + val (b.drop i)) := by
  intro d
  induction d with
  | zero =>
    intro k out over i hi ho hd hv hk
    obtain ⟨k, rfl⟩ : ∃ m, k = m + 1 := ⟨k - 1, by omega⟩
    obtain rfl : i = a.length := by omega
    refine ⟨out ++ [over], ?_, hd.append (Dig.one (by omega)), by simp [ho], ?_⟩
    · simp only [mancipleref01_Sum.l0]
      rw [if_neg (by omega), if_pos (by omega)]
    · have e1 : val (a.drop a.length) = 0 := by rw [List.drop_length]; rfl
      have e2 : val (b.drop a.length) = 0 := by rw [hl, List.drop_length]; rfl
      rw [val_append, ho, e1, e2]
      simp only [val, Int.mul_zero, Int.add_zero]
  | succ d ih =>
    intro k out over i hi ho hd hv hk
    obtain ⟨k, rfl⟩ : ∃ m, k = m + 1 := ⟨k - 1, by omega⟩
    have hra := rd_dig ha (i : Int) (by rw [Int.toNat_natCast]; omega)
    have hrb := rd_dig hb (i : Int) (by rw [Int.toNat_natCast]; omega)
    obtain ⟨n, hn⟩ : ∃ n, n = rd a i + rd b i + over := ⟨_, rfl⟩
    obtain ⟨r, h1, h2, h3, h4⟩ := ih k (out ++ [n % 65536]) (n / 65536) (i + 1) (by omega) (by simp [ho]) (hd.append (Dig.one (by omega))) (by omega) (by omega)
    refine ⟨r, ?_, h2, h3, ?_⟩
    · rw [← h1]
      have c1 : (i : Int) < (a.length : Int) := by omega
      have c2 : (0 : Int) ≤ (i : Int) := by omega
      have c3 : (i : Int) < (b.length : Int) := by omega
      have c4 : out.length < 17592186044416 := by omega
      have e1 : wrap64 (rd a i + rd b i) = rd a i + rd b i := w64_id _ (by omega) (by omega)
      have e2 : wrap64 n = n := w64_id _ (by omega) (by omega)
      have e3 : wrap64 (n / 65536) = n / 65536 := w64_id _ (by omega) (by omega)
      have e4 : wrap64 ((i : Int) + 1) = ((i + 1 : Nat) : Int) := by rw [w64_id _ (by omega) (by omega)]; omega
      have hn0 : 0 ≤ n := by omega
      simp only [mancipleref01_Sum.l0]
      rw [if_pos c1, if_pos c2, if_pos c3, if_pos c4, e1, ← hn, e2, Int.tdiv_eq_ediv_of_nonneg hn0, Int.tmod_eq_emod_of_nonneg hn0, e3, e4]
    · rw [h4, val_append, ho, drop_rd a i (by omega), drop_rd b i (by omega)]
      simp only [val]
      exact sum_arith _ _ _ _ _ _ _ _ hn

theorem sum_tells (k : Nat) {a b : List Int} (ha : Dig a) (hb : Dig b) (hl : a.length = b.length) (hla : a.length ≤ 20) (hk : 100 ≤ k) :
    ∃ r, mancipleref01_Sum.f k a b = some r ∧ Dig r ∧ r.length = a.length + 1 ∧ val r = val a + val b := by
  obtain ⟨r, h1, h2, h3, h4⟩ := sum_loop a b ha hb hl hla a.length k [] 0 0 (by omega) rfl Dig.nil (by omega) (by omega)
  refine ⟨r, h1, h2, h3, ?_⟩
  rw [h4]; simp only [val, pw, List.drop_zero]; omega

theorem less_arith {p x y u v : Int} (hp : 0 ≤ u ∧ u < p) (hv : 0 ≤ v ∧ v < p) (hxy : x ≠ y) : (u + p * x < v + p * y) ↔ x < y := by
  constructor
  · intro h
    by_cases hc : x < y
    · exact hc
    · exfalso
      have h1 : p * (y + 1) ≤ p * x := Int.mul_le_mul_of_nonneg_left (by omega) (by omega)
      rw [Int.mul_add, Int.mul_one] at h1
      omega
  · intro h
    have h1 : p * (x + 1) ≤ p * y := Int.mul_le_mul_of_nonneg_left (by omega) (by omega)
    rw [Int.mul_add, Int.mul_one] at h1
    omega

theorem less_loop (a b : List Int) (ha : Dig a) (hb : Dig b) (hl : a.length = b.length) (hla : a.length ≤ 20) : ∀ (n k : Nat), n ≤ a.length → n < k →
    mancipleref01_Less.l0 k a b ((n : Int) - 1) = some (decide (val (a.take n) < val (b.take n))) := by
  intro n
  induction n with
  | zero =>
    intro k _ hk
    obtain ⟨k, rfl⟩ : ∃ m, k = m + 1 := ⟨k - 1, by omega⟩
    simp only [mancipleref01_Less.l0]
    rw [if_neg (by omega)]
    simp [val]
  | succ n ih =>
    intro k hn hk
    obtain ⟨k, rfl⟩ : ∃ m, k = m + 1 := ⟨k - 1, by omega⟩
    have e0 : ((n + 1 : Nat) : Int) - 1 = (n : Int) := by omega
    have e1 : wrap64 ((n : Int) - 1) = (n : Int) - 1 := w64_id _ (by omega) (by omega)
    simp only [mancipleref01_Less.l0, e0]
    rw [if_pos (by omega), if_pos (by omega), if_pos (by omega), if_pos (by omega), e1, ih k (by omega) (by omega)]
    have ba := val_bound (ha.take n)
    have bb := val_bound (hb.take n)
    rw [List.length_take, Nat.min_eq_left (by omega)] at ba bb
    rw [take_rd a n (by omega), take_rd b n (by omega), val_append, val_append, List.length_take, List.length_take, Nat.min_eq_left (by omega), Nat.min_eq_left (by omega)]
    simp only [val, Int.mul_zero, Int.add_zero]
    split
    · rename_i h
      rw [h]
      refine congrArg some ?_
      rw [decide_eq_decide]; omega
    · rename_i h
      refine congrArg some ?_
      rw [decide_eq_decide, less_arith ba bb h]

theorem less_tells (k : Nat) {a b : List Int} (ha : Dig a) (hb : Dig b) (hl : a.length = b.length) (hla : a.length ≤ 20) (hk : 100 ≤ k) :
    mancipleref01_Less.f k a b = some (decide (val a < val b)) := by
  unfold mancipleref01_Less.f
  rw [w64_id _ (by omega) (by omega), less_loop a b ha hb hl hla a.length k (by omega) (by omega), List.take_length]
  rw [hl, List.take_length]
end Go.Proofs.Ytdgclpnlbdbamaa.V
