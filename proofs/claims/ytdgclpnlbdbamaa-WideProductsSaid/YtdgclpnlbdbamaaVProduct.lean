/- The product of digits, as printed, in plain arithmetic. -/
import Derived.Test.YtdgclpnlbdbamaaVRefProduct
import Derived.Test.YtdgclpnlbdbamaaVNum
set_option linter.unusedVariables false
set_option linter.unusedSimpArgs false
namespace Go.Proofs.Ytdgclpnlbdbamaa.V
open Go.RowKit Go.Proofs.YtdgclpnlbdbamaaW.PrintWords Go.Proofs.YtdgclpnlbdbamaaW.PrintLast Go.Proofs.YtdgclpnlbdbamaaW.PrintMore Go.Proofs.Ytdgclpnlbdbamaa.Num

theorem product_step (a b : List Int) (ha : Dig a) (hb : Dig b) (hla : a.length ≤ 20) (hlb : b.length ≤ 20) (i : Nat) (hi : i < a.length) (k : Nat) (out : List Int) (over : Int) (j : Nat)
    (hj : j < b.length) (hd : Dig out) (hl : out.length = a.length + b.length) (ho : 0 ≤ over ∧ over < 65536) (n : Int) (hn : n = rd out ((i + j : Nat) : Int) + rd a i * rd b j + over) (hn0 : 0 ≤ n ∧ n < 4294967296) (hm0 : 0 ≤ rd a i * rd b j) (hm1 : rd a i * rd b j ≤ 4294836225) :
    mancipleref01_Product.l1 (k + 1) a b out i over j = mancipleref01_Product.l1 k a b (out.set (i + j) (n % 65536)) i (n / 65536) ((j + 1 : Nat) : Int) := by
  have c1 : (j : Int) < (b.length : Int) := by omega
  have c2 : (0 : Int) ≤ ((i + j : Nat) : Int) := by omega
  have c3 : ((i + j : Nat) : Int) < (out.length : Int) := by omega
  have c4 : (0 : Int) ≤ (i : Int) := by omega
  have c5 : (i : Int) < (a.length : Int) := by omega
  have c6 : (0 : Int) ≤ (j : Int) := by omega
  have hro := rd_dig hd ((i + j : Nat) : Int) (by rw [Int.toNat_natCast]; omega)
  have e1 : wrap64 ((i : Int) + (j : Int)) = ((i + j : Nat) : Int) := by rw [w64_id _ (by omega) (by omega)]; omega
  have e2 : wrap64 (rd a i * rd b j) = rd a i * rd b j := w64_id _ (by omega) (by omega)
  have e3 : wrap64 (rd out ((i + j : Nat) : Int) + rd a i * rd b j) = rd out ((i + j : Nat) : Int) + rd a i * rd b j := w64_id _ (by omega) (by omega)
  have e4 : wrap64 n = n := w64_id _ (by omega) (by omega)
  have e5 : wrap64 (n / 65536) = n / 65536 := w64_id _ (by omega) (by omega)
  have e6 : wrap64 ((j : Int) + 1) = ((j + 1 : Nat) : Int) := by rw [w64_id _ (by omega) (by omega)]; omega
  simp only [mancipleref01_Product.l1]
  rw [e1, e2, e3, ← hn, e4, Int.tdiv_eq_ediv_of_nonneg hn0.1, Int.tmod_eq_emod_of_nonneg hn0.1, e5, e6, Int.toNat_natCast]
  rw [if_pos c1, if_pos c2, if_pos c3, if_pos c4, if_pos c5, if_pos c6]

theorem product_arith (p q nd nm o x y over v vo : Int) (h : 65536 * nd + nm = o + x * y + over) :
    vo + p * q * (nm - o) + nd * (65536 * (p * q)) + p * x * (65536 * q * v) = vo + over * (p * q) + p * x * (q * (y + 65536 * v)) := by
  have hnm : nm = o + x * y + over - 65536 * nd := by omega
  rw [hnm]
  simp only [Int.mul_add, Int.mul_sub]
  have t1 : p * q * (x * y) = p * x * (q * y) := by rw [Int.mul_assoc, Int.mul_assoc, Int.mul_left_comm q x y]
  have t2 : p * q * (65536 * nd) = nd * (65536 * (p * q)) := by rw [Int.mul_comm nd, Int.mul_left_comm, Int.mul_assoc, Int.mul_assoc, Int.mul_assoc]
  have t3 : p * x * (q * (65536 * v)) = p * x * (65536 * q * v) := by rw [Int.mul_comm 65536 q, Int.mul_assoc q]
  have t4 : p * q * over = over * (p * q) := Int.mul_comm _ _
  rw [t1, t2, t3, t4]
  generalize p * q * o = u1
  generalize p * x * (q * y) = u2
  generalize over * (p * q) = u3
  generalize nd * (65536 * (p * q)) = u4
  generalize p * x * (65536 * q * v) = u5
  omega

theorem product_in (a b : List Int) (ha : Dig a) (hb : Dig b) (hla : a.length ≤ 20) (hlb : b.length ≤ 20) (i : Nat) (hi : i < a.length) : ∀ (d : Nat) (k : Nat) (out : List Int) (over : Int) (j : Nat),
    d + j = b.length → Dig out → out.length = a.length + b.length → 0 ≤ over ∧ over < 65536 → rd out ((i + b.length : Nat) : Int) = 0 →
    ∃ out', mancipleref01_Product.l1 (k + d + 1) a b out i over j = mancipleref01_Product.l0 k a b out' ((i + 1 : Nat) : Int) ∧ Dig out' ∧ out'.length = out.length ∧
      val out' = val out + over * pw (i + j) + pw i * rd a i * (pw j * val (b.drop j)) ∧ ∀ m, i + b.length < m → rd out' (m : Int) = rd out (m : Int) := by
  intro d
  induction d with
  | zero =>
    intro k out over j hj hd hl ho hz
    obtain rfl : j = b.length := by omega
    refine ⟨out.set (i + b.length) over, ?_, hd.set _ ho, by simp, ?_, fun m hm => rd_set _ _ _ _ (by omega)⟩
    · simp only [mancipleref01_Product.l1, Nat.add_zero]
      rw [if_neg (by omega), w64_id ((i : Int) + (b.length : Int)) (by omega) (by omega), if_pos (by omega), if_pos (by omega), w64_id _ (by omega) (by omega)]
      have e : ((i : Int) + (b.length : Int)).toNat = i + b.length := by omega
      rw [e]; rfl
    · rw [val_set _ _ _ (by omega), hz, List.drop_length, Int.mul_comm over]
      simp only [val, Int.mul_zero, Int.sub_zero, Int.add_zero]
  | succ d ih =>
    intro k out over j hj hd hl ho hz
    have hra := rd_dig ha (i : Int) (by rw [Int.toNat_natCast]; omega)
    have hrb := rd_dig hb (j : Int) (by rw [Int.toNat_natCast]; omega)
    have hro := rd_dig hd ((i + j : Nat) : Int) (by rw [Int.toNat_natCast]; omega)
    have hm0 : 0 ≤ rd a i * rd b j := Int.mul_nonneg hra.1 hrb.1
    have hm1 : rd a i * rd b j ≤ 65535 * 65535 := Int.mul_le_mul (by omega) (by omega) hrb.1 (by decide)
    obtain ⟨n, hn⟩ : ∃ n, n = rd out ((i + j : Nat) : Int) + rd a i * rd b j + over := ⟨_, rfl⟩
    have hn0 : 0 ≤ n ∧ n < 4294967296 := by omega
    have hstep := product_step a b ha hb hla hlb i hi (k + d + 1) out over j (by omega) hd hl ho n hn hn0 hm0 hm1
    obtain ⟨out', h1, h2, h3, h4, h5⟩ := ih k (out.set (i + j) (n % 65536)) (n / 65536) (j + 1) (by omega) (hd.set _ (by omega)) (by simpa using hl) (by omega) (by rw [rd_set _ _ _ _ (by omega)]; exact hz)
    refine ⟨out', (by rw [show k + (d + 1) + 1 = (k + d + 1) + 1 from by omega]; exact hstep.trans h1), h2, by simpa using h3, ?_, fun m hm => by rw [h5 m hm, rd_set _ _ _ _ (by omega)]⟩
    rw [h4, val_set _ _ _ (by omega), drop_rd b j (by omega)]
    have ep : pw (i + (j + 1)) = 65536 * pw (i + j) := by rw [← Nat.add_assoc]; rfl
    have ep2 : pw (j + 1) = 65536 * pw j := rfl
    rw [ep, ep2, pw_add i j]
    simp only [val]
    exact product_arith _ _ _ _ _ _ _ _ _ _ (by omega)

theorem product_out (a b : List Int) (ha : Dig a) (hb : Dig b) (hla : a.length ≤ 20) (hlb : b.length ≤ 20) : ∀ (d : Nat) (k : Nat) (out : List Int) (i : Nat),
    d + i = a.length → Dig out → out.length = a.length + b.length → (∀ m : Nat, i + b.length ≤ m → rd out (m : Int) = 0) → d * 30 < k →
    ∃ out', mancipleref01_Product.l0 k a b out i = some out' ∧ Dig out' ∧ out'.length = out.length ∧ val out' = val out + pw i * val (a.drop i) * val b := by
  intro d
  induction d with
  | zero =>
    intro k out i hi hd hl hz hk
    obtain rfl : i = a.length := by omega
    obtain ⟨k, rfl⟩ : ∃ m, k = m + 1 := ⟨k - 1, by omega⟩
    refine ⟨out, ?_, hd, rfl, ?_⟩
    · simp only [mancipleref01_Product.l0]
      rw [if_neg (by omega)]
    · rw [List.drop_length]; simp [val]
  | succ d ih =>
    intro k out i hi hd hl hz hk
    obtain ⟨k, rfl⟩ : ∃ m, k = (m + b.length + 1) + 1 := ⟨k - b.length - 2, by omega⟩
    obtain ⟨out', h1, h2, h3, h4, h5⟩ := product_in a b ha hb hla hlb i (by omega) b.length k out 0 0 (by omega) hd hl (by omega) (hz _ (by omega))
    obtain ⟨out2, g1, g2, g3, g4⟩ := ih k out' (i + 1) (by omega) h2 (by omega) (fun m hm => by rw [h5 m (by omega), hz m (by omega)]) (by omega)
    refine ⟨out2, ?_, g2, by omega, ?_⟩
    · rw [← g1, ← h1]
      simp only [mancipleref01_Product.l0]
      rw [if_pos (by omega)]; rfl
    · rw [g4, h4, drop_rd a i (by omega)]
      simp only [val, pw, List.drop_zero, Int.zero_mul, Int.one_mul, Int.add_zero]
      generalize val (a.drop (i + 1)) = v
      generalize pw i = p
      generalize rd a (i : Int) = x
      generalize val b = y
      simp only [Int.mul_add, Int.add_mul]
      have t : p * (65536 * v) * y = 65536 * p * v * y := by rw [← Int.mul_assoc p, Int.mul_comm p]
      rw [t]; omega

theorem product_tells (k : Nat) {a b : List Int} (ha : Dig a) (hb : Dig b) (hla : a.length ≤ 20) (hlb : b.length ≤ 20) (hk : 1000 ≤ k) :
    ∃ l, mancipleref01_Product.f k a b = some l ∧ Dig l ∧ l.length = a.length + b.length ∧ val l = val a * val b := by
  have e : (wrap64 ((a.length : Int) + (b.length : Int))).toNat = a.length + b.length := by rw [w64_id _ (by omega) (by omega)]; omega
  have hz : Dig (List.replicate (a.length + b.length) (0 : Int)) := fun x hx => by
    have := List.eq_of_mem_replicate hx; omega
  have hv : ∀ n : Nat, val (List.replicate n (0 : Int)) = 0 := by
    intro n
    induction n with
    | zero => rfl
    | succ n ih => simp [List.replicate_succ, val, ih]
  obtain ⟨l, h1, h2, h3, h4⟩ := product_out a b ha hb hla hlb a.length k (List.replicate (a.length + b.length) 0) 0 (by omega) hz (by simp)
    (fun m hm => by unfold rd; simp [List.getD_eq_getElem?_getD, List.getElem?_replicate]; split <;> rfl) (by omega)
  refine ⟨l, ?_, h2, by simpa using h3, ?_⟩
  · unfold mancipleref01_Product.f
    rw [e, if_pos (by rw [w64_id _ (by omega) (by omega)]; omega), if_pos (by omega)]
    exact h1
  · rw [h4, hv]; simp [pw]
end Go.Proofs.Ytdgclpnlbdbamaa.V
