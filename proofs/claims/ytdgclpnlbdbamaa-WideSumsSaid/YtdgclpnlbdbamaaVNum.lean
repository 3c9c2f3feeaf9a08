/- Plain numbers: halves of 64 bits, digits to the base 65536, decimal digits. No program. -/
import Derived.Test.YtdgclpnlbdbamaaWWords
import Derived.Test.YtdgclpnlbdbamaaWMore
import Derived.Laws.BitsLemmas
set_option linter.unusedVariables false
set_option linter.unusedSimpArgs false
namespace Go.Proofs.Ytdgclpnlbdbamaa.Num
open Go.RowKit Go.Proofs.YtdgclpnlbdbamaaW.PrintWords Go.Proofs.YtdgclpnlbdbamaaW.PrintLast Go.Proofs.YtdgclpnlbdbamaaW.PrintMore

theorem bind_of {α β : Type} {x : Option α} {a : α} {f : α → Option β} (h : x = some a) : x.bind f = f a := by rw [h]; rfl
theorem wu (n : Int) : IntKind.u64.wrap n = n % 18446744073709551616 := by
  simp [IntKind.wrap, IntKind.bits, IntKind.signed]
theorem wu_id (n : Int) (h0 : 0 ≤ n) (h1 : n < 18446744073709551616) : IntKind.u64.wrap n = n := by rw [wu]; omega
theorem wraps_u64 (n : Int) (h0 : 0 ≤ n) (h1 : n < 2 ^ 64) : IntKind.u64.wrap n = n := wu_id n h0 (by simpa using h1)
theorem and_mask (i : Nat) (hi : i ≤ 64) (x : Int) (h0 : 0 ≤ x) (h1 : x < 18446744073709551616) : Go.bits .and .u64 x (2 ^ i - 1) = x % 2 ^ i :=
  bits_mask .u64 64 (by decide) wraps_u64 i hi x h0 (by simpa using h1)
theorem and_low (x : Int) (h0 : 0 ≤ x) (h1 : x < 18446744073709551616) : Go.bits .and .u64 x 4294967295 = x % 4294967296 := by
  have := and_mask 32 (by decide) x h0 h1
  simpa using this
theorem and_one (x : Int) (h0 : 0 ≤ x) (h1 : x < 18446744073709551616) : Go.bits .and .u64 x 1 = x % 2 := by
  have := and_mask 1 (by decide) x h0 h1
  simpa using this
theorem or_join (i : Nat) (x y : Int) (hx0 : 0 ≤ x) (hx : x % 2 ^ i = 0) (hx1 : x < 18446744073709551616) (hy0 : 0 ≤ y) (hy : y < 2 ^ i) (hy1 : y < 18446744073709551616) :
    Go.bits .or .u64 x y = x + y :=
  bits_join .u64 64 (by decide) wraps_u64 i x y hx0 hx (by simpa using hx1) hy0 hy (by simpa using hy1)
theorem or_comm (x y : Int) : Go.bits .or .u64 x y = Go.bits .or .u64 y x := by
  simp only [Go.bits, BitVec.or_comm]
theorem or_one (x : Int) (hx0 : 0 ≤ x) (hx : x % 2 = 0) (hx1 : x < 18446744073709551616) (y : Int) (hy0 : 0 ≤ y) (hy : y < 2) :
    Go.bits .or .u64 x y = x + y := or_join 1 x y hx0 (by simpa using hx) hx1 hy0 (by simpa using hy) (by omega)
theorem w64_id (n : Int) (h0 : -9223372036854775808 ≤ n) (h1 : n < 9223372036854775808) : wrap64 n = n := by unfold wrap64; omega

/-- A number of two halves. -/
def num (hi lo : Int) : Int := hi * 18446744073709551616 + lo
/-- Is this a half? -/
def half (x : Int) : Prop := 0 ≤ x ∧ x < 18446744073709551616

theorem num_div (hi lo : Int) (h : half lo) : num hi lo / 18446744073709551616 = hi := by unfold num half at *; omega
theorem num_mod (hi lo : Int) (h : half lo) : num hi lo % 18446744073709551616 = lo := by unfold num half at *; omega
theorem num_split (n : Int) : num (n / 18446744073709551616) (n % 18446744073709551616) = n := by unfold num; omega
theorem half_mod (n : Int) : half (n % 18446744073709551616) := by unfold half; omega
theorem num_inj {a b c d : Int} (h1 : half b) (h2 : half d) (h : num a b = num c d) : a = c ∧ b = d := by unfold num half at *; omega
theorem num_nonneg {hi lo : Int} (h : half hi) (h' : half lo) : 0 ≤ num hi lo := by unfold num half at *; omega
theorem num_lt {hi lo : Int} (h : half hi) (h' : half lo) : num hi lo < 340282366920938463463374607431768211456 := by unfold num half at *; omega

/-! ## Digits to the base 65536 -/
def val : List Int → Int
  | [] => 0
  | d :: r => d + 65536 * val r
def pw : Nat → Int
  | 0 => 1
  | n + 1 => 65536 * pw n
def Dig (l : List Int) : Prop := ∀ d, d ∈ l → 0 ≤ d ∧ d < 65536
theorem pw_pos : ∀ n, 0 < pw n
  | 0 => by simp [pw]
  | n + 1 => by have := pw_pos n; simp only [pw]; omega
theorem val_append (l r : List Int) : val (l ++ r) = val l + pw l.length * val r := by
  induction l with
  | nil => simp [val, pw]
  | cons d l ih => simp only [List.cons_append, val, ih, List.length_cons, pw, Int.mul_add, Int.mul_assoc]; omega
theorem pw_add (a b : Nat) : pw (a + b) = pw a * pw b := by
  induction a with
  | zero => simp [pw]
  | succ n ih => rw [Nat.succ_add]; simp only [pw, ih, Int.mul_assoc]
theorem Dig.tail {d : Int} {l : List Int} (h : Dig (d :: l)) : Dig l := fun x hx => h x (List.mem_cons_of_mem _ hx)
theorem Dig.head {d : Int} {l : List Int} (h : Dig (d :: l)) : 0 ≤ d ∧ d < 65536 := h d List.mem_cons_self
theorem Dig.append {l r : List Int} (h : Dig l) (h' : Dig r) : Dig (l ++ r) := fun x hx => by
  rcases List.mem_append.1 hx with hx | hx
  · exact h x hx
  · exact h' x hx
theorem Dig.one {d : Int} (h : 0 ≤ d ∧ d < 65536) : Dig [d] := fun x hx => by simp at hx; subst hx; exact h
theorem Dig.nil : Dig [] := fun x hx => by simp at hx
theorem val_bound : ∀ {l : List Int}, Dig l → 0 ≤ val l ∧ val l < pw l.length
  | [], _ => by simp [val, pw]
  | d :: l, h => by
    have ih := val_bound h.tail
    have hd := h.head
    simp only [val, List.length_cons, pw]
    omega
theorem Dig.take {l : List Int} (h : Dig l) (n : Nat) : Dig (l.take n) := fun x hx => h x (List.mem_of_mem_take hx)
theorem Dig.drop {l : List Int} (h : Dig l) (n : Nat) : Dig (l.drop n) := fun x hx => h x (List.mem_of_mem_drop hx)
theorem rd_dig {l : List Int} (h : Dig l) (i : Int) (hi : i.toNat < l.length) : 0 ≤ rd l i ∧ rd l i < 65536 := by
  unfold rd
  rw [List.getD_eq_getElem?_getD, List.getElem?_eq_getElem hi]
  exact h _ (List.getElem_mem hi)
theorem rd_nat (l : List Int) (i : Nat) (hi : i < l.length) : rd l (i : Int) = l[i] := by
  unfold rd
  rw [List.getD_eq_getElem?_getD]
  simp [List.getElem?_eq_getElem hi]
theorem take_rd (l : List Int) (i : Nat) (hi : i < l.length) : l.take (i + 1) = l.take i ++ [rd l (i : Int)] := by
  rw [List.take_succ_eq_append_getElem hi, rd_nat l i hi]
theorem drop_rd (l : List Int) (i : Nat) (hi : i < l.length) : l.drop i = rd l (i : Int) :: l.drop (i + 1) := by
  rw [rd_nat l i hi]; exact List.drop_eq_getElem_cons hi
theorem val_take_drop (l : List Int) (i : Nat) (hi : i ≤ l.length) : val l = val (l.take i) + pw i * val (l.drop i) := by
  have h := val_append (l.take i) (l.drop i)
  rw [List.take_append_drop, List.length_take, Nat.min_eq_left hi] at h
  exact h
theorem val_set : ∀ (l : List Int) (m : Nat) (v : Int), m < l.length → val (l.set m v) = val l + pw m * (v - rd l (m : Int))
  | [], m, v, h => by simp at h
  | d :: l, 0, v, _ => by
    simp only [List.set_cons_zero, val, pw, Int.one_mul, rd]
    simp; omega
  | d :: l, m + 1, v, h => by
    have ih := val_set l m v (by simpa using h)
    have e : rd (d :: l) ((m + 1 : Nat) : Int) = rd l (m : Int) := by simp [rd]
    simp only [List.set_cons_succ, val, pw, ih, e, Int.mul_add, Int.mul_assoc]; omega
theorem rd_set (l : List Int) (m n : Nat) (v : Int) (h : m ≠ n) : rd (l.set m v) (n : Int) = rd l (n : Int) := by
  unfold rd
  simp [List.getD_eq_getElem?_getD, List.getElem?_set, h]
theorem Dig.set {l : List Int} (h : Dig l) (m : Nat) {v : Int} (hv : 0 ≤ v ∧ v < 65536) : Dig (l.set m v) := fun x hx => by
  rcases List.mem_or_eq_of_mem_set hx with hx | rfl
  · exact h x hx
  · exact hv

theorem pw4 : pw 4 = 18446744073709551616 := by decide
theorem pw8 : pw 8 = 340282366920938463463374607431768211456 := by decide

end Go.Proofs.Ytdgclpnlbdbamaa.Num
