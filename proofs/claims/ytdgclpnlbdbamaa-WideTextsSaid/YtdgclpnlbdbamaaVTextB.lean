/- A number's text, by the program and by the document, and the reading of a text, as printed. -/
import Derived.Test.YtdgclpnlbdbamaaVTextA
import Derived.Test.YtdgclpnlbdbamaaVParse
import Derived.Test.YtdgclpnlbdbamaaVRefText
import Derived.Test.YtdgclpnlbdbamaaVLawText
import Derived.Test.YtdgclpnlbdbamaaVDec
import Derived.Test.YtdgclpnlbdbamaaVArith
import Derived.Test.YtdgclpnlbdbamaaVShift
set_option linter.unusedVariables false
set_option linter.unusedSimpArgs false
namespace Go.Proofs.Ytdgclpnlbdbamaa.V
open Go.RowKit Go.Proofs.YtdgclpnlbdbamaaW.PrintWords Go.Proofs.YtdgclpnlbdbamaaW.PrintLast Go.Proofs.YtdgclpnlbdbamaaW.PrintMore Go.Proofs.Ytdgclpnlbdbamaa.Num

/-! ## The document's text -/
theorem rtext_arith (p x r V : Int) (hp : 0 < p) (hV : 0 ≤ V) : (p * (10 * x + r) + V) / 10 = p * x + (p * r + V) / 10 ∧ (p * (10 * x + r) + V) % 10 = (p * r + V) % 10 := by
  have e : p * (10 * x + r) + V = (p * r + V) + 10 * (p * x) := by
    rw [Int.mul_add, Int.mul_left_comm]; omega
  rw [e]
  generalize p * x = a
  generalize p * r + V = b
  omega

theorem rtext_in (s : ByteArray) : ∀ (n k : Nat) (d : List Int) (ag : Bool) (rest : Int), Dig d → n ≤ d.length → d.length ≤ 20 → 0 ≤ rest ∧ rest < 10 → s.size ≤ 1000 →
    ∃ d', mancipleref01_Text.l1 (k + n + 1) d s ag rest ((n : Int) - 1) = mancipleref01_Text.l0 k d' (strOfNums [48 + (rest * pw n + val (d.take n)) % 10] ++ s) (ag || decide (0 < (rest * pw n + val (d.take n)) / 10)) ∧
      Dig d' ∧ d'.length = d.length ∧ val (d'.take n) = (rest * pw n + val (d.take n)) / 10 ∧ d'.drop n = d.drop n := by
  intro n
  induction n with
  | zero =>
    intro k d ag rest hd hn hl hr hs
    refine ⟨d, ?_, hd, rfl, ?_, rfl⟩
    · simp only [mancipleref01_Text.l1, Nat.add_zero]
      rw [if_neg (by omega)]
      simp only [Option.bind_some, pw, List.take_zero, val, Int.mul_one, Int.add_zero]
      have e : wrap64 (48 + rest) % 256 = 48 + rest % 10 := by rw [w64_id _ (by omega) (by omega)]; omega
      have e2 : decide (0 < rest / 10) = false := decide_eq_false (by omega)
      rw [e, if_pos (by rw [strOfNums_size]; simp; omega), e2, Bool.or_false]
    · simp only [pw, List.take_zero, val, Int.mul_one, Int.add_zero]; omega
  | succ n ih =>
    intro k d ag rest hd hn hl hr hs
    have hrd := rd_dig hd (n : Int) (by rw [Int.toNat_natCast]; omega)
    obtain ⟨m, hm⟩ : ∃ m, m = rest * 65536 + rd d (n : Int) := ⟨_, rfl⟩
    have hm0 : 0 ≤ m ∧ m < 655360 := by omega
    have hd1 : Dig (d.set n (m / 10)) := Dig.set hd n (by omega)
    have ht1 : (d.set n (m / 10)).take n = d.take n := by rw [List.take_set_of_le (Nat.le_refl n)]
    have hdr : (d.set n (m / 10)).drop n = m / 10 :: d.drop (n + 1) := by
      rw [List.drop_eq_getElem_cons (by rw [List.length_set]; omega)]
      simp [List.drop_set]
    obtain ⟨d', g1, g2, g3, g4, g5⟩ := ih k (d.set n (m / 10)) (ag || decide (0 < m / 10)) (m % 10) hd1 (by rw [List.length_set]; omega) (by rw [List.length_set]; omega) (by omega) hs
    rw [ht1] at g1 g4
    rw [List.length_set] at g3
    have hbv := val_bound (hd.take n)
    have hp := pw_pos n
    have eV : rest * pw (n + 1) + val (d.take (n + 1)) = pw n * (10 * (m / 10) + m % 10) + val (d.take n) := by
      rw [take_rd d n (by omega), val_append, List.length_take, Nat.min_eq_left (by omega)]
      simp only [val, pw, Int.mul_zero, Int.add_zero]
      have e1 : 10 * (m / 10) + m % 10 = m := by omega
      rw [e1, hm, Int.mul_add]
      have e2 : rest * (65536 * pw n) = pw n * (rest * 65536) := by rw [← Int.mul_assoc, Int.mul_comm]
      rw [e2]; omega
    obtain ⟨a1, a2⟩ := rtext_arith (pw n) (m / 10) (m % 10) (val (d.take n)) hp hbv.1
    have ec : m % 10 * pw n = pw n * (m % 10) := Int.mul_comm _ _
    rw [ec] at g1 g4
    rw [eV, a1, a2]
    refine ⟨d', ?_, g2, g3, ?_, ?_⟩
    · have e0 : ((n + 1 : Nat) : Int) - 1 = (n : Int) := by omega
      have e1 : wrap64 (rest * 65536) = rest * 65536 := w64_id _ (by omega) (by omega)
      have e2 : wrap64 m = m := w64_id _ (by omega) (by omega)
      have e3 : wrap64 (m / 10) = m / 10 := w64_id _ (by omega) (by omega)
      have e4 : wrap64 ((n : Int) - 1) = (n : Int) - 1 := w64_id _ (by omega) (by omega)
      have c1 : (n : Int) ≥ 0 := by omega
      have c2 : (0 : Int) ≤ (n : Int) := by omega
      have c3 : (n : Int) < (d.length : Int) := by omega
      rw [show k + (n + 1) + 1 = (k + n + 1) + 1 from by omega]
      generalize k + n + 1 = K at g1 ⊢
      simp only [mancipleref01_Text.l1, Option.bind_some]
      rw [e0, if_pos c1, if_pos c2, if_pos c3, e1, ← hm, e2, Int.tdiv_eq_ediv_of_nonneg hm0.1, Int.tmod_eq_emod_of_nonneg hm0.1, e3, e4, Int.toNat_natCast]
      have hrs : rd (d.set n (m / 10)) (n : Int) = m / 10 := by rw [rd_nat _ _ (by rw [List.length_set]; omega)]; simp
      have hV1 : 0 ≤ pw n * (m % 10) + val (d.take n) := by
        have : 0 ≤ pw n * (m % 10) := Int.mul_nonneg (by omega) (by omega)
        omega
      have hpos : decide (0 < pw n * (m / 10) + (pw n * (m % 10) + val (d.take n)) / 10) = (decide (0 < m / 10) || decide (0 < (pw n * (m % 10) + val (d.take n)) / 10)) := by
        rw [Bool.eq_iff_iff]
        simp only [Bool.or_eq_true, decide_eq_true_eq]
        have q0 : 0 ≤ m / 10 := by omega
        have q1 : 0 ≤ pw n * (m / 10) := Int.mul_nonneg (by omega) q0
        have q2 : 0 < m / 10 → 0 < pw n * (m / 10) := fun h => Int.mul_pos hp h
        have q3 : m / 10 = 0 → pw n * (m / 10) = 0 := fun h => by rw [h]; simp
        generalize pw n * (m % 10) + val (d.take n) = v at *
        constructor
        · intro h
          by_cases hz : m / 10 = 0
          · have := q3 hz; right; omega
          · left; omega
        · rintro (h | h)
          · have := q2 h; omega
          · omega
      rw [hpos, ← Bool.or_assoc, ← g1, hrs]
      cases ag
      · rw [if_neg (by simp), Bool.false_or]
      · rw [if_pos rfl, Bool.true_or]
    · have hln : n < d'.length := by omega
      have e5 : d'.drop n = m / 10 :: d.drop (n + 1) := by rw [g5, hdr]
      have e6 : d'[n] = m / 10 := by
        have := List.drop_eq_getElem_cons hln
        rw [e5] at this
        simp only [List.cons.injEq] at this
        exact this.1.symm
      rw [take_rd d' n hln, val_append, List.length_take, Nat.min_eq_left (by omega), rd_nat _ _ hln, e6, g4]
      simp only [val, Int.mul_zero, Int.add_zero]; omega
    · have : d'.drop (n + 1) = (d'.drop n).tail := by simp
      rw [this, g5, hdr]; rfl

theorem rtext_loop : ∀ (j n k : Nat) (d : List Int) (s : ByteArray), n < tens (j + 1) → Dig d → d.length ≤ 20 → val d = (n : Int) → s.size + j ≤ 900 → 30 * j + 40 ≤ k →
    mancipleref01_Text.l0 k d s true = some (strOfNums (chars n).reverse ++ s) := by
  intro j
  induction j with
  | zero =>
    intro n k d s hn hd hl hv hs hk
    have hlt : n < 10 := by rw [tens_one] at hn; exact hn
    obtain ⟨k, rfl⟩ : ∃ m, k = (m + 1 + d.length + 1) + 1 := ⟨k - d.length - 3, by omega⟩
    obtain ⟨d', g1, g2, g3, g4, g5⟩ := rtext_in s d.length (k + 1) d false 0 hd (Nat.le_refl _) hl (by omega) (by omega)
    rw [mancipleref01_Text.l0, if_pos rfl, w64_id _ (by omega) (by omega), g1]
    rw [List.take_length, Int.zero_mul, Int.zero_add, hv]
    have e1 : decide (0 < (n : Int) / 10) = false := decide_eq_false (by omega)
    have e2 : (n : Int) % 10 = n := by omega
    rw [e1, e2, mancipleref01_Text.l0, if_neg (by simp), chars_small hlt, List.reverse_singleton]
  | succ j ih =>
    intro n k d s hn hd hl hv hs hk
    have hn10 : n / 10 < tens (j + 1) := by rw [tens_succ (j + 1)] at hn; omega
    clear hn
    obtain ⟨k, rfl⟩ : ∃ m, k = (m + 1 + d.length + 1) + 1 := ⟨k - d.length - 3, by omega⟩
    have hk' : 30 * j + 40 ≤ k + 1 := by omega
    obtain ⟨d', g1, g2, g3, g4, g5⟩ := rtext_in s d.length (k + 1) d false 0 hd (Nat.le_refl _) hl (by omega) (by omega)
    have hl' : d'.length ≤ 20 := by omega
    rw [mancipleref01_Text.l0, if_pos rfl, w64_id _ (by omega) (by omega), g1]
    rw [List.take_length, Int.zero_mul, Int.zero_add, hv]
    rw [List.take_length, Int.zero_mul, Int.zero_add, hv] at g4
    clear g1 g5 hv hk hl
    by_cases hlt : n < 10
    · have e1 : decide (0 < (n : Int) / 10) = false := decide_eq_false (by omega)
      have e2 : (n : Int) % 10 = n := by omega
      rw [e1, e2, mancipleref01_Text.l0, if_neg (by simp), chars_small hlt, List.reverse_singleton]
    · have e1 : decide (0 < (n : Int) / 10) = true := decide_eq_true (by omega)
      have hv' : val d' = ((n / 10 : Nat) : Int) := by
        rw [← g3, List.take_length] at g4; rw [g4]; omega
      have hsz : (strOfNums [48 + (n : Int) % 10] ++ s).size + j ≤ 900 := by
        rw [ByteArray.size_append, strOfNums_size]
        show 1 + s.size + j ≤ 900
        omega
      have := ih (n / 10) (k + 1) d' _ hn10 g2 hl' hv' hsz hk'
      rw [e1, Bool.false_or, this]
      rw [chars_big hlt, List.reverse_cons, strOfNums_append, ByteArray.append_assoc]
      have e2 : (n : Int) % 10 = ((n % 10 : Nat) : Int) := by omega
      rw [e2]

theorem rtext_tells (k : Nat) {d : List Int} (hd : Dig d) (hl : d.length ≤ 20) (n : Nat) (hn : n < 340282366920938463463374607431768211456) (hv : val d = (n : Int)) (hk : 2000 ≤ k) :
    mancipleref01_Text.f k d = some (strOfNums (chars n).reverse) := by
  have hb' := tens_wide (n := n) (by omega)
  unfold mancipleref01_Text.f
  simp only [Option.bind_some, List.nil_append, List.length_nil]
  rw [if_pos (by omega), rtext_loop 38 n k d ⟨#[]⟩ hb' hd hl hv (by show 0 + 38 ≤ 900; omega) (by omega)]
  congr 1
  apply ByteArray.ext
  simp

/-! ## Reading a text -/
theorem parse_loop (s : ByteArray) (hs : s.size ≤ 1000000) : ∀ (d k : Nat) (hi lo : Int) (i : Nat), d + i = s.size → half hi → half lo → d * 2 + 5 < k →
    wide_Parse.l0 k s (s.size : Int) i hi lo = match pv (num hi lo) ((bytesOf s).drop i) with
      | some W => some (W / 18446744073709551616, W % 18446744073709551616, true)
      | none => some (0, 0, false) := by
  intro d
  induction d with
  | zero =>
    intro k hi lo i hi' h0 h1 hk
    obtain ⟨k, rfl⟩ : ∃ m, k = m + 1 := ⟨k - 1, by omega⟩
    have e : (bytesOf s).drop i = [] := List.drop_eq_nil_of_le (by rw [bytesOf_length]; omega)
    rw [e]
    simp only [wide_Parse.l0, pv]
    rw [if_neg (by omega), num_div _ _ h1, num_mod _ _ h1]
  | succ d ih =>
    intro k hi lo i hi' h0 h1 hk
    obtain ⟨k, rfl⟩ : ∃ m, k = m + 1 + 1 := ⟨k - 2, by omega⟩
    have hbr := bt_range s (i : Int)
    have hb : (bytesOf s).drop i = bt s (i : Int) :: (bytesOf s).drop (i + 1) := by
      rw [drop_rd _ i (by rw [bytesOf_length]; omega), rd_bytesOf]
    have e2 : wrap64 ((i : Int) + 1) = ((i + 1 : Nat) : Int) := by rw [w64_id _ (by omega) (by omega)]; omega
    have c1 : (i : Int) < (s.size : Int) := by omega
    have c2 : (0 : Int) ≤ (i : Int) := by omega
    have hN0 := num_nonneg h0 h1
    have ht := times_tells h0 h1 (b := 10) (by unfold half; omega)
    rw [hb]
    generalize hbt : bt s (i : Int) = b at *
    have key : ∀ bad : Bool, bad = decide (b < 48 ∨ 57 < b) → (wide_Parse.j2 (k + 1) s (i : Int) (s.size : Int) (i : Int) bad hi lo) = match pv (num hi lo) (b :: (bytesOf s).drop (i + 1)) with
      | some W => some (W / 18446744073709551616, W % 18446744073709551616, true)
      | none => some (0, 0, false) := by
      intro bad hbad
      simp only [wide_Parse.j2, pv]
      by_cases hb48 : b < 48 ∨ 57 < b
      · rw [if_pos hb48, hbad, decide_eq_true hb48, if_pos rfl]
      · rw [if_neg hb48, hbad, decide_eq_false hb48, if_neg (by simp), ht]
        simp only [Option.bind_some]
        have hbb : (b - 48) % 256 = b - 48 := by omega
        rw [if_pos c2, if_pos c1, hbt, hbb, of_tells]
        simp only [Option.bind_some]
        generalize num hi lo = N at *
        have ha := add_tells (half_mod (N * 10 / 18446744073709551616)) (half_mod (N * 10)) (b0 := 0) (b1 := b - 48) (by unfold half; omega) (by unfold half; omega)
        have hn0 : num 0 (b - 48) = b - 48 := by unfold num; omega
        rw [hn0] at ha
        rw [ha]
        simp only [Option.bind_some]
        by_cases hf : N * 10 < 340282366920938463463374607431768211456
        · have hN : num (N * 10 / 18446744073709551616 % 18446744073709551616) (N * 10 % 18446744073709551616) = N * 10 := by unfold num; omega
          rw [hN, decide_eq_true hf, if_pos rfl]
          by_cases hg : N * 10 + (b - 48) < 340282366920938463463374607431768211456
          · rw [decide_eq_true hg, if_pos rfl, if_pos hg, e2]
            have hN2 : num ((N * 10 + (b - 48)) / 18446744073709551616 % 18446744073709551616) ((N * 10 + (b - 48)) % 18446744073709551616) = N * 10 + (b - 48) := by unfold num; omega
            have := ih k ((N * 10 + (b - 48)) / 18446744073709551616 % 18446744073709551616) ((N * 10 + (b - 48)) % 18446744073709551616) (i + 1) (by omega) (half_mod _) (half_mod _) (by omega)
            rw [hN2] at this
            exact this
          · rw [decide_eq_false hg, if_neg (by simp), if_neg hg]
        · rw [decide_eq_false hf, if_neg (by simp), if_neg (by omega)]
    simp only [wide_Parse.l0]
    rw [if_pos c1, if_pos c2, if_pos c1, hbt]
    by_cases hb1 : b < 48
    · rw [if_pos hb1]
      exact key true (by rw [decide_eq_true (Or.inl hb1)])
    · rw [if_neg hb1]
      refine key (decide (b > 57)) ?_
      rw [decide_eq_decide]; omega

/-- What a text is read as: nothing, where it is empty or begins with a needless zero. -/
def pt (l : List Int) : Option Int := if l = [] ∨ (l.head? = some 48 ∧ 1 < l.length) then none else pv 0 l
theorem parse_tells (s : ByteArray) (hs : s.size ≤ 1000000) (k : Nat) (hk : 2 * s.size + 100 ≤ k) :
    wide_Parse.f k s = match pt (bytesOf s) with
      | some W => some (W / 18446744073709551616, W % 18446744073709551616, true)
      | none => some (0, 0, false) := by
  obtain ⟨k, rfl⟩ : ∃ m, k = m + 1 := ⟨k - 1, by omega⟩
  have hl := bytesOf_length s
  have hlist : s.toList = s.data.toList := ByteArray.toList_eq s
  have h00 : half 0 := by unfold half; omega
  have hp := parse_loop s hs s.size k 0 0 0 (by omega) h00 h00 (by omega)
  rw [List.drop_zero] at hp
  have hnum : num 0 0 = 0 := rfl
  rw [hnum] at hp
  unfold wide_Parse.f pt
  by_cases he : bytesOf s = []
  · have hsz : s.toList = [] := by
      rw [hlist]
      unfold bytesOf at he
      exact List.map_eq_nil_iff.1 he
    rw [if_pos hsz, if_pos (Or.inl he)]
    rfl
  · have hpos : 0 < (bytesOf s).length := List.length_pos_iff.2 he
    have hsz : s.toList ≠ [] := by
      intro h
      rw [hlist] at h
      apply he
      unfold bytesOf; rw [h]; rfl
    have hb0 : (bytesOf s).head? = some (bt s 0) := by
      have := drop_rd (bytesOf s) 0 hpos
      rw [List.drop_zero] at this
      rw [this]
      have e : rd (bytesOf s) ((0 : Nat) : Int) = bt s 0 := rd_bytesOf s 0
      rw [e]; rfl
    rw [if_neg hsz, if_pos (by omega), hb0]
    by_cases h48 : bt s 0 = 48
    · rw [if_pos h48]
      by_cases h1 : 1 < (bytesOf s).length
      · rw [if_pos (Or.inr ⟨by rw [h48], h1⟩), decide_eq_true (by omega)]
        rfl
      · rw [if_neg (by rintro (h | ⟨_, h⟩); exact he h; exact h1 h), decide_eq_false (by omega)]
        simp only [wide_Parse.j0]
        rw [if_neg (by simp)]
        exact hp
    · rw [if_neg h48, if_neg (by rintro (h | ⟨h, _⟩); exact he h; exact h48 (by injection h))]
      simp only [wide_Parse.j0]
      rw [if_neg (by simp)]
      exact hp

theorem bytesOf_strOfNums (l : List Int) (h : ∀ c, c ∈ l → 48 ≤ c ∧ c ≤ 57) : bytesOf (strOfNums l) = l := by
  unfold bytesOf
  rw [strOfNums_data, List.map_map]
  conv => rhs; rw [← List.map_id l]
  apply List.map_congr_left
  intro c hc
  have := h c hc
  simp only [Function.comp, id]
  rw [UInt8.toNat_ofNat']
  omega
theorem bytes_eq {s t : ByteArray} (h : bytesOf s = bytesOf t) : s = t := by
  apply ByteArray.ext
  apply Array.toList_inj.1
  unfold bytesOf at h
  refine (List.map_inj_right ?_).1 h
  intro x y hxy
  exact UInt8.toNat_inj.1 (by omega)

/-- A number's text is read back. -/
theorem parse_text (n : Nat) (hn : n < 340282366920938463463374607431768211456) (k : Nat) (hk : 1000 ≤ k) :
    wide_Parse.f k (strOfNums (chars n).reverse) = some ((n : Int) / 18446744073709551616, (n : Int) % 18446744073709551616, true) := by
  have hb' := tens_wide (n := n) (by omega)
  have hl := chars_length n 38 hb'
  have hsz : (strOfNums (chars n).reverse).size ≤ 39 := by rw [strOfNums_size, List.length_reverse]; omega
  rw [parse_tells _ (by omega) k (by omega)]
  have hb : bytesOf (strOfNums (chars n).reverse) = (chars n).reverse := bytesOf_strOfNums _ (fun c hc => chars_dig n c (List.mem_reverse.1 hc))
  rw [hb]
  have hpt : pt (chars n).reverse = some (n : Int) := by
    unfold pt
    rw [if_neg, pv_chars n (by omega)]
    rintro (h | ⟨h, h1⟩)
    · exact chars_ne n (List.reverse_eq_nil_iff.1 h)
    · obtain ⟨t, c, e, hc⟩ := chars_last n
      rw [e, List.reverse_append] at h
      have hc48 : c = 48 := by simpa using h
      obtain ⟨_, rfl⟩ := hc hc48
      rw [e] at h1
      simp at h1
  rw [hpt]

/-- Whatever is read is told by the same digits. -/
theorem pt_text {s : ByteArray} {W : Int} (h : pt (bytesOf s) = some W) : 0 ≤ W ∧ W < 340282366920938463463374607431768211456 ∧ strOfNums (chars W.toNat).reverse = s := by
  unfold pt at h
  split at h
  · exact absurd h (by simp)
  · rename_i hc
    have hne : bytesOf s ≠ [] := fun e => hc (Or.inl e)
    have h0 := pv_nonneg _ 0 W (by omega) h
    have h1 := pv_lt _ 0 W (by omega) h
    refine ⟨h0, h1, ?_⟩
    have hr := chars_pv (bytesOf s).length (bytesOf s) W rfl hne (fun h48 => by
      have hp : 0 < (bytesOf s).length := List.length_pos_iff.2 hne
      by_cases hl : 1 < (bytesOf s).length
      · exact absurd (Or.inr ⟨h48, hl⟩) hc
      · omega) h
    apply bytes_eq
    rw [bytesOf_strOfNums _ (fun c hc => chars_dig _ c (List.mem_reverse.1 hc)), hr]
end Go.Proofs.Ytdgclpnlbdbamaa.V
