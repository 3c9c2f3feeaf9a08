/- Walks: the reference's slot.Right, slot, slot.Cmp. -/
import Derived.Test.YtecgfghmmlpghaaRight0
set_option linter.unusedVariables false
set_option linter.unusedSimpArgs false
namespace Go.Proofs.Ytecgfghmmlpghaa.O
open Go.RowKit Go.Proofs.Ytecgfghmmlpghaa.Hp Go.Proofs.Ytecgfghmmlpghaa.Mp
set_option maxRecDepth 100000
set_option maxHeartbeats 1000000 in
theorem refRight_calls (k r : Int) (w : World) : Calls Try.prog 43 #[.agg #[.int .i64 k, .int .i64 r]] w fun e w' => e = .returned (.bool (slotB k r)) ∧ Below w.heap.size w w' := by
  have HB := Lib.hid ((Below.refl _ w).alloc (Nat.le_refl _) (.cells #[.int .i64 k, .int .i64 r] 81))
  have HS : Hid (slotB k r = (decide (0 ≤ k) && decide (k ≤ 3) && decide (0 ≤ r) && decide (r ≤ 32))) := Lib.hid (by
    unfold slotB
    rw [show decide (k < 4) = decide (k ≤ 3) from decide_eq_decide.2 (by omega)])
  rcases Bool.eq_false_or_eq_true (decide (0 ≤ k)) with h1 | h1
  · rcases Bool.eq_false_or_eq_true (decide (k ≤ 3)) with h2 | h2
    · rcases Bool.eq_false_or_eq_true (decide (0 ≤ r)) with h3 | h3
      · go_enter Try.func43, Try.ntmps43
        go_wp2
        go_ret
        exact ⟨by rw [HS.out, h1, h2, h3]; rfl, HB.out⟩
      · go_enter Try.func43, Try.ntmps43
        go_wp2
        go_ret
        exact ⟨by rw [HS.out, h1, h2, h3]; rfl, HB.out⟩
    · go_enter Try.func43, Try.ntmps43
      go_wp2
      go_ret
      exact ⟨by rw [HS.out, h1, h2]; rfl, HB.out⟩
  · go_enter Try.func43, Try.ntmps43
    go_wp2
    go_ret
    exact ⟨by rw [HS.out, h1]; rfl, HB.out⟩
set_option maxHeartbeats 1000000 in
theorem refSlot_calls (k r n : Int) (w : World) : Calls Try.prog 44 #[.agg #[.int .i64 k, .int .i64 r, .int .i64 n]] w fun e w' => e = .returned (.agg #[.int .i64 k, .int .i64 r]) ∧ Below w.heap.size w w' := by
  go_enter Try.func44, Try.ntmps44
  have h1 := blk_new (w.alloc (.cells #[.int .i64 k, .int .i64 r, .int .i64 n] 48)) (.cells #[.int .i64 k, .int .i64 r] 81)
  rw [show (w.alloc (.cells #[.int .i64 k, .int .i64 r, .int .i64 n] 48)).heap.size = w.heap.size + 1 by simp] at h1
  have c0 := blk_cell h1 0
  have c1 := blk_cell h1 1
  have HB := Lib.hid (((Below.refl _ w).alloc (Nat.le_refl _) (.cells #[.int .i64 k, .int .i64 r, .int .i64 n] 48)).alloc (by simp) (.cells #[.int .i64 k, .int .i64 r] 81))
  clear h1
  go_wp2
  refine bodyPost_ret (v := .agg #[.int .i64 k, .int .i64 r]) (by simp [results, Try.results44, go_sem]) rfl ⟨rfl, HB.out⟩
set_option maxHeartbeats 1000000 in
theorem refCmp_calls (k r k2 r2 : Int) (w : World) : Calls Try.prog 45 #[.agg #[.int .i64 k, .int .i64 r], .agg #[.int .i64 k2, .int .i64 r2]] w fun e w' => e = .returned (.int .i64 (cmpS (k, r) (k2, r2))) ∧ Below w.heap.size w w' := by
  have HB := Lib.hid (((Below.refl _ w).alloc (Nat.le_refl _) (.cells #[.int .i64 k, .int .i64 r] 81)).alloc (by simp) (.cells #[.int .i64 k2, .int .i64 r2] 81))
  by_cases h1 : k = k2
  · subst h1
    have hkk : ¬ k < k := by omega
    have hkd : decide (k < k) = false := decide_eq_false hkk
    have q0 : (k == k) = true := by simp
    by_cases h2 : r = r2
    · subst h2
      have HC : Hid (cmpS (k, r) (k, r) = 0) := Lib.hid (by unfold cmpS; rw [if_pos rfl])
      have q1 : (r == r) = true := by simp
      have hrr : ¬ r < r := by omega
      have hrd : decide (r < r) = false := decide_eq_false hrr
      go_enter Try.func45, Try.ntmps45
      go_wp2
      go_ret
      exact ⟨by rw [HC.out]; rfl, HB.out⟩
    · have q1 : (r == r2) = false := by rw [beq_eq_false_iff_ne]; exact h2
      by_cases h3 : r < r2
      · have HC : Hid (cmpS (k, r) (k, r2) = -1) := Lib.hid (by unfold cmpS; rw [if_neg (by simp; exact h2), if_pos (.inr ⟨rfl, h3⟩)])
        have d3 : decide (r < r2) = true := decide_eq_true h3
        go_enter Try.func45, Try.ntmps45
        go_wp2
        go_ret
        exact ⟨by rw [HC.out]; rfl, HB.out⟩
      · have HC : Hid (cmpS (k, r) (k, r2) = 1) := Lib.hid (by unfold cmpS; rw [if_neg (by simp; exact h2), if_neg (by simp; omega)])
        have d3 : decide (r < r2) = false := decide_eq_false h3
        go_enter Try.func45, Try.ntmps45
        go_wp2
        go_ret
        exact ⟨by rw [HC.out]; rfl, HB.out⟩
  · have q1 : (k == k2) = false := by rw [beq_eq_false_iff_ne]; exact h1
    by_cases h3 : k < k2
    · have HC : Hid (cmpS (k, r) (k2, r2) = -1) := Lib.hid (by unfold cmpS; rw [if_neg (by simp; intro h; exact absurd h h1), if_pos (.inl h3)])
      have d3 : decide (k < k2) = true := decide_eq_true h3
      go_enter Try.func45, Try.ntmps45
      go_wp2
      go_ret
      exact ⟨by rw [HC.out]; rfl, HB.out⟩
    · have HC : Hid (cmpS (k, r) (k2, r2) = 1) := Lib.hid (by unfold cmpS; rw [if_neg (by simp; intro h; exact absurd h h1), if_neg (by simp; omega)])
      have d3 : decide (k < k2) = false := decide_eq_false h3
      go_enter Try.func45, Try.ntmps45
      go_wp2
      go_ret
      exact ⟨by rw [HC.out]; rfl, HB.out⟩
end Go.Proofs.Ytecgfghmmlpghaa.O
