/- The plain law of one queue: what is kept, what is lost. -/
import Derived.Test.YtchhpgnlfofdcaaAbs
set_option linter.unusedVariables false
set_option linter.unusedSimpArgs false
namespace Go.Proofs.Ytchhpgnlfofdcaa.Q
open Go.RowKit Go.Proofs.Ytchhpgnlfofdcaa.Hp Go.Proofs.Ytchhpgnlfofdcaa.Mp

/-- The events about a framework. -/
def about (frame : Int) (es : List Ev) : List Ev := es.filter fun e => e.frame == frame
/-- How many of n are lost where m may be. -/
def lostN (most : Int) (n : Nat) : Nat := n - most.toNat
/-- The last ones, as many as may be. -/
def lastN (most : Int) (F : List Ev) : List Ev := F.drop (lostN most F.length)
theorem put1_last {most : Int} (hm : 1 ≤ most) (F : List Ev) (e : Ev) : put1 most (lastN most F, (lostN most F.length : Int)) e = (lastN most (F ++ [e]), (lostN most (F ++ [e]).length : Int)) := by
  obtain ⟨M, hM⟩ := Int.eq_ofNat_of_zero_le (show 0 ≤ most by omega)
  subst hM
  unfold put1 lastN lostN
  simp only [Int.toNat_natCast, List.length_drop, List.length_append, List.length_singleton]
  by_cases h : M ≤ F.length
  · rw [if_pos (by omega)]
    have h1 : F.length + 1 - M = (F.length - M) + 1 := by omega
    rw [h1, List.drop_append_of_le_length (by omega), ← List.drop_drop]
    refine Prod.ext ?_ (by simp only; omega)
    simp only
    rw [List.tail_drop]
    congr 1
    rw [List.drop_drop]
  · rw [if_neg (by omega)]
    have h1 : F.length - M = 0 := by omega
    have h2 : F.length + 1 - M = 0 := by omega
    rw [h1, h2]
    rfl
theorem putsF_one {most : Int} (hm : 1 ≤ most) (frame : Int) : ∀ (es F : List Ev), putsF most [(frame, (lastN most F, (lostN most F.length : Int)))] es = [(frame, (lastN most (F ++ about frame es), (lostN most (F ++ about frame es).length : Int)))]
  | [], F => by simp [putsF, about]
  | e :: es, F => by
    show putsF most (putF most _ e) es = _
    unfold putF
    by_cases h : frame = e.frame
    · have hab : about frame (e :: es) = e :: about frame es := by unfold about; rw [List.filter_cons_of_pos (by simp [h])]
      simp only [mget, if_pos h, mput]
      rw [put1_last hm, ← h, putsF_one hm frame es (F ++ [e]), hab, List.append_assoc]
      rfl
    · have hab : about frame (e :: es) = about frame es := by unfold about; rw [List.filter_cons_of_neg (by simp; exact fun hh => h hh.symm)]
      simp only [mget, if_neg h]
      rw [putsF_one hm frame es F, hab]
end Go.Proofs.Ytchhpgnlfofdcaa.Q
