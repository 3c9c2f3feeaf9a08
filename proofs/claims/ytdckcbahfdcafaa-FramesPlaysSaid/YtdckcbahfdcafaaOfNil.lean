/- Of, where nobody is there. -/
import Derived.Test.YtdckcbahfdcafaaAll
set_option linter.unusedVariables false
set_option linter.unusedSimpArgs false
namespace Go.Proofs.Ytdckcbahfdcafaa.F
open Go.RowKit Go.Sort Go.Proofs.Ytdckcbahfdcafaa.Hp Go.Proofs.Ytdckcbahfdcafaa.Mp
set_option maxRecDepth 100000

set_option maxHeartbeats 400000 in
theorem index_nil (p : Option Addr) (c : Nat) (fv : Value) (w : World) : Calls Try.prog 37 #[.slice p 0 c, fv] w fun e w' => e = .returned (.int .i64 (-1)) ∧ w = w' := by
  go_enter Try.func37, Try.ntmps37
  go_wp2
  refine wp_loop_rounds 1 ?_
  rw [rounds_succ]
  go_wp2
  go_ret
  exact ⟨rfl, rfl⟩
set_option maxHeartbeats 400000 in
theorem del_nil (p : Option Addr) (c : Nat) (fv : Value) (w : World) : Calls Try.prog 33 #[.slice p 0 c, fv] w fun e w' => e = .returned (.slice p 0 c) ∧ w = w' := by
  go_enter Try.func33, Try.ntmps33
  go_wp2_with fail
  refine (index_nil _ _ _ _).mono ?_
  rintro e w' ⟨rfl, rfl⟩
  go_wp2
  go_ret
  exact ⟨rfl, rfl⟩
set_option maxHeartbeats 1000000 in
theorem of_nil (hS : SortC) {b m : Nat} {cap : Int} {R : List (Int × Int)} (number : Int) (w : World) (h : Tab w b m cap [] R) :
    Calls Try.prog 22 #[.pointer (some ⟨b, 0, none⟩), .int .i64 number] w fun e w' => ∃ p c, e = .returned (.slice p 0 c) ∧ Below w.heap.size w w' := by
  have hT := (h.alloc (.cells #[.pointer (some ⟨b, 0, none⟩)] 23)).alloc (.cells #[.int .i64 number] 3)
  have HB := Lib.hid (((Below.refl _ w).alloc (Nat.le_refl _) (.cells #[.pointer (some ⟨b, 0, none⟩)] 23)).alloc (by simp) (.cells #[.int .i64 number] 3))
  have HC := Lib.hid (sorted_calls hS _ hT (by simp) (by simp))
  clear h hT
  go_enter Try.func22, Try.ntmps22
  go_wp2_with fail
  refine HC.out.mono ?_
  rintro e w1 ⟨v, ss, rfl, hp, hsrt, hrow, hb⟩
  have hv : ∃ p c, v = .slice p 0 c := by
    rcases hrow.2 with ⟨h1, _⟩ | ⟨g, cp, cur, h1, _⟩
    · exact ⟨_, _, h1⟩
    · exact ⟨_, _, h1⟩
  have HB1 := Lib.hid (HB.out.trans (hb.mono (by simp; omega)))
  clear hp hsrt hrow hb
  obtain ⟨p, c, rfl⟩ := hv
  go_wp2_with fail
  refine (del_nil _ _ _ _).mono ?_
  rintro e w' ⟨rfl, rfl⟩
  go_wp2
  go_ret
  exact ⟨_, _, rfl, HB1.out⟩
end Go.Proofs.Ytdckcbahfdcafaa.F
