/- Weight, where nobody is of the role. -/
import Derived.Test.YtdckcbahfdcafaaOfNil
set_option linter.unusedVariables false
set_option linter.unusedSimpArgs false
namespace Go.Proofs.Ytdckcbahfdcafaa.F
open Go.RowKit Go.Sort Go.Proofs.Ytdckcbahfdcafaa.Hp Go.Proofs.Ytdckcbahfdcafaa.Mp
set_option maxRecDepth 100000

set_option maxHeartbeats 400000 in
theorem weight_out {b m : Nat} {cap : Int} {l : List (Int × Fr)} {R : List (Int × Int)} (role : Int) (hr : role < 1 ∨ 32 < role) (w : World) (h : Tab w b m cap l R) :
    Calls Try.prog 15 #[.pointer (some ⟨b, 0, none⟩), .int .i64 role] w fun e w' => e = .returned (.tuple #[.int .i64 0, .bool false]) ∧ w = w' := by
  have HT := Lib.hid h
  clear h
  rcases hr with hr | hr
  · have d1 : decide (role < 1) = true := decide_eq_true hr
    clear hr
    go_enter Try.func15, Try.ntmps15
    go_wp2_with (go_at_call 26; refine (made_yes _ HT.out).mono ?_; rintro e w' ⟨rfl, rfl⟩)
    go_ret2
    exact ⟨rfl, rfl⟩
  · have d1 : decide (role < 1) = false := decide_eq_false (by omega)
    have d2 : decide (32 < role) = true := decide_eq_true hr
    clear hr
    go_enter Try.func15, Try.ntmps15
    go_wp2_with (go_at_call 26; refine (made_yes _ HT.out).mono ?_; rintro e w' ⟨rfl, rfl⟩)
    go_ret2
    exact ⟨rfl, rfl⟩
set_option maxHeartbeats 400000 in
theorem weight_zero {b m : Nat} {cap : Int} {l : List (Int × Fr)} {R : List (Int × Int)} (r : Nat) (hr : 1 ≤ r ∧ r ≤ 32) (wr : Int) (w : World) (h : Tab w b m cap l R) (hm : R[r]? = some (0, wr)) :
    Calls Try.prog 15 #[.pointer (some ⟨b, 0, none⟩), .int .i64 r] w fun e w' => e = .returned (.tuple #[.int .i64 0, .bool false]) ∧ w = w' := by
  have h1 := h.many' hm
  have HT := Lib.hid h
  clear h hm
  obtain ⟨hr1, hr2⟩ := hr
  have d1 : decide ((r : Int) < 1) = false := decide_eq_false (by omega)
  have d2 : decide (32 < (r : Int)) = false := decide_eq_false (by omega)
  go_enter Try.func15, Try.ntmps15
  go_wp2_with (go_at_call 26; refine (made_yes _ HT.out).mono ?_; rintro e w' ⟨rfl, rfl⟩)
  go_ret2
  exact ⟨rfl, rfl⟩
end Go.Proofs.Ytdckcbahfdcafaa.F
