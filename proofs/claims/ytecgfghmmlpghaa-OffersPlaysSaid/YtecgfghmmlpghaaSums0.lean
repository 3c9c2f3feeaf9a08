/- Walks: Sums.Right. -/
import Derived.Test.YtecgfghmmlpghaaQc
import Derived.Deep.LoopGhost
set_option linter.unusedVariables false
set_option linter.unusedSimpArgs false
namespace Go.Proofs.Ytecgfghmmlpghaa.O
open Go.RowKit Go.Proofs.Ytecgfghmmlpghaa.Hp Go.Proofs.Ytecgfghmmlpghaa.Mp
set_option maxRecDepth 100000
attribute [local irreducible] Go.wpQuiet
/-- Four sums. -/
structure S4 where
  a : Int
  b : Int
  c : Int
  d : Int
  deriving DecidableEq
def S4.zero : S4 := ⟨0, 0, 0, 0⟩
def S4.nth (s : S4) : Nat → Int
  | 0 => s.a
  | 1 => s.b
  | 2 => s.c
  | _ => s.d
def S4.cells (s : S4) : Array Value := #[.int .i64 s.a, .int .i64 s.b, .int .i64 s.c, .int .i64 s.d]
def okI (x : Int) : Bool := decide (0 ≤ x) && decide (x ≤ 1152921504606846976)
def okS (s : S4) : Bool := okI s.a && okI s.b && okI s.c && okI s.d
theorem S4.cell (s : S4) {w : World} {N : Nat} (h : w.heap[N]? = some (.cells #[.int .i64 s.a, .int .i64 s.b, .int .i64 s.c, .int .i64 s.d] 50 (0, 0))) {k : Nat} (hk : k < 4) : w.cell? ⟨N, k, none⟩ = some (.int .i64 (s.nth k)) := by
  rw [blk_cell h]
  match k, hk with
  | 0, _ => rfl
  | 1, _ => rfl
  | 2, _ => rfl
  | 3, _ => rfl
theorem okS_no (s : S4) {k : Nat} (hk : k < 4) (h : okI (s.nth k) = false) : okS s = false := by
  unfold okS
  match k, hk with
  | 0, _ => rw [show okI s.a = false from h]; simp
  | 1, _ => rw [show okI s.b = false from h]; simp
  | 2, _ => rw [show okI s.c = false from h]; simp
  | 3, _ => rw [show okI s.d = false from h]; simp
theorem okS_yes (s : S4) (h : ∀ k, k < 4 → okI (s.nth k) = true) : okS s = true := by
  unfold okS
  rw [show okI s.a = true from h 0 (by omega), show okI s.b = true from h 1 (by omega), show okI s.c = true from h 2 (by omega), show okI s.d = true from h 3 (by omega)]
  rfl
set_option maxHeartbeats 2000000 in
theorem sumsRight_calls (s : S4) (w : World) : Calls Try.prog 42 #[.agg #[.int .i64 s.a, .int .i64 s.b, .int .i64 s.c, .int .i64 s.d]] w fun e w' => e = .returned (.bool (okS s)) ∧ Below w.heap.size w w' := by
  have HC := Lib.hid (fun k hk => s.cell (blk_new w (.cells #[.int .i64 s.a, .int .i64 s.b, .int .i64 s.c, .int .i64 s.d] 50)) (k := k) hk)
  have HB := Lib.hid ((Below.refl _ w).alloc (Nat.le_refl _) (.cells #[.int .i64 s.a, .int .i64 s.b, .int .i64 s.c, .int .i64 s.d] 50))
  go_enter Try.func42, Try.ntmps42
  go_wp2_with fail
  generalize w.alloc (.cells #[.int .i64 s.a, .int .i64 s.b, .int .i64 s.c, .int .i64 s.d] 50) = W at *
  go_loopg [4] 4 (fun n i wr => ∃ (k : Nat), k ≤ 4 ∧ n = 4 - k ∧ i = .int .i64 k ∧ wr = W ∧ Hid (∀ j, j < k → okI (s.nth j) = true))
  case atStart => exact ⟨0, by omega, rfl, rfl, rfl, Lib.hid (fun j hj => by omega)⟩
  case round =>
    obtain ⟨k, hk, rfl, rfl, rfl, HK⟩ := hrel
    by_cases hlt : k < 4
    · have y := HC.out k hlt
      have hki : (k : Int) < 4 := by omega
      have hk0 : (0 : Int) ≤ (k : Int) := by omega
      have hw : IntKind.i64.wrap ((k : Int) + 1) = (k : Int) + 1 := IntWalk.i64_in _ (by omega)
      have HLT := Lib.hid hlt
      have HX := Lib.hid (fun h => okS_no s (k := k) hlt h)
      have HY := Lib.hid (fun (h : okI (s.nth k) = true) => (show ∀ j, j < k + 1 → okI (s.nth j) = true from fun j hj => by rcases Nat.lt_succ_iff_lt_or_eq.1 hj with h1 | rfl; exact HK.out j h1; exact h))
      generalize s.nth k = x at *
      by_cases h1 : x < 0
      · have d1 : decide (x < 0) = true := decide_eq_true h1
        have HR := Lib.hid (HX.out (by unfold okI; rw [decide_eq_false (by omega)]; rfl))
        clear hk HX HY
        go_wp2_with fail
        go_ret
        exact ⟨by rw [HR.out]; rfl, HB.out⟩
      · have d1 : decide (x < 0) = false := decide_eq_false h1
        by_cases h2 : 1152921504606846976 < x
        · have d2 : decide (1152921504606846976 < x) = true := decide_eq_true h2
          have HR := Lib.hid (HX.out (by unfold okI; rw [decide_eq_false (show ¬ x ≤ 1152921504606846976 by omega)]; simp))
          clear hk HX HY
          go_wp2_with fail
          go_ret
          exact ⟨by rw [HR.out]; rfl, HB.out⟩
        · have d2 : decide (1152921504606846976 < x) = false := decide_eq_false h2
          have HR := Lib.hid (HY.out (by unfold okI; rw [decide_eq_true (show 0 ≤ x by omega), decide_eq_true (show x ≤ 1152921504606846976 by omega)]; rfl))
          clear hk HX HY
          go_wp2_with fail
          go_roundg (4 - (k + 1))
          case measure => have := HLT.out; omega
          case rel => exact ⟨k + 1, HLT.out, rfl, by go_num, rfl, HR⟩
    · have hki : decide ((k : Int) < 4) = false := decide_eq_false (by omega)
      have hki2 : ¬ (k : Int) < 4 := by omega
      have HR := Lib.hid (okS_yes s (fun j hj => HK.out j (by omega)))
      clear hk hlt
      go_wp2_with fail
      go_ret
      exact ⟨by rw [HR.out]; rfl, HB.out⟩
end Go.Proofs.Ytecgfghmmlpghaa.O
