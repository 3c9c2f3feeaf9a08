/- The reference: Same, SameIDs at what is alike. -/
import Derived.Test.YtdckcbahfdcafaaRef2
set_option linter.unusedVariables false
set_option linter.unusedSimpArgs false
namespace Go.Proofs.Ytdckcbahfdcafaa.F
open Go.RowKit Go.Sort Go.Proofs.Ytdckcbahfdcafaa.Hp Go.Proofs.Ytdckcbahfdcafaa.Mp
set_option maxRecDepth 100000
attribute [local go_sem high] eqW30

set_option maxHeartbeats 4000000 in
theorem same_calls (fa fa' : Option Addr) (g g' fc fc' : Nat) (fs : List Fr) (w : World) (hlen : fs.length ≤ 900) (ha : 0 < fs.length → fa = some ⟨g, 0, none⟩ ∧ g < w.heap.size) (hc : ∀ j (hj : j < fs.length), FrAt w g (0 + j * 7) fs[j])
    (ha' : 0 < fs.length → fa' = some ⟨g', 0, none⟩ ∧ g' < w.heap.size) (hc' : ∀ j (hj : j < fs.length), FrAt w g' (0 + j * 7) fs[j]) :
    Calls Try.prog 19 #[.slice fa fs.length fc, .slice fa' fs.length fc'] w fun e w' => e = .returned (.bool true) ∧ Below w.heap.size w w' := by
  have HA := Lib.hid ha
  have HC := Lib.hid hc
  have HA' := Lib.hid ha'
  have HC' := Lib.hid hc'
  have HL := Lib.hid hlen
  clear ha hc hlen ha' hc'
  go_enter Try.func19, Try.ntmps19
  go_wp2
  go_loopg [5] fs.length (fun n i wr => ∃ (k q : Nat), k ≤ fs.length ∧ n = fs.length - k ∧ i = .int .i64 k ∧ wr = w.drewN q)
  case atStart => exact ⟨0, 0, by omega, rfl, rfl, (World.drewN_zero w).symm⟩
  case round =>
    obtain ⟨k, q, hk, rfl, rfl, rfl⟩ := hrel
    by_cases hlt : k < fs.length
    · obtain ⟨h1, h2⟩ := HA.out (by omega)
      subst h1
      obtain ⟨h1, h2'⟩ := HA'.out (by omega)
      subst h1
      have hf := HC.out k hlt
      rw [Nat.zero_add] at hf
      have hf' := HC'.out k hlt
      rw [Nat.zero_add] at hf'
      have HLT := Lib.hid hlt
      clear h2 h2'
      generalize fs[k] = f at *
      obtain ⟨c0, c1, c2, c3, c4, c5, c6⟩ := hf
      obtain ⟨d0, d1, d2, d3, d4, d5, d6⟩ := hf'
      have hq : frEq ⟨f.id, f.role, f.weight, f.up, f.quiet, f.time, f.till⟩ ⟨f.id, f.role, f.weight, f.up, f.quiet, f.time, f.till⟩ = true := frEq_self f
      have hki : (k : Int) < (fs.length : Int) := by omega
      have hk0 : (0 : Int) ≤ (k : Int) := by omega
      have hw : IntKind.i64.wrap ((k : Int) + 1) = (k : Int) + 1 := IntWalk.i64_in _ (by have := HL.out; omega)
      go_wp2_with fail
      go_quiet (fail)
      go_wp2
      go_roundg (fs.length - (k + 1))
      case measure => have := HLT.out; omega
      case rel => exact ⟨k + 1, _, HLT.out, rfl, by go_num, rfl⟩
    · have hki : decide ((k : Int) < (fs.length : Int)) = false := decide_eq_false (by omega)
      go_wp2
      go_ret
      exact ⟨rfl, below_drewN (Below.refl _ _) _⟩

set_option maxHeartbeats 4000000 in
theorem sameIDs_calls (fa fa' : Option Addr) (g g' fc fc' : Nat) (xs : List Int) (w : World) (hlen : xs.length ≤ 900) (ha : 0 < xs.length → fa = some ⟨g, 0, none⟩ ∧ g < w.heap.size) (hc : ∀ j (hj : j < xs.length), w.cell? ⟨g, 0 + j, none⟩ = some (.int .i64 xs[j]))
    (ha' : 0 < xs.length → fa' = some ⟨g', 0, none⟩ ∧ g' < w.heap.size) (hc' : ∀ j (hj : j < xs.length), w.cell? ⟨g', 0 + j, none⟩ = some (.int .i64 xs[j])) :
    Calls Try.prog 21 #[.slice fa xs.length fc, .slice fa' xs.length fc'] w fun e w' => e = .returned (.bool true) ∧ Below w.heap.size w w' := by
  have HA := Lib.hid ha
  have HC := Lib.hid hc
  have HA' := Lib.hid ha'
  have HC' := Lib.hid hc'
  have HL := Lib.hid hlen
  clear ha hc hlen ha' hc'
  go_enter Try.func21, Try.ntmps21
  go_wp2
  go_loopg [5] xs.length (fun n i wr => ∃ (k q : Nat), k ≤ xs.length ∧ n = xs.length - k ∧ i = .int .i64 k ∧ wr = w.drewN q)
  case atStart => exact ⟨0, 0, by omega, rfl, rfl, (World.drewN_zero w).symm⟩
  case round =>
    obtain ⟨k, q, hk, rfl, rfl, rfl⟩ := hrel
    by_cases hlt : k < xs.length
    · obtain ⟨h1, h2⟩ := HA.out (by omega)
      subst h1
      obtain ⟨h1, h2'⟩ := HA'.out (by omega)
      subst h1
      have hf := HC.out k hlt
      rw [Nat.zero_add] at hf
      have hf' := HC'.out k hlt
      rw [Nat.zero_add] at hf'
      have HLT := Lib.hid hlt
      clear h2 h2'
      generalize xs[k] = x at *
      have hki : (k : Int) < (xs.length : Int) := by omega
      have hk0 : (0 : Int) ≤ (k : Int) := by omega
      have hw : IntKind.i64.wrap ((k : Int) + 1) = (k : Int) + 1 := IntWalk.i64_in _ (by have := HL.out; omega)
      go_wp2_with fail
      go_quiet (fail)
      go_wp2
      go_roundg (xs.length - (k + 1))
      case measure => have := HLT.out; omega
      case rel => exact ⟨k + 1, _, HLT.out, rfl, by go_num, rfl⟩
    · have hki : decide ((k : Int) < (xs.length : Int)) = false := decide_eq_false (by omega)
      go_wp2
      go_ret
      exact ⟨rfl, below_drewN (Below.refl _ _) _⟩
end Go.Proofs.Ytdckcbahfdcafaa.F
