/- The reference's At. -/
import Derived.Test.YtchhpgnlfofdcaaRq0
set_option linter.unusedVariables false
set_option linter.unusedSimpArgs false
namespace Go.Proofs.Ytchhpgnlfofdcaa.Q
open Go.RowKit Go.Proofs.Ytchhpgnlfofdcaa.Hp Go.Proofs.Ytchhpgnlfofdcaa.Mp
set_option maxRecDepth 100000

/-- The place of a queue; -1: there is none. -/
def atO (A : List On) (id : Int) : Int := match A.findIdx? (·.frame == id) with
  | some k => k
  | none => -1
set_option maxHeartbeats 4000000 in
theorem atO_calls (T : Nat → Prop) (most id : Int) (fa : Option Addr) (g fc : Nat) (xs : List Oe) (w : World) (hlen : xs.length ≤ 900) (hT : ∀ i, T i → i < w.heap.size) (h : MAt T w fa g xs) :
    Calls Try.prog 32 #[.agg #[.int .i64 most, .slice fa xs.length fc], .int .i64 id] w fun e w' => e = .returned (.int .i64 (atO (xs.map (·.1)) id)) ∧ Below w.heap.size w w' := by
  have HB := Lib.hid ((Below.refl _ w).alloc (Nat.le_refl _) (.cells #[.int .i64 most, .slice fa xs.length fc] 46))
  have HA := Lib.hid (h.below hT HB.out)
  have HL := Lib.hid hlen
  clear h hlen hT
  go_enter Try.func32, Try.ntmps32
  go_wp2
  go_loopg [5] xs.length (fun n i wr => ∃ (k : Nat), k ≤ xs.length ∧ n = xs.length - k ∧ i = .int .i64 k ∧ wr = w.alloc (.cells #[.int .i64 most, .slice fa xs.length fc] 46) ∧ Hid (∀ j (hj : j < xs.length), j < k → xs[j].1.frame ≠ id))
  case atStart => exact ⟨0, by omega, rfl, rfl, rfl, Lib.hid (fun j hj h => by omega)⟩
  case round =>
    obtain ⟨k, hk, rfl, rfl, rfl, HK⟩ := hrel
    by_cases hlt : k < xs.length
    · obtain ⟨h1, h2⟩ := HA.out.lt (by omega)
      subst h1
      have c0 := (HA.out.cells k hlt).1
      have HK2 := Lib.hid (fun (hne : xs[k].1.frame ≠ id) j (hj : j < xs.length) (hjk : j < k + 1) => show xs[j].1.frame ≠ id from by
        rcases Nat.lt_or_eq_of_le (Nat.le_of_lt_succ hjk) with h | h
        · exact HK.out j hj h
        · subst h; exact hne)
      have HR := Lib.hid (fun (he : xs[k].1.frame = id) => show atO (xs.map (·.1)) id = (k : Int) from by
        unfold atO
        rw [List.findIdx?_eq_some_iff_getElem.2 ⟨by simpa using hlt, by simpa using he, fun j hj => by have := HK.out j (by omega) hj; simpa using this⟩])
      have hki : (k : Int) < (xs.length : Int) := by omega
      have hk0 : (0 : Int) ≤ (k : Int) := by omega
      have hw : IntKind.i64.wrap ((k : Int) + 1) = (k : Int) + 1 := IntWalk.i64_in _ (by have := HL.out; omega)
      have HLT := Lib.hid hlt
      clear h2
      generalize xs[k].1.frame = x at *
      by_cases hx : x = id
      · have hq : (x == id) = true := by rw [hx]; exact beq_self_eq_true _
        have HX := Lib.hid hx
        clear hx
        go_wp2
        go_ret
        exact ⟨by rw [HR.out HX.out]; rfl, HB.out⟩
      · have hq : (x == id) = false := by rw [beq_eq_false_iff_ne]; exact hx
        have HX := Lib.hid hx
        clear hx
        go_wp2
        go_roundg (xs.length - (k + 1))
        case measure => have := HLT.out; omega
        case rel => exact ⟨k + 1, HLT.out, rfl, by go_num, rfl, Lib.hid (HK2.out HX.out)⟩
    · have hki : decide ((k : Int) < (xs.length : Int)) = false := decide_eq_false (by omega)
      have hr : atO (xs.map (·.1)) id = -1 := by
        unfold atO
        rw [List.findIdx?_eq_none_iff.2 (fun f hf => by
          obtain ⟨j, hj, rfl⟩ := List.getElem_of_mem hf
          rw [List.length_map] at hj
          have := HK.out j hj (by omega)
          simpa using this)]
      have HR := Lib.hid hr
      clear hr
      go_wp2
      go_ret
      exact ⟨by rw [HR.out]; rfl, HB.out⟩
end Go.Proofs.Ytchhpgnlfofdcaa.Q
