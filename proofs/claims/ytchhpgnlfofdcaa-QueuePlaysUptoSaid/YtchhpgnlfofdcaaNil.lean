/- Walks: of nil queues, and of plain ones. -/
import Derived.Test.YtchhpgnlfofdcaaWorks
set_option linter.unusedVariables false
set_option linter.unusedSimpArgs false
namespace Go.Proofs.Ytchhpgnlfofdcaa.Q
open Go.RowKit Go.Sort Go.Proofs.Ytchhpgnlfofdcaa.Hp Go.Proofs.Ytchhpgnlfofdcaa.Mp
set_option maxRecDepth 100000

set_option maxHeartbeats 1000000 in
theorem take_plain (b : Nat) (k n : Int) (w : World) (h1 : w.cell? ⟨b, 1, none⟩ = some (.map none)) : Calls Try.prog 12 #[.pointer (some ⟨b, 0, none⟩), .int .i64 k, .int .i64 n] w fun e w' => e = .returned (.slice none 0 0) ∧ w = w' := by
  have HF := Lib.hid (find_plain b k w h1)
  clear h1
  go_enter Try.func12, Try.ntmps12
  go_wp2_with (go_at_call 17; refine HF.out.mono ?_; rintro e w' ⟨rfl, rfl⟩)
  refine wp_loop_rounds 1 ?_
  rw [rounds_succ]
  go_wp2
  go_ret
  exact ⟨rfl, rfl⟩
set_option maxHeartbeats 1000000 in
theorem those_nil (hS : SortC) (w : World) : Calls Try.prog 13 #[.pointer none] w fun e w' => e = .returned (.slice none 0 0) ∧ w = w' := by
  have HS := Lib.hid hS
  clear hS
  go_enter Try.func13, Try.ntmps13
  go_wp2_with (first | (go_at_call 18; refine (made_nil _).mono ?_; rintro e w' ⟨rfl, rfl⟩) | (go_at_call 23; refine (HS.out.2 _ _ _).mono ?_; rintro e w' ⟨rfl, rfl⟩))
  go_ret
  exact ⟨rfl, rfl⟩
set_option maxHeartbeats 4000000 in
theorem putAll_nil (T : Nat → Prop) (fa : Option Addr) (g o fc : Nat) (es : List Ev) (w : World) (hlen : es.length ≤ 900) (hT : ∀ i, T i → i < w.heap.size) (hrow : EAt T w fa g o es) :
    Calls Try.prog 8 #[.pointer none, .slice fa es.length fc] w fun e w' => e = .returned (.int .i64 0) ∧ Below w.heap.size w w' := by
  have HL := Lib.hid hlen
  have HT := Lib.hid hT
  have HROW := Lib.hid hrow
  clear hlen hT hrow
  go_enter Try.func8, Try.ntmps8
  go_wp2_with fail
  go_loopg [5, 12] es.length (fun gg n x wr => ∃ (k : Nat), k ≤ es.length ∧ gg = es.length - k ∧ n = .int .i64 0 ∧ x = .int .i64 k ∧ Hid (Below w.heap.size w wr))
  case atStart => exact ⟨0, by omega, rfl, rfl, rfl, Lib.hid (Below.refl _ _)⟩
  case round =>
    obtain ⟨k, hk, rfl, rfl, rfl, HB⟩ := hrel
    by_cases hlt : k < es.length
    · obtain ⟨h1, h2⟩ := HROW.out.lt (by omega)
      subst h1
      obtain ⟨va, vc, hev⟩ := HROW.out.at' k hlt
      have hk1 : ∀ i, T i → wr.heap[i]? = w.heap[i]? := fun i hi => HB.out.block i (HT.out i hi)
      obtain ⟨y0, y1, y2, y3, y4, hvp⟩ := hev.keep (T' := T) (hk1 g h2) hk1 (fun i hi => hi)
      have hki : (k : Int) < (es.length : Int) := by omega
      have hk0 : (0 : Int) ≤ (k : Int) := by omega
      have hw : IntKind.i64.wrap ((k : Int) + 1) = (k : Int) + 1 := IntWalk.i64_in _ (by have := HL.out; omega)
      have HLT := Lib.hid hlt
      clear hvp hev h2 hk1
      generalize es[k] = ev at *
      have HB1 := Lib.hid (HB.out.alloc HB.out.size (.cells #[.int .i64 ev.kind, .int .i64 ev.frame, .int .i64 ev.id, .int .i64 ev.agent, .slice va ev.vec.length vc] 28))
      go_wp2_with (go_at_call 17; refine (find_nil _ _).mono ?_; rintro e w' ⟨rfl, rfl⟩)
      go_roundg (es.length - (k + 1))
      case measure => have := HLT.out; omega
      case rel => exact ⟨k + 1, HLT.out, rfl, rfl, by go_num, HB1⟩
    · have hki : decide ((k : Int) < (es.length : Int)) = false := decide_eq_false (by omega)
      go_wp2
      go_ret
      exact ⟨rfl, HB.out⟩
end Go.Proofs.Ytchhpgnlfofdcaa.Q
