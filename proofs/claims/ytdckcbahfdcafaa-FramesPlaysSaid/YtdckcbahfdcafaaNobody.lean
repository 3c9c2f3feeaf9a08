/- A nil table, and a plain one: nobody. -/
import Derived.Test.YtdckcbahfdcafaaSorted
set_option linter.unusedVariables false
set_option linter.unusedSimpArgs false
namespace Go.Proofs.Ytdckcbahfdcafaa.F
open Go.RowKit Go.Sort Go.Proofs.Ytdckcbahfdcafaa.Hp Go.Proofs.Ytdckcbahfdcafaa.Mp
set_option maxRecDepth 100000

set_option maxHeartbeats 400000 in
theorem sub_nil (id role weight time : Int) (w : World) : Calls Try.prog 11 #[.pointer none, .int .i64 id, .int .i64 role, .int .i64 weight, .int .i64 time] w fun e w' => e = .returned (.tuple #[.bool false, .int .i64 40]) ∧ Below w.heap.size w w' := by
  go_enter Try.func11, Try.ntmps11
  go_wp2_with fail
  refine (get_nil id w).mono ?_
  rintro e w1 ⟨rfl, hb⟩
  simp only [encF_agg, Fr.zero]
  have HB := Lib.hid hb
  clear hb
  go_wp2_with fail
  refine (made_nil _).mono ?_
  rintro e w' ⟨rfl, rfl⟩
  go_wp2
  go_ret2
  exact ⟨rfl, HB.out.alloc HB.out.size _⟩
set_option maxHeartbeats 400000 in
theorem drop_nil (id : Int) (w : World) : Calls Try.prog 24 #[.pointer none, .int .i64 id] w fun e w' => e = .returned (.bool false) ∧ Below w.heap.size w w' := by
  go_enter Try.func24, Try.ntmps24
  go_wp2_with fail
  refine (get_nil id w).mono ?_
  rintro e w1 ⟨rfl, hb⟩
  simp only [encF_agg, Fr.zero]
  have HB := Lib.hid hb
  clear hb
  go_wp2
  go_ret
  exact ⟨rfl, HB.out.alloc HB.out.size _⟩
set_option maxHeartbeats 400000 in
theorem turn_plain (b : Nat) (id : Int) (fv : Value) (w : World) (h : w.cell? ⟨b, 1, none⟩ = some (.map none)) : Calls Try.prog 27 #[.pointer (some ⟨b, 0, none⟩), .int .i64 id, fv] w fun e w' => e = .returned (.int .i64 40) ∧ w = w' := by
  have HH := Lib.hid h
  clear h
  go_enter Try.func27, Try.ntmps27
  go_wp2_with (go_at_call 26; refine (made_plain _ _ HH.out).mono ?_; rintro e w' ⟨rfl, rfl⟩)
  go_ret
  exact ⟨rfl, rfl⟩
set_option maxHeartbeats 400000 in
theorem disc_plain (b : Nat) (id now : Int) (w : World) (h : w.cell? ⟨b, 1, none⟩ = some (.map none)) (hb : b < w.heap.size) : Calls Try.prog 9 #[.pointer (some ⟨b, 0, none⟩), .int .i64 id, .int .i64 now] w fun e w' => e = .returned (.int .i64 40) ∧ Below w.heap.size w w' := by
  have HB := Lib.hid ((Below.refl _ w).alloc (Nat.le_refl _) (.cells #[.int .i64 now] 2))
  have h' : (w.alloc (.cells #[.int .i64 now] 2)).cell? ⟨b, 1, none⟩ = some (.map none) := by
    rw [← h]
    have := Below.heap_alloc w (.cells #[.int .i64 now] 2) b hb
    unfold World.cell?
    rw [this]
  have HT := Lib.hid (turn_plain b id (.func (.func 28) #[] #[.pointer (some ⟨w.heap.size, 0, none⟩)]) _ h')
  clear h h'
  go_enter Try.func9, Try.ntmps9
  go_wp2_with fail
  refine HT.out.mono ?_
  rintro e w' ⟨rfl, rfl⟩
  go_wp2
  go_ret
  exact ⟨rfl, HB.out⟩
set_option maxHeartbeats 400000 in
theorem sorted_plain (hS : SortC) (b : Nat) (w : World) (h : w.cell? ⟨b, 1, none⟩ = some (.map none)) : Calls Try.prog 32 #[.pointer (some ⟨b, 0, none⟩)] w fun e w' => e = .returned (.slice none 0 0) ∧ w = w' := by
  have HH := Lib.hid h
  have HS := Lib.hid hS
  clear h hS
  go_enter Try.func32, Try.ntmps32
  go_wp2_with (first
    | (go_at_call 26; refine (made_plain _ _ HH.out).mono ?_; rintro e w' ⟨rfl, rfl⟩)
    | (go_at_call 36; refine (HS.out.2 _ _ _).mono ?_; rintro e w' ⟨rfl, rfl⟩))
  go_ret
  exact ⟨rfl, rfl⟩
set_option maxHeartbeats 400000 in
theorem all_plain (hS : SortC) (b : Nat) (w : World) (h : w.cell? ⟨b, 1, none⟩ = some (.map none)) : Calls Try.prog 20 #[.pointer (some ⟨b, 0, none⟩)] w fun e w' => e = .returned (.slice none 0 0) ∧ w = w' := by
  have HC := Lib.hid (sorted_plain hS b w h)
  clear h
  go_enter Try.func20, Try.ntmps20
  go_wp2_with fail
  refine HC.out.mono ?_
  rintro e w' ⟨rfl, rfl⟩
  go_wp2
  refine wp_loop_rounds 1 ?_
  rw [rounds_succ]
  go_wp2
  go_ret
  exact ⟨rfl, rfl⟩
end Go.Proofs.Ytdckcbahfdcafaa.F
