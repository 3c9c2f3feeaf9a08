/- Walks of the small functions of frames: made, Get, may, Long, Weight, New. -/
import Derived.Test.YtdckcbahfdcafaaTab
import Derived.Deep.QuietTactic
import Derived.BigQuiet
import Derived.WalkMore
import Derived.Lib.Hide
set_option linter.unusedVariables false
set_option linter.unusedSimpArgs false
namespace Go.Proofs.Ytdckcbahfdcafaa.F
open Go.RowKit Go.Proofs.Ytdckcbahfdcafaa.Hp Go.Proofs.Ytdckcbahfdcafaa.Mp
set_option maxRecDepth 100000

theorem neq57 (r : Option Nat) (w : World) : (binOp .neq 57 (.map r) (.map none)).run Try.prog w = .ok (.bool (!r.isNone)) w := run_neq_map_nil (P := Try.prog) w 57 2 30 r Try.underlying57

set_option maxHeartbeats 400000 in
theorem made_yes {b m : Nat} {cap : Int} {l : List (Int × Fr)} {R : List (Int × Int)} (w : World) (h : Tab w b m cap l R) :
    Calls Try.prog 26 #[.pointer (some ⟨b, 0, none⟩)] w fun e w' => e = .returned (.bool true) ∧ w = w' := by
  have h1 := h.cell1
  have hn := neq57 (some m)
  clear h
  go_enter Try.func26, Try.ntmps26
  go_wp2
  go_ret
  exact ⟨rfl, rfl⟩
set_option maxHeartbeats 400000 in
theorem made_nil (w : World) : Calls Try.prog 26 #[.pointer none] w fun e w' => e = .returned (.bool false) ∧ w = w' := by
  go_enter Try.func26, Try.ntmps26
  go_wp2
  go_ret
  exact ⟨rfl, rfl⟩
set_option maxHeartbeats 400000 in
theorem made_plain (b : Nat) (w : World) (h1 : w.cell? ⟨b, 1, none⟩ = some (.map none)) : Calls Try.prog 26 #[.pointer (some ⟨b, 0, none⟩)] w fun e w' => e = .returned (.bool false) ∧ w = w' := by
  have hn := neq57 none
  go_enter Try.func26, Try.ntmps26
  go_wp2
  go_ret
  exact ⟨rfl, rfl⟩

/-- What a lookup of an id tells. -/
def got (l : List (Int × Fr)) (id : Int) : Fr := (mget l id).getD Fr.zero
theorem look57 {es : Array MapEntry} {clk m : Nat} {l : List (Int × Fr)} {W : World} (hb : W.heap[m]? = some (.map es clk)) (h : Rep encF es l) (id : Int) :
    (Instr.lookup 57 (.map (some m)) (.int .i64 id) true).run Try.prog W = .ok (.tuple #[encF (got l id), .bool (mget l id).isSome]) W := by
  rw [run_look (P := Try.prog) Try.underlying57 Try.underlying2 (encF Fr.zero) zero30 hb h id]
  unfold got
  cases mget l id <;> rfl

set_option maxHeartbeats 400000 in
theorem get_calls {b m : Nat} {cap : Int} {l : List (Int × Fr)} {R : List (Int × Int)} (id : Int) (w : World) (h : Tab w b m cap l R) :
    Calls Try.prog 8 #[.pointer (some ⟨b, 0, none⟩), .int .i64 id] w fun e w' => e = .returned (.tuple #[encF (got l id), .bool (mget l id).isSome]) ∧ Below w.heap.size w w' := by
  have ha := fun o => h.alloc o
  have hc : ∀ o, (w.alloc o).cell? ⟨b, 1, none⟩ = some (.map (some m)) := fun o => (ha o).cell1
  have hb := h.lt_b
  obtain ⟨es, clk, hes, hrep, _⟩ := h.map
  have hr := look57 (W := w.alloc (.cells #[.int .i64 0, .int .i64 0, .int .i64 0, .bool false, .bool false, .int .i64 0, .int .i64 0] 30)) (blk_alloc hes) hrep id
  generalize got l id = f at *
  generalize (mget l id).isSome = s at *
  rw [encF_agg] at hr
  have HA := Lib.hid ha
  clear hrep hes h ha
  have h1 := hc (.cells #[.int .i64 0, .int .i64 0, .int .i64 0, .bool false, .bool false, .int .i64 0, .int .i64 0] 30)
  clear hc
  go_enter Try.func8, Try.ntmps8
  go_wp2_with (go_at_call 26; refine (made_yes _ (HA.out _)).mono ?_; rintro e w' ⟨rfl, rfl⟩)
  refine bodyPost_ret (v := .tuple #[encF f, .bool s]) (by simp [results, Try.results8, go_sem, encF]) rfl ⟨rfl, ?_⟩
  exact (((Below.refl _ _).alloc (Nat.le_refl _) _).alloc (by simp) _)

set_option maxHeartbeats 400000 in
theorem get_nil (id : Int) (w : World) : Calls Try.prog 8 #[.pointer none, .int .i64 id] w fun e w' => e = .returned (.tuple #[encF Fr.zero, .bool false]) ∧ Below w.heap.size w w' := by
  go_enter Try.func8, Try.ntmps8
  go_wp2_with (go_at_call 26; refine (made_nil _).mono ?_; rintro e w' ⟨rfl, rfl⟩)
  refine bodyPost_ret (v := .tuple #[encF Fr.zero, .bool false]) (by simp [results, Try.results8, go_sem, encF, Fr.zero]) rfl ⟨rfl, ?_⟩
  exact ((Below.refl _ _).alloc (Nat.le_refl _) _)
end Go.Proofs.Ytdckcbahfdcafaa.F
