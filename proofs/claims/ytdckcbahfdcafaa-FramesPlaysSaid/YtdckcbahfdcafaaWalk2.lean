/- Walks: may, Long, Weight, New. -/
import Derived.Test.YtdckcbahfdcafaaWalk1
set_option linter.unusedVariables false
set_option linter.unusedSimpArgs false
namespace Go.Proofs.Ytdckcbahfdcafaa.F
open Go.RowKit Go.Proofs.Ytdckcbahfdcafaa.Hp Go.Proofs.Ytdckcbahfdcafaa.Mp
set_option maxRecDepth 100000

/-- May a framework have these numbers? -/
def mayB (id number weight time : Int) : Bool := decide (1 ≤ id ∧ 1 ≤ number ∧ number ≤ 32 ∧ 1 ≤ weight ∧ weight ≤ 1000 ∧ 0 ≤ time ∧ time ≤ 9007199254740992)

set_option maxHeartbeats 1000000 in
theorem may_yes (id number weight time : Int) (w : World) (h : 1 ≤ id ∧ 1 ≤ number ∧ number ≤ 32 ∧ 1 ≤ weight ∧ weight ≤ 1000 ∧ 0 ≤ time ∧ time ≤ 9007199254740992) :
    Calls Try.prog 29 #[.int .i64 id, .int .i64 number, .int .i64 weight, .int .i64 time] w fun e w' => e = .returned (.bool true) ∧ w = w' := by
  obtain ⟨h1, h2, h3, h4, h5, h6, h7⟩ := h
  go_enter Try.func29, Try.ntmps29
  go_wp2
  go_ret
  exact ⟨rfl, rfl⟩
set_option maxHeartbeats 4000000 in
theorem may_no (id number weight time : Int) (w : World) (h : ¬ (1 ≤ id ∧ 1 ≤ number ∧ number ≤ 32 ∧ 1 ≤ weight ∧ weight ≤ 1000 ∧ 0 ≤ time ∧ time ≤ 9007199254740992)) :
    Calls Try.prog 29 #[.int .i64 id, .int .i64 number, .int .i64 weight, .int .i64 time] w fun e w' => e = .returned (.bool false) ∧ w = w' := by
  have H := Lib.hid h
  clear h
  by_cases h1 : 1 ≤ id
  · by_cases h2 : 1 ≤ number
    · by_cases h3 : number ≤ 32
      · by_cases h4 : 1 ≤ weight
        · by_cases h5 : weight ≤ 1000
          · by_cases h6 : 0 ≤ time
            · by_cases h7 : time ≤ 9007199254740992
              · exact absurd ⟨h1, h2, h3, h4, h5, h6, h7⟩ H.out
              · go_enter Try.func29, Try.ntmps29
                go_wp2
                go_ret
                exact ⟨rfl, rfl⟩
            · go_enter Try.func29, Try.ntmps29
              go_wp2
              go_ret
              exact ⟨rfl, rfl⟩
          · go_enter Try.func29, Try.ntmps29
            go_wp2
            go_ret
            exact ⟨rfl, rfl⟩
        · go_enter Try.func29, Try.ntmps29
          go_wp2
          go_ret
          exact ⟨rfl, rfl⟩
      · go_enter Try.func29, Try.ntmps29
        go_wp2
        go_ret
        exact ⟨rfl, rfl⟩
    · go_enter Try.func29, Try.ntmps29
      go_wp2
      go_ret
      exact ⟨rfl, rfl⟩
  · go_enter Try.func29, Try.ntmps29
    go_wp2
    go_ret
    exact ⟨rfl, rfl⟩

theorem len57 {es : Array MapEntry} {clk m : Nat} {W : World} (hb : W.heap[m]? = some (.map es clk)) : (Builtin.len_ #[57] 3 #[.map (some m)]).run Try.prog W = .ok (goInt es.size) W := by
  simp [Builtin.len_, run_underlying Try.underlying57, run_getMap hb]

set_option maxHeartbeats 400000 in
theorem long_calls {b m : Nat} {cap : Int} {l : List (Int × Fr)} {R : List (Int × Int)} (w : World) (h : Tab w b m cap l R) :
    Calls Try.prog 13 #[.pointer (some ⟨b, 0, none⟩)] w fun e w' => e = .returned (.int .i64 l.length) ∧ w = w' := by
  have h1 := h.cell1
  obtain ⟨es, clk, hes, hrep, _⟩ := h.map
  have hl := len57 hes
  rw [hrep.length] at hl
  have HT := Lib.hid h
  clear h hes hrep
  go_enter Try.func13, Try.ntmps13
  go_wp2_with (go_at_call 26; refine (made_yes _ HT.out).mono ?_; rintro e w' ⟨rfl, rfl⟩)
  go_ret
  exact ⟨rfl, rfl⟩

set_option maxHeartbeats 400000 in
theorem new_no (cap : Int) (w : World) (h : cap < 1) : Calls Try.prog 6 #[.int .i64 cap] w fun e w' => e = .returned (.pointer none) ∧ w = w' := by
  go_enter Try.func6, Try.ntmps6
  go_wp2
  go_ret
  exact ⟨rfl, rfl⟩
theorem zero62 (w : World) : (zeroValue 62).run Try.prog w = .ok (.agg (.int .i64 0 :: .map none :: roleCells (List.replicate 33 (0, 0))).toArray) w := by kernel_rfl
set_option maxHeartbeats 400000 in
theorem new_yes (cap : Int) (w : World) (h : 1 ≤ cap) : Calls Try.prog 6 #[.int .i64 cap] w fun e w' => e = .returned (.pointer (some ⟨w.heap.size + 1, 0, none⟩)) ∧ Tab w' (w.heap.size + 1) w.heap.size cap [] (List.replicate 33 (0, 0)) ∧ Below w.heap.size w w' := by
  have hmm := @run_makeMap Try.prog
  have hz := zero62
  obtain ⟨Z, hZ⟩ : ∃ Z, Z = roleCells (List.replicate 33 (0, 0)) := ⟨_, rfl⟩
  rw [← hZ] at hz
  have HZ := Lib.hid hZ
  clear hZ
  go_enter Try.func6, Try.ntmps6
  go_wp2
  go_ret
  refine ⟨rfl, ⟨?_, ⟨#[], 0, blk_alloc (blk_new _ _), rfl, ⟨by simp, by simp⟩⟩, by simp⟩, (((Below.refl _ _).alloc (Nat.le_refl _) _).alloc (by simp) _)⟩
  rw [HZ.out]
  have e := blk_new (w.alloc (.map #[] 0)) (.cells (tabCells cap w.heap.size (List.replicate 33 (0, 0))) 62)
  rw [show (w.alloc (.map #[] 0)).heap.size = w.heap.size + 1 from by simp] at e
  exact e
end Go.Proofs.Ytdckcbahfdcafaa.F
