/- Walks: a nil table, a plain one. -/
import Derived.Test.YtecgfghmmlpghaaAll
import Derived.Test.YtecgfghmmlpghaaIssue2
import Derived.Test.YtecgfghmmlpghaaClose
set_option linter.unusedVariables false
set_option linter.unusedSimpArgs false
namespace Go.Proofs.Ytecgfghmmlpghaa.O
open Go.RowKit Go.Proofs.Ytecgfghmmlpghaa.Hp Go.Proofs.Ytecgfghmmlpghaa.Mp
set_option maxRecDepth 100000
theorem issue_nil (fr ag till : Int) (v : Value) (w : World) : Calls Try.prog 9 #[.pointer none, .int .i64 fr, .int .i64 ag, v, .int .i64 till] w fun e w' => e = .returned (.tuple #[.int .i64 0, .int .i64 40]) ∧ w = w' := by
  go_enter Try.func9, Try.ntmps9
  go_wp2_with (go_at_call 25; refine (made_nil _).mono ?_; rintro e w' ⟨rfl, rfl⟩)
  refine bodyPost_ret (v := .tuple #[.int .i64 0, .int .i64 40]) (by simp [results, Try.results9, go_sem]) rfl ⟨rfl, rfl⟩
theorem issue_plain (b : Nat) (fr ag till : Int) (v : Value) (w : World) (h : w.cell? ⟨b, 2, none⟩ = some (.map none)) : Calls Try.prog 9 #[.pointer (some ⟨b, 0, none⟩), .int .i64 fr, .int .i64 ag, v, .int .i64 till] w fun e w' => e = .returned (.tuple #[.int .i64 0, .int .i64 40]) ∧ w = w' := by
  go_enter Try.func9, Try.ntmps9
  go_wp2_with (go_at_call 25; refine (made_plain _ _ h).mono ?_; rintro e w' ⟨rfl, rfl⟩)
  refine bodyPost_ret (v := .tuple #[.int .i64 0, .int .i64 40]) (by simp [results, Try.results9, go_sem]) rfl ⟨rfl, rfl⟩
theorem close_nil (id : Int) (w : World) : Calls Try.prog 8 #[.pointer none, .int .i64 id] w fun e w' => e = .returned (.tuple #[.agg #[.int .i64 0, .int .i64 0, .int .i64 0, .slice none 0 0, .int .i64 0], .bool false]) ∧ Below w.heap.size w w' := by
  have hR := RSt.start w
  have KG := Lib.hid (get_nil0 id (w.alloc (.cells #[.int .i64 0, .int .i64 0, .int .i64 0, .slice none 0 0, .int .i64 0] 30)))
  have HR := Lib.hid hR
  clear hR
  go_enter Try.func8, Try.ntmps8
  go_wp2_with fail
  refine KG.out.mono ?_
  rintro e w1 ⟨rfl, hb1⟩
  have HR1 := Lib.hid ((HR.out.below hb1 HR.out.lt).below ((Below.refl _ w1).alloc (Nat.le_refl _) (.cells #[.int .i64 0, .int .i64 0, .int .i64 0, .slice none 0 0, .int .i64 0] 30)) (by have := (HR.out.below hb1 HR.out.lt).lt; exact this))
  have hn := blk_new w1 (.cells #[.int .i64 0, .int .i64 0, .int .i64 0, .slice none 0 0, .int .i64 0] 30)
  have n0 := blk_cell hn 0
  have n1 := blk_cell hn 1
  have n2 := blk_cell hn 2
  have n3 := blk_cell hn 3
  have n4 := blk_cell hn 4
  obtain ⟨⟨r0, r1, r2, r3, r4⟩, f0, f1, f2, f3, f4⟩ := HR1.out.facts
  clear hb1 hn KG HR
  go_wp2_with fail
  obtain ⟨s0, s1, s2, s3, s4, s5⟩ := HR1.out.stop (.int .i64 0) (.int .i64 0) (.int .i64 0) (.slice none 0 0) (.int .i64 0)
  change bodyPost _ _ _ _ _ (set5 (w1.alloc (.cells #[.int .i64 0, .int .i64 0, .int .i64 0, .slice none 0 0, .int .i64 0] 30)) w.heap.size (.int .i64 0) (.int .i64 0) (.int .i64 0) (.slice none 0 0) (.int .i64 0))
  generalize set5 (w1.alloc (.cells #[.int .i64 0, .int .i64 0, .int .i64 0, .slice none 0 0, .int .i64 0] 30)) w.heap.size (.int .i64 0) (.int .i64 0) (.int .i64 0) (.slice none 0 0) (.int .i64 0) = W9 at *
  refine bodyPost_ret (v := .tuple #[.agg #[.int .i64 0, .int .i64 0, .int .i64 0, .slice none 0 0, .int .i64 0], .bool false]) (by simp [results, Try.results8, go_sem, s0, s1, s2, s3, s4]) rfl ⟨rfl, s5⟩
theorem of_nil (fr : Int) (w : World) : Calls Try.prog 13 #[.pointer none, .int .i64 fr] w fun e w' => e = .returned (.slice none 0 0) ∧ w = w' := by
  go_enter Try.func13, Try.ntmps13
  go_wp2_with (go_at_call 25; refine (made_nil _).mono ?_; rintro e w' ⟨rfl, rfl⟩)
  go_ret
  exact ⟨rfl, rfl⟩
theorem sum_nil (fr : Int) (w : World) : Calls Try.prog 16 #[.pointer none, .int .i64 fr] w (SumA S4.zero w) := by
  have HA := Lib.hid (OfS.start w)
  go_enter Try.func16, Try.ntmps16
  go_wp2_with (first | (go_at_call 13; refine (of_nil _ _).mono ?_; rintro e w' ⟨rfl, rfl⟩) | fail)
  generalize ((w.alloc (.cells #[.int .i64 0, .int .i64 0, .int .i64 0, .int .i64 0] 50)).alloc (.cells #[.int .i64 0, .int .i64 0, .int .i64 0, .int .i64 0] 50)) = w1 at *
  go_loopg [14] 0 (fun n i wr => n = 0 ∧ i = .int .i64 0 ∧ wr = w1)
  case atStart => exact ⟨rfl, rfl, rfl⟩
  case round =>
    obtain ⟨rfl, rfl, rfl⟩ := hrel
    have HE := HA
    obtain ⟨⟨z0, z1, z2, z3⟩, f0, f1, f2, f3⟩ := HE.out.zs
    obtain ⟨x0, x1, x2, x3⟩ := HE.out.xs
    go_wp2_with fail
    obtain ⟨s0, s1, s2, s3, s5⟩ := HE.out.stop (.int .i64 0) (.int .i64 0) (.int .i64 0) (.int .i64 0)
    change bodyPost _ _ _ _ _ (set4 wr w.heap.size (.int .i64 0) (.int .i64 0) (.int .i64 0) (.int .i64 0))
    generalize set4 wr w.heap.size (.int .i64 0) (.int .i64 0) (.int .i64 0) (.int .i64 0) = W9 at *
    refine bodyPost_ret (v := .agg #[.int .i64 0, .int .i64 0, .int .i64 0, .int .i64 0]) (by simp [results, Try.results16, go_sem, s0, s1, s2, s3]) rfl ⟨rfl, s5⟩
end Go.Proofs.Ytecgfghmmlpghaa.O
