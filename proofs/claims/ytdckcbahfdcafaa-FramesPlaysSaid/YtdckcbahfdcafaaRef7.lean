/- The reference's with, walked. -/
import Derived.Test.YtdckcbahfdcafaaRef6
import Derived.Deep.RegionLaw
set_option linter.unusedVariables false
set_option linter.unusedSimpArgs false
namespace Go.Proofs.Ytdckcbahfdcafaa.F
open Go.RowKit Go.Sort Go.Proofs.Ytdckcbahfdcafaa.Hp Go.Proofs.Ytdckcbahfdcafaa.Mp
set_option maxRecDepth 100000
attribute [local go_sem ↓] Go.wp_at_zero Go.wp_at_succ

set_option maxHeartbeats 4000000 in
theorem with_calls (cap : Int) (f : Fr) (fa : Option Addr) (g fc : Nat) (fs : List Fr) (w : World) (hlen : fs.length ≤ 900) (ha : 0 < fs.length → fa = some ⟨g, 0, none⟩ ∧ g < w.heap.size) (hc : ∀ j (hj : j < fs.length), FrAt w g (0 + j * 7) fs[j]) :
    Calls Try.prog 31 #[.agg #[.int .i64 cap, .slice fa fs.length fc], encF f] w fun e w' => ∃ (v : Value), e = .returned (.agg #[.int .i64 cap, v]) ∧ w'.ownsRow w.heap.size 30 7 v (withF fs f).length (flatF (withF fs f)) ∧ Below w.heap.size w w' := by
  obtain ⟨i0, hi, hz0, hz1, hz2⟩ := info_parts info30
  have HA := Lib.hid ha
  have HC := Lib.hid hc
  have HL := Lib.hid hlen
  have HS0 := Lib.hid (WSt.start w cap (.slice fa fs.length fc) f)
  clear ha hc hlen
  go_enter Try.func31, Try.ntmps31
  simp only [encF_agg]
  go_wp2
  go_loopg [6, 7] fs.length (fun n d i wr => ∃ (k : Nat) (v : Value), k ≤ fs.length ∧ n = fs.length - k ∧ d = .bool (wAcc f fs k).2 ∧ i = .int .i64 k ∧ Hid (WSt w wr w.heap.size cap (.slice fa fs.length fc) f (wAcc f fs k).1 v))
  case atStart => exact ⟨0, _, by omega, rfl, rfl, rfl, HS0⟩
  case round =>
    obtain ⟨k, v, hk, rfl, rfl, rfl, H⟩ := hrel
    have b1 := H.out.atBox
    by_cases hlt : k < fs.length
    · obtain ⟨h1, h2⟩ := HA.out (by omega)
      subst h1
      have HX := Lib.hid (wAcc_succ f fs k hlt)
      have HF := Lib.hid (show FrAt w g (k * 7) fs[k] by have := HC.out k hlt; rwa [Nat.zero_add] at this)
      have c0 := (HF.out.below H.out.chg h2).c0
      have HG := Lib.hid h2
      have HLn := Lib.hid (wAcc_length f fs k)
      have f0 := (cellF f H.out.fb).1
      have hki : (k : Int) < (fs.length : Int) := by omega
      have hk0 : (0 : Int) ≤ (k : Int) := by omega
      have hw : IntKind.i64.wrap ((k : Int) + 1) = (k : Int) + 1 := IntWalk.i64_in _ (by have := HL.out; omega)
      have HLT := Lib.hid hlt
      clear h2
      generalize fs[k] = x at *
      generalize wAcc f fs k = s at *
      obtain ⟨acc, done⟩ := s
      simp only at H HLn
      go_wp2_with fail
      have hq : done = true ∨ done = false ∧ decide (f.id ≤ x.id) = false ∨ done = false ∧ decide (f.id ≤ x.id) = true := by cases done <;> cases decide (f.id ≤ x.id) <;> simp
      rcases hq with rfl | ⟨rfl, hq⟩ | ⟨rfl, hq⟩
      all_goals
        go_quiet (fail)
        have H1 := Lib.hid (H.out.drewN nq)
        clear b1 c0 f0 H
        generalize wr.drewN nq = wq at *
      · have H3 := H1
        have HE := Lib.hid (show wAcc f fs (k + 1) = (if x.id = f.id then acc else acc ++ [x], true) by rw [HX.out, wStep_done])
        have HLn3 := Lib.hid (show acc.length ≤ 2 * k + 1 by have := HLn.out; omega)
        clear H1 HX HLn
        go_wp2_with fail
        generalize wq = W at *
        generalize acc = acc1 at *
        generalize v = v1 at *
        have b1 := H3.out.atBox
        have o1 := H3.out.atOut
        have f0 := (cellF f H3.out.fb).1
        obtain ⟨x0, x1, x2, x3, x4, x5, x6⟩ := HF.out.below H3.out.chg HG.out
        by_cases hx : x.id = f.id
        · have q1 : (x.id == f.id) = true := by rw [hx]; exact beq_self_eq_true _
          have q2 : (x.id != f.id) = false := by rw [hx]; exact bne_self_eq_false _
          have HX := Lib.hid hx
          clear hx
          go_quiet (fail)
          go_wp2
          go_roundg (fs.length - (k + 1))
          case measure => have := HLT.out; omega
          case rel => exact ⟨k + 1, v1, HLT.out, rfl, by rw [HE.out], by go_num, by rw [HE.out, if_pos HX.out]; exact Lib.hid (H3.out.drewN nq)⟩
        · have q1 : (x.id == f.id) = false := by rw [beq_eq_false_iff_ne]; exact hx
          have q2 : (x.id != f.id) = true := by rw [bne_iff_ne]; exact hx
          have HX := Lib.hid hx
          clear hx
          go_quiet (fail)
          have H4 := Lib.hid (H3.out.drewN nq)
          clear H3 b1 o1 f0 x0 x1 x2 x3 x4 x5 x6 q1 q2
          go_wp2_with fail
          generalize W.drewN nq = W2 at *
          have b1 := H4.out.atBox
          have o1 := H4.out.atOut
          obtain ⟨x0, x1, x2, x3, x4, x5, x6⟩ := HF.out.below H4.out.chg HG.out
          have H5 := Lib.hid ((H4.out.alloc (.cells #[.int .i64 x.id, .int .i64 x.role, .int .i64 x.weight, .bool x.up, .bool x.quiet, .int .i64 x.time, .int .i64 x.till] 30)).drew)
          have HLt := Lib.hid H4.out.lt
          have HGN := Lib.hid (show g < w.heap.size + 4 by have := HG.out; omega)
          have n1 := (H4.out.alloc (.cells #[.int .i64 x.id, .int .i64 x.role, .int .i64 x.weight, .bool x.up, .bool x.quiet, .int .i64 x.time, .int .i64 x.till] 30)).atOut
          go_region_law
            ((refine step_append_lies _ (by rfl) _ _ _ (by rfl) (w.heap.size + 4) 30 i0 (encF Fr.zero) 7 48 Try.underlying39 hi hz0 hz1 hz2 rfl (by decide) v1 acc1.length (flatF acc1) (by rfl) H5.out.own ⟨W2.heap.size, 0, none⟩ 1 1 (flatF [x]) (by rfl) (by rfl) (fun j u hj => cells_new W2 (cellsF x) 30 (flatF [x]) rfl j u hj) (one7 x) (by decide) (by have := HLn3.out; have := HL.out; have := HLT.out; unfold maxLen; omega) (by have := HLn3.out; have := HL.out; have := HLT.out; omega) (by have := HLt.out; simp; omega) _ rfl ?_; intro g5 c5 w5 hown5 hg5 hat5 hlt5; obtain ⟨k1, k2⟩ := H5.out.after hg5; have H6 := Lib.hid (H5.out.append hg5 hown5)))
          all_goals
            go_wp2
            go_roundg (fs.length - (k + 1))
            case measure => have := HLT.out; omega
            case rel => exact ⟨k + 1, _, HLT.out, rfl, by rw [HE.out], by go_num, by rw [HE.out, if_neg HX.out]; exact H6⟩
      · have H3 := H1
        have HE := Lib.hid (show wAcc f fs (k + 1) = (if x.id = f.id then acc else acc ++ [x], false) by rw [HX.out, wStep_no acc hq])
        have HLn3 := Lib.hid (show acc.length ≤ 2 * k + 1 by have := HLn.out; omega)
        clear H1 HX HLn hq
        go_wp2_with fail
        generalize wq = W at *
        generalize acc = acc1 at *
        generalize v = v1 at *
        have b1 := H3.out.atBox
        have o1 := H3.out.atOut
        have f0 := (cellF f H3.out.fb).1
        obtain ⟨x0, x1, x2, x3, x4, x5, x6⟩ := HF.out.below H3.out.chg HG.out
        by_cases hx : x.id = f.id
        · have q1 : (x.id == f.id) = true := by rw [hx]; exact beq_self_eq_true _
          have q2 : (x.id != f.id) = false := by rw [hx]; exact bne_self_eq_false _
          have HX := Lib.hid hx
          clear hx
          go_quiet (fail)
          go_wp2
          go_roundg (fs.length - (k + 1))
          case measure => have := HLT.out; omega
          case rel => exact ⟨k + 1, v1, HLT.out, rfl, by rw [HE.out], by go_num, by rw [HE.out, if_pos HX.out]; exact Lib.hid (H3.out.drewN nq)⟩
        · have q1 : (x.id == f.id) = false := by rw [beq_eq_false_iff_ne]; exact hx
          have q2 : (x.id != f.id) = true := by rw [bne_iff_ne]; exact hx
          have HX := Lib.hid hx
          clear hx
          go_quiet (fail)
          have H4 := Lib.hid (H3.out.drewN nq)
          clear H3 b1 o1 f0 x0 x1 x2 x3 x4 x5 x6 q1 q2
          go_wp2_with fail
          generalize W.drewN nq = W2 at *
          have b1 := H4.out.atBox
          have o1 := H4.out.atOut
          obtain ⟨x0, x1, x2, x3, x4, x5, x6⟩ := HF.out.below H4.out.chg HG.out
          have H5 := Lib.hid ((H4.out.alloc (.cells #[.int .i64 x.id, .int .i64 x.role, .int .i64 x.weight, .bool x.up, .bool x.quiet, .int .i64 x.time, .int .i64 x.till] 30)).drew)
          have HLt := Lib.hid H4.out.lt
          have HGN := Lib.hid (show g < w.heap.size + 4 by have := HG.out; omega)
          have n1 := (H4.out.alloc (.cells #[.int .i64 x.id, .int .i64 x.role, .int .i64 x.weight, .bool x.up, .bool x.quiet, .int .i64 x.time, .int .i64 x.till] 30)).atOut
          go_region_law
            ((refine step_append_lies _ (by rfl) _ _ _ (by rfl) (w.heap.size + 4) 30 i0 (encF Fr.zero) 7 48 Try.underlying39 hi hz0 hz1 hz2 rfl (by decide) v1 acc1.length (flatF acc1) (by rfl) H5.out.own ⟨W2.heap.size, 0, none⟩ 1 1 (flatF [x]) (by rfl) (by rfl) (fun j u hj => cells_new W2 (cellsF x) 30 (flatF [x]) rfl j u hj) (one7 x) (by decide) (by have := HLn3.out; have := HL.out; have := HLT.out; unfold maxLen; omega) (by have := HLn3.out; have := HL.out; have := HLT.out; omega) (by have := HLt.out; simp; omega) _ rfl ?_; intro g5 c5 w5 hown5 hg5 hat5 hlt5; obtain ⟨k1, k2⟩ := H5.out.after hg5; have H6 := Lib.hid (H5.out.append hg5 hown5)))
          all_goals
            go_wp2
            go_roundg (fs.length - (k + 1))
            case measure => have := HLT.out; omega
            case rel => exact ⟨k + 1, _, HLT.out, rfl, by rw [HE.out], by go_num, by rw [HE.out, if_neg HX.out]; exact H6⟩
      · have o1 := H1.out.atOut
        obtain ⟨f0, f1, f2, f3, f4, f5, f6⟩ := cellF f H1.out.fb
        have HLt := Lib.hid H1.out.lt
        have HE := Lib.hid (show wAcc f fs (k + 1) = (if x.id = f.id then acc ++ [f] else (acc ++ [f]) ++ [x], true) by rw [HX.out, wStep_yes acc hq])
        have HLn3 := Lib.hid (show (acc ++ [f]).length ≤ 2 * k + 1 by have := HLn.out; simp; omega)
        go_wp2_with (at_builtin; refine wpList_append_lies _ rfl _ _ 39 rfl (w.heap.size + 4) 30 i0 (encF Fr.zero) 7 48 Try.underlying39 hi hz0 hz1 hz2 rfl (by decide) v acc.length (flatF acc) rfl (H1.out.own.alloc _) ⟨wq.heap.size, 0, none⟩ 1 1 (flatF [f]) rfl rfl (cells_new _ _ _ _ rfl) (one7 f) (by decide) (by have := HLn.out; have := HL.out; have := HLT.out; unfold maxLen; omega) (by have := HLn.out; have := HL.out; have := HLT.out; omega) (by have := HLt.out; simp; omega) _ rfl ?_; intro g4 c4 w4 hown' hg4 hat4 hlt4; obtain ⟨k1, k2⟩ := (H1.out.alloc _).after hg4; have H2 := Lib.hid ((H1.out.alloc _).append hg4 hown'); clear hown' hg4 hat4 hlt4 o1 f0 f1 f2 f3 f4 f5 f6)
        have H3 := H2
        clear k1 k2 H1 HX HLn HLt hq H2
        generalize w4.setCell ⟨w.heap.size + 1 + 1 + 1, 1, none⟩ (.slice (some ⟨g4, 0, none⟩) (acc.length + 1) c4) = W at *
        generalize (Value.slice (some ⟨g4, 0, none⟩) (acc.length + 1) c4) = v1 at *
        generalize acc ++ [f] = acc1 at *
        have b1 := H3.out.atBox
        have o1 := H3.out.atOut
        have f0 := (cellF f H3.out.fb).1
        obtain ⟨x0, x1, x2, x3, x4, x5, x6⟩ := HF.out.below H3.out.chg HG.out
        by_cases hx : x.id = f.id
        · have q1 : (x.id == f.id) = true := by rw [hx]; exact beq_self_eq_true _
          have q2 : (x.id != f.id) = false := by rw [hx]; exact bne_self_eq_false _
          have HX := Lib.hid hx
          clear hx
          go_quiet (fail)
          go_wp2
          go_roundg (fs.length - (k + 1))
          case measure => have := HLT.out; omega
          case rel => exact ⟨k + 1, v1, HLT.out, rfl, by rw [HE.out], by go_num, by rw [HE.out, if_pos HX.out]; exact Lib.hid (H3.out.drewN nq)⟩
        · have q1 : (x.id == f.id) = false := by rw [beq_eq_false_iff_ne]; exact hx
          have q2 : (x.id != f.id) = true := by rw [bne_iff_ne]; exact hx
          have HX := Lib.hid hx
          clear hx
          go_quiet (fail)
          have H4 := Lib.hid (H3.out.drewN nq)
          clear H3 b1 o1 f0 x0 x1 x2 x3 x4 x5 x6 q1 q2
          go_wp2_with fail
          generalize W.drewN nq = W2 at *
          have b1 := H4.out.atBox
          have o1 := H4.out.atOut
          obtain ⟨x0, x1, x2, x3, x4, x5, x6⟩ := HF.out.below H4.out.chg HG.out
          have H5 := Lib.hid ((H4.out.alloc (.cells #[.int .i64 x.id, .int .i64 x.role, .int .i64 x.weight, .bool x.up, .bool x.quiet, .int .i64 x.time, .int .i64 x.till] 30)).drew)
          have HLt := Lib.hid H4.out.lt
          have HGN := Lib.hid (show g < w.heap.size + 4 by have := HG.out; omega)
          have n1 := (H4.out.alloc (.cells #[.int .i64 x.id, .int .i64 x.role, .int .i64 x.weight, .bool x.up, .bool x.quiet, .int .i64 x.time, .int .i64 x.till] 30)).atOut
          go_region_law
            ((refine step_append_lies _ (by rfl) _ _ _ (by rfl) (w.heap.size + 4) 30 i0 (encF Fr.zero) 7 48 Try.underlying39 hi hz0 hz1 hz2 rfl (by decide) v1 acc1.length (flatF acc1) (by rfl) H5.out.own ⟨W2.heap.size, 0, none⟩ 1 1 (flatF [x]) (by rfl) (by rfl) (fun j u hj => cells_new W2 (cellsF x) 30 (flatF [x]) rfl j u hj) (one7 x) (by decide) (by have := HLn3.out; have := HL.out; have := HLT.out; unfold maxLen; omega) (by have := HLn3.out; have := HL.out; have := HLT.out; omega) (by have := HLt.out; simp; omega) _ rfl ?_; intro g5 c5 w5 hown5 hg5 hat5 hlt5; obtain ⟨k1, k2⟩ := H5.out.after hg5; have H6 := Lib.hid (H5.out.append hg5 hown5)))
          all_goals
            go_wp2
            go_roundg (fs.length - (k + 1))
            case measure => have := HLT.out; omega
            case rel => exact ⟨k + 1, _, HLT.out, rfl, by rw [HE.out], by go_num, by rw [HE.out, if_neg HX.out]; exact H6⟩
    · have hki : decide ((k : Int) < (fs.length : Int)) = false := decide_eq_false (by omega)
      have HTk := Lib.hid (show fs.take k = fs from List.take_of_length_le (by omega))
      have HLk := Lib.hid (show k ≤ fs.length from hk)
      have HLn := Lib.hid (wAcc_length f fs k)
      have HE : Hid (withF fs f = if (wAcc f fs k).2 = true then (wAcc f fs k).1 else (wAcc f fs k).1 ++ [f]) := by
        unfold withF wAcc
        rw [HTk.out]
        exact Lib.hid rfl
      generalize wAcc f fs k = s at *
      obtain ⟨acc, done⟩ := s
      simp only at H HLn HE
      cases done with
      | true =>
        obtain ⟨va, vg, vc, rfl, _, _⟩ := frow_cell H.out.own
        have o1 := H.out.atOut
        have o0 := H.out.atOut0
        have r0 := H.out.atRes
        clear hk hki
        go_wp2
        obtain ⟨s1, s2, s3, s4⟩ := H.out.stop
        refine bodyPost_ret (v := .agg #[.int .i64 cap, .slice va acc.length vc]) (by simp [results, Try.results31, go_sem, s1, s2]) rfl ⟨_, rfl, ?_, s4⟩
        rw [HE.out]
        exact s3
      | false =>
        have o1 := H.out.atOut
        obtain ⟨f0, f1, f2, f3, f4, f5, f6⟩ := cellF f H.out.fb
        have HLt := Lib.hid H.out.lt
        go_wp2_with (at_builtin; refine wpList_append_lies _ rfl _ _ 39 rfl (w.heap.size + 4) 30 i0 (encF Fr.zero) 7 48 Try.underlying39 hi hz0 hz1 hz2 rfl (by decide) v acc.length (flatF acc) rfl (H.out.own.alloc _) ⟨wr.heap.size, 0, none⟩ 1 1 (flatF [f]) rfl rfl (cells_new _ _ _ _ rfl) (one7 f) (by decide) (by have := HLn.out; have := HL.out; have := HLk.out; unfold maxLen; omega) (by have := HLn.out; have := HL.out; have := HLk.out; omega) (by have := HLt.out; simp; omega) _ rfl ?_; intro g4 c4 w4 hown' hg4 hat4 hlt4; obtain ⟨k1, k2⟩ := (H.out.alloc _).after hg4; have H2 := Lib.hid ((H.out.alloc _).append hg4 hown'); clear hown' hg4 hat4 hlt4 o1 f0 f1 f2 f3 f4 f5 f6; have o1 := H2.out.atOut; have o0 := H2.out.atOut0; have r0 := H2.out.atRes)
        obtain ⟨s1, s2, s3, s4⟩ := H2.out.stop
        refine bodyPost_ret (v := .agg #[.int .i64 cap, .slice (some ⟨g4, 0, none⟩) (acc.length + 1) c4]) (by simp [results, Try.results31, go_sem, s1, s2]) rfl ⟨_, rfl, ?_, s4⟩
        rw [HE.out]
        exact s3
end Go.Proofs.Ytdckcbahfdcafaa.F
