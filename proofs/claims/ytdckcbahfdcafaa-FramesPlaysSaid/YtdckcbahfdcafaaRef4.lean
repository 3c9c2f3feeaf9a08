/- The reference: Roles. -/
import Derived.Test.YtdckcbahfdcafaaRef3
set_option linter.unusedVariables false
set_option linter.unusedSimpArgs false
namespace Go.Proofs.Ytdckcbahfdcafaa.F
open Go.RowKit Go.Sort Go.Proofs.Ytdckcbahfdcafaa.Hp Go.Proofs.Ytdckcbahfdcafaa.Mp
set_option maxRecDepth 100000

/-- The roles up to n that have a weight. -/
def refRolesF (fs : List Fr) : Nat → List Int
  | 0 => []
  | n + 1 => refRolesF fs n ++ (if 0 < weightF fs ((n : Int) + 1) then [(n : Int) + 1] else [])
theorem refRolesF_length (fs : List Fr) : ∀ n, (refRolesF fs n).length ≤ n
  | 0 => Nat.le_refl _
  | n + 1 => by
    have := refRolesF_length fs n
    simp only [refRolesF, List.length_append]
    split <;> simp <;> omega

set_option maxHeartbeats 4000000 in
theorem refRoles_calls (cap : Int) (fa : Option Addr) (g fc : Nat) (fs : List Fr) (w : World) (hlen : fs.length ≤ 900) (ha : 0 < fs.length → fa = some ⟨g, 0, none⟩ ∧ g < w.heap.size) (hc : ∀ j (hj : j < fs.length), FrAt w g (0 + j * 7) fs[j]) :
    Calls Try.prog 17 #[.agg #[.int .i64 cap, .slice fa fs.length fc]] w fun e w' => ∃ (v : Value), e = .returned v ∧ w'.ownsRow w.heap.size 3 1 v (refRolesF fs 32).length ((refRolesF fs 32).map (Value.int .i64)) ∧ Below w.heap.size w w' := by
  obtain ⟨i0, hi, hz0, hz1, hz2⟩ := info_parts info3
  have HW := Lib.hid (fun (role : Int) (W : World) (hb : Below w.heap.size w W) => refWeight_calls cap role fa g fc fs W hlen (fun h => ⟨(ha h).1, Nat.lt_of_lt_of_le (ha h).2 hb.size⟩) (fun j hj => (hc j hj).below hb (ha (by omega)).2))
  have HB0 := Lib.hid ((Below.refl _ w).alloc (Nat.le_refl _) (.cells #[.int .i64 cap, .slice fa fs.length fc] 41))
  have HN := Lib.hid (blk_new w (.cells #[.int .i64 cap, .slice fa fs.length fc] 41))
  clear hlen ha hc
  go_enter Try.func17, Try.ntmps17
  go_wp2
  go_loopg [3, 4] 33 (fun g v x wr => ∃ (n : Nat), n ≤ 32 ∧ g = 33 - n ∧ x = .int .i64 ((n : Int) + 1) ∧ Hid (wr.ownsRow (w.heap.size + 1) 3 1 v (refRolesF fs n).length ((refRolesF fs n).map (Value.int .i64))) ∧ Hid (Below (w.heap.size + 1) (w.alloc (.cells #[.int .i64 cap, .slice fa fs.length fc] 41)) wr))
  case atStart => exact ⟨0, by omega, rfl, rfl, Lib.hid ⟨by simp [refRolesF], .inl ⟨rfl, rfl⟩⟩, Lib.hid (Below.refl _ _)⟩
  case round =>
    obtain ⟨n, hn, rfl, rfl, hO, hB⟩ := hrel
    have hs1 : (w.alloc (.cells #[.int .i64 cap, .slice fa fs.length fc] 41)).heap.size = w.heap.size + 1 := by simp
    have HSZ := Lib.hid (show w.heap.size + 1 ≤ wr.heap.size from by have := hB.out.size; omega)
    have HBw := Lib.hid (HB0.out.trans (hB.out.mono (Nat.le_succ _)))
    have hbox := (hB.out.block w.heap.size (by omega)).trans HN.out
    have b0 := (blk_cell hbox 0).trans (show (#[Value.int .i64 cap, .slice fa fs.length fc])[0]? = some (.int .i64 cap) from rfl)
    have b1 := (blk_cell hbox 1).trans (show (#[Value.int .i64 cap, .slice fa fs.length fc])[1]? = some (.slice fa fs.length fc) from rfl)
    clear hbox hs1
    by_cases hlt : n < 32
    · have d1 : decide ((n : Int) + 1 ≤ 32) = true := decide_eq_true (by omega)
      have hw : IntKind.i64.wrap ((n : Int) + 1 + 1) = (n : Int) + 1 + 1 := IntWalk.i64_in _ (by omega)
      have HF := Lib.hid (show refRolesF fs (n + 1) = refRolesF fs n ++ (if 0 < weightF fs ((n : Int) + 1) then [(n : Int) + 1] else []) from rfl)
      have HLT := Lib.hid hlt
      have HC := Lib.hid (HW.out ((n : Int) + 1) wr HBw.out)
      generalize weightF fs ((n : Int) + 1) = y at *
      go_wp2_with fail
      refine HC.out.mono ?_
      rintro e w3 ⟨rfl, h3⟩
      have HB3 := Lib.hid (hB.out.trans (h3.mono HSZ.out))
      have HO3 := Lib.hid (row_chg hO.out (Chg.of_below h3 No) (fun _ _ h => h))
      have HZ3 := Lib.hid (Nat.le_trans HSZ.out h3.size)
      clear h3 HC
      by_cases hmr : 0 < y
      · have q : decide (0 < y) = true := decide_eq_true hmr
        have HLn := Lib.hid (refRolesF_length fs n)
        have HMR := Lib.hid hmr
        clear hmr
        go_wp2_with (at_builtin; refine wpList_append_own _ rfl _ _ 48 rfl (w.heap.size + 1) 3 i0 (.int .i64 0) 1 8 Try.underlying48 hi hz0 hz1 hz2 rfl (by decide) _ _ _ rfl (HO3.out.alloc _) ⟨w3.heap.size, 0, none⟩ 1 1 [.int .i64 ((n : Int) + 1)] rfl rfl (cell_one_new _ _ _) (ints_oneCell .i64 [(n : Int) + 1]) (by have := HLn.out; have := HLT.out; unfold maxLen; omega) (by have := HLn.out; have := HLT.out; omega) (by have := HZ3.out; simp; omega) ?_; intro v' w4 hown' hg4 hnil4)
        go_roundg (33 - (n + 1))
        case measure => have := HLT.out; omega
        case rel =>
          refine ⟨n + 1, HLT.out, rfl, by simp, Lib.hid ?_, Lib.hid ?_⟩
          · rw [HF.out, if_pos HMR.out]
            simpa using hown'
          · exact (HB3.out.alloc HZ3.out _).grown hg4 (by have := HZ3.out; simp; omega) (fun j hj => row_own HO3.out hj.symm)
      · have q : decide (0 < y) = false := decide_eq_false hmr
        have HMR := Lib.hid hmr
        clear hmr
        go_wp2
        go_roundg (33 - (n + 1))
        case measure => have := HLT.out; omega
        case rel =>
          refine ⟨n + 1, HLT.out, rfl, by simp, Lib.hid ?_, HB3⟩
          rw [HF.out, if_neg (by have := HMR.out; omega), List.append_nil]
          exact HO3.out
    · obtain rfl : n = 32 := by omega
      go_wp2
      go_ret
      exact ⟨_, rfl, row_base hO.out (by omega), HBw.out⟩
end Go.Proofs.Ytdckcbahfdcafaa.F
