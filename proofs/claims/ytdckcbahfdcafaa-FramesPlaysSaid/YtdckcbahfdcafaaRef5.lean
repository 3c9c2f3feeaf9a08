/- The reference: Of. -/
import Derived.Test.YtdckcbahfdcafaaRef4
set_option linter.unusedVariables false
set_option linter.unusedSimpArgs false
namespace Go.Proofs.Ytdckcbahfdcafaa.F
open Go.RowKit Go.Sort Go.Proofs.Ytdckcbahfdcafaa.Hp Go.Proofs.Ytdckcbahfdcafaa.Mp
set_option maxRecDepth 100000

def refOfF (fs : List Fr) (role : Int) : List Int := (fs.filter (·.role == role)).map (·.id)
theorem refOfF_take (fs : List Fr) (role : Int) (k : Nat) (h : k < fs.length) : refOfF (fs.take (k + 1)) role = refOfF (fs.take k) role ++ (if fs[k].role = role then [fs[k].id] else []) := by
  unfold refOfF
  rw [List.take_add_one, List.getElem?_eq_getElem h, Option.toList_some, List.filter_append, List.map_append, List.filter_cons]
  by_cases e : fs[k].role = role
  · rw [if_pos (by simpa using e), if_pos e]; rfl
  · rw [if_neg (by simpa using e), if_neg e]; rfl
theorem refOfF_length (fs : List Fr) (role : Int) (k : Nat) : (refOfF (fs.take k) role).length ≤ fs.length := by
  unfold refOfF
  rw [List.length_map]
  exact Nat.le_trans (List.length_filter_le _ _) (by simp; omega)

set_option maxHeartbeats 4000000 in
theorem refOf_calls (cap role : Int) (fa : Option Addr) (g fc : Nat) (fs : List Fr) (w : World) (hlen : fs.length ≤ 900) (ha : 0 < fs.length → fa = some ⟨g, 0, none⟩ ∧ g < w.heap.size) (hc : ∀ j (hj : j < fs.length), FrAt w g (0 + j * 7) fs[j]) :
    Calls Try.prog 23 #[.agg #[.int .i64 cap, .slice fa fs.length fc], .int .i64 role] w fun e w' => ∃ (v : Value), e = .returned v ∧ w'.ownsRow w.heap.size 2 1 v (refOfF fs role).length ((refOfF fs role).map (Value.int .i64)) ∧ Below w.heap.size w w' := by
  obtain ⟨i0, hi, hz0, hz1, hz2⟩ := info_parts info2
  have HA := Lib.hid ha
  have HC := Lib.hid hc
  have HL := Lib.hid hlen
  have HB0 := Lib.hid ((Below.refl _ w).alloc (Nat.le_refl _) (.cells #[.int .i64 cap, .slice fa fs.length fc] 41))
  have HN := Lib.hid (blk_new w (.cells #[.int .i64 cap, .slice fa fs.length fc] 41))
  clear hlen ha hc
  go_enter Try.func23, Try.ntmps23
  go_wp2
  go_loopg [5, 6] fs.length (fun n v x wr => ∃ (k : Nat), k ≤ fs.length ∧ n = fs.length - k ∧ x = .int .i64 k ∧ Hid (wr.ownsRow (w.heap.size + 1) 2 1 v (refOfF (fs.take k) role).length ((refOfF (fs.take k) role).map (Value.int .i64))) ∧ Hid (Below (w.heap.size + 1) (w.alloc (.cells #[.int .i64 cap, .slice fa fs.length fc] 41)) wr))
  case atStart => exact ⟨0, by omega, rfl, rfl, Lib.hid ⟨by simp [refOfF], .inl ⟨rfl, rfl⟩⟩, Lib.hid (Below.refl _ _)⟩
  case round =>
    obtain ⟨k, hk, rfl, rfl, hO, hB⟩ := hrel
    have hs1 : (w.alloc (.cells #[.int .i64 cap, .slice fa fs.length fc] 41)).heap.size = w.heap.size + 1 := by simp
    have HSZ := Lib.hid (show w.heap.size + 1 ≤ wr.heap.size from by have := hB.out.size; omega)
    have HBw := Lib.hid (HB0.out.trans (hB.out.mono (Nat.le_succ _)))
    have hbox := (hB.out.block w.heap.size (by omega)).trans HN.out
    have b1 := (blk_cell hbox 1).trans (show (#[Value.int .i64 cap, .slice fa fs.length fc])[1]? = some (.slice fa fs.length fc) from rfl)
    clear hbox hs1
    by_cases hlt : k < fs.length
    · obtain ⟨h1, h2⟩ := HA.out (by omega)
      subst h1
      have hf := (HC.out k hlt).below HBw.out h2
      rw [Nat.zero_add] at hf
      have HF := Lib.hid (refOfF_take fs role k hlt)
      have HLn := Lib.hid (refOfF_length fs role k)
      have hki : (k : Int) < (fs.length : Int) := by omega
      have hk0 : (0 : Int) ≤ (k : Int) := by omega
      have hw : IntKind.i64.wrap ((k : Int) + 1) = (k : Int) + 1 := IntWalk.i64_in _ (by have := HL.out; omega)
      have HLT := Lib.hid hlt
      have c0 := hf.c0
      have c1 := hf.c1
      clear hf h2
      generalize fs[k].role = x at *
      generalize fs[k].id = y at *
      by_cases hx : x = role
      · have hq : (x == role) = true := by rw [hx]; exact beq_self_eq_true _
        have HX := Lib.hid hx
        clear hx
        go_wp2_with (at_builtin; refine wpList_append_own _ rfl _ _ 54 rfl (w.heap.size + 1) 2 i0 (.int .i64 0) 1 8 Try.underlying54 hi hz0 hz1 hz2 rfl (by decide) _ _ _ rfl (hO.out.alloc _) ⟨wr.heap.size, 0, none⟩ 1 1 [.int .i64 y] rfl rfl (cell_one_new _ _ _) (ints_oneCell .i64 [y]) (by have := HLn.out; have := HL.out; unfold maxLen; omega) (by have := HLn.out; have := HL.out; omega) (by have := HSZ.out; simp; omega) ?_; intro v' w4 hown' hg4 hnil4)
        go_roundg (fs.length - (k + 1))
        case measure => have := HLT.out; omega
        case rel =>
          refine ⟨k + 1, HLT.out, rfl, by go_num, Lib.hid ?_, Lib.hid ?_⟩
          · rw [HF.out, if_pos HX.out]
            simpa using hown'
          · exact (hB.out.alloc HSZ.out _).grown hg4 (by have := HSZ.out; simp; omega) (fun j hj => row_own hO.out hj.symm)
      · have hq : (x == role) = false := by rw [beq_eq_false_iff_ne]; exact hx
        have HX := Lib.hid hx
        clear hx
        go_wp2
        go_roundg (fs.length - (k + 1))
        case measure => have := HLT.out; omega
        case rel =>
          refine ⟨k + 1, HLT.out, rfl, by go_num, Lib.hid ?_, hB⟩
          rw [HF.out, if_neg HX.out, List.append_nil]
          exact hO.out
    · have hki : decide ((k : Int) < (fs.length : Int)) = false := decide_eq_false (by omega)
      have HT := Lib.hid (show fs.take k = fs from List.take_of_length_le (by omega))
      go_wp2
      go_ret
      have h := row_base (base' := w.heap.size) hO.out (by omega)
      rw [HT.out] at h
      exact ⟨_, rfl, h, HBw.out⟩
end Go.Proofs.Ytdckcbahfdcafaa.F
