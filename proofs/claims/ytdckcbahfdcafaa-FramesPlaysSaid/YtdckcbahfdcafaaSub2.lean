/- Walks: Subscribe, where the table is full, and where the framework comes. -/
import Derived.Test.YtdckcbahfdcafaaSub1
import Derived.BigQuiet
set_option linter.unusedVariables false
set_option linter.unusedSimpArgs false
namespace Go.Proofs.Ytdckcbahfdcafaa.F
open Go.RowKit Go.Proofs.Ytdckcbahfdcafaa.Hp Go.Proofs.Ytdckcbahfdcafaa.Mp
set_option maxRecDepth 100000

theorem Tab.len57 {b m : Nat} {cap : Int} {l : List (Int × Fr)} {R : List (Int × Int)} {W : World} (h : Tab W b m cap l R) (n : Nat) :
    (Builtin.len_ #[57] 3 #[.map (some m)]).run Try.prog (W.drewN n) = .ok (goInt l.length) (W.drewN n) := by
  obtain ⟨es, clk, hes, hrep, _⟩ := h.map
  rw [← hrep.length]
  exact F.len57 (blk_drewN hes n)

set_option maxHeartbeats 1000000 in
theorem sub_cap {b m : Nat} {cap : Int} {l : List (Int × Fr)} {R : List (Int × Int)} (id weight time : Int) (r : Nat) (w : World) (h : Tab w b m cap l R) (hm : 1 ≤ id ∧ 1 ≤ (r : Int) ∧ (r : Int) ≤ 32 ∧ 1 ≤ weight ∧ weight ≤ 1000 ∧ 0 ≤ time ∧ time ≤ 9007199254740992)
    (hf : mget l id = none) (mr wr : Int) (hR : R[r]? = some (mr, wr)) (hok : 0 < mr → wr = weight) (hcap : cap ≤ l.length) :
    Calls Try.prog 11 #[.pointer (some ⟨b, 0, none⟩), .int .i64 id, .int .i64 r, .int .i64 weight, .int .i64 time] w fun e w' => e = .returned (.tuple #[.bool false, .int .i64 32]) ∧ Tab w' b m cap l R ∧ Chg (Own b m) w w' := by
  have HG := get_calls id w h
  simp only [got, hf, Option.getD_none, Option.isSome_none] at HG
  have HG := Lib.hid HG
  have HT := Lib.hid h
  have HM := Lib.hid (fun W => may_yes id r weight time W hm)
  have hi1 : (0 : Int) ≤ (r : Int) := by omega
  have hi2 : (r : Int) < 33 := by omega
  have HR := Lib.hid hR
  have hw : decide (0 < mr) = true ∧ (wr == weight) = true ∨ decide (0 < mr) = false := by
    by_cases h0 : 0 < mr
    · exact .inl ⟨decide_eq_true h0, by rw [hok h0]; exact beq_self_eq_true _⟩
    · exact .inr (decide_eq_false h0)
  have HW := Lib.hid hw
  have hge : decide (cap ≤ (l.length : Int)) = true := decide_eq_true hcap
  clear h hm hf hw hR hok hcap
  rcases HW.out with ⟨q1, q2⟩ | q1
  all_goals
    clear HW
    go_enter Try.func11, Try.ntmps11
    go_wp2_with fail
    refine HG.out.mono ?_
    rintro e w1 ⟨rfl, hb⟩
    simp only [encF_agg, Fr.zero]
    have HT1 := Lib.hid ((HT.out.below hb).alloc (.cells #[.int .i64 0, .int .i64 0, .int .i64 0, .bool false, .bool false, .int .i64 0, .int .i64 0] 30))
    have HB := Lib.hid ((Chg.of_below hb (Own b m)).alloc (.cells #[.int .i64 0, .int .i64 0, .int .i64 0, .bool false, .bool false, .int .i64 0, .int .i64 0] 30))
    clear hb HG HT
    have h2 := HT1.out.many' HR.out
    have h3 := HT1.out.weight' HR.out
    have h4 := HT1.out.cell0
    have h5 := HT1.out.cell1
    have h6 := HT1.out.len57
    go_wp2_with fail
    refine (made_yes _ HT1.out).mono ?_
    rintro e w' ⟨rfl, rfl⟩
    go_wp2_with fail
    refine (HM.out _).mono ?_
    rintro e w' ⟨rfl, rfl⟩
    go_wp2_with fail
    go_quiet (fail)
    go_wp2
    go_ret2
    exact ⟨rfl, HT1.out.drewN nq, HB.out.drewN nq⟩

set_option maxHeartbeats 2000000 in
theorem sub_new {b m : Nat} {cap : Int} {l : List (Int × Fr)} {R : List (Int × Int)} (id weight time : Int) (r : Nat) (w : World) (h : Tab w b m cap l R) (hm : 1 ≤ id ∧ 1 ≤ (r : Int) ∧ (r : Int) ≤ 32 ∧ 1 ≤ weight ∧ weight ≤ 1000 ∧ 0 ≤ time ∧ time ≤ 9007199254740992)
    (hf : mget l id = none) (mr wr : Int) (hR : R[r]? = some (mr, wr)) (hok : 0 < mr → wr = weight) (hcap : (l.length : Int) < cap) (hmr : 0 ≤ mr ∧ mr ≤ 1000) :
    Calls Try.prog 11 #[.pointer (some ⟨b, 0, none⟩), .int .i64 id, .int .i64 r, .int .i64 weight, .int .i64 time] w fun e w' => e = .returned (.tuple #[.bool true, .int .i64 0]) ∧
      Tab w' b m cap (mput l id ⟨id, r, weight, true, false, time, 0⟩) (R.set r (mr + 1, weight)) ∧ Chg (Own b m) w w' := by
  have HG := get_calls id w h
  simp only [got, hf, Option.getD_none, Option.isSome_none] at HG
  have HG := Lib.hid HG
  have HT := Lib.hid h
  have HM := Lib.hid (fun W => may_yes id r weight time W hm)
  have hi1 : (0 : Int) ≤ (r : Int) := by omega
  have hi2 : (r : Int) < 33 := by omega
  have hwr : IntKind.i64.wrap (mr + 1) = mr + 1 := IntWalk.i64_in _ (by omega)
  have HR := Lib.hid hR
  have hw : decide (0 < mr) = true ∧ (wr == weight) = true ∨ decide (0 < mr) = false := by
    by_cases h0 : 0 < mr
    · exact .inl ⟨decide_eq_true h0, by rw [hok h0]; exact beq_self_eq_true _⟩
    · exact .inr (decide_eq_false h0)
  have HW := Lib.hid hw
  have hge : decide (cap ≤ (l.length : Int)) = false := decide_eq_false (by omega)
  clear h hm hf hw hR hok hcap hmr
  rcases HW.out with ⟨q1, q2⟩ | q1
  all_goals
    clear HW
    go_enter Try.func11, Try.ntmps11
    go_wp2_with fail
    refine HG.out.mono ?_
    rintro e w1 ⟨rfl, hb⟩
    simp only [encF_agg, Fr.zero]
    have HT1 := Lib.hid ((HT.out.below hb).alloc (.cells #[.int .i64 0, .int .i64 0, .int .i64 0, .bool false, .bool false, .int .i64 0, .int .i64 0] 30))
    have HB := Lib.hid ((Chg.of_below hb (Own b m)).alloc (.cells #[.int .i64 0, .int .i64 0, .int .i64 0, .bool false, .bool false, .int .i64 0, .int .i64 0] 30))
    have HL := Lib.hid (HT.out.below hb).lt_b
    have HF := Lib.hid (blk_new w1 (.cells #[.int .i64 0, .int .i64 0, .int .i64 0, .bool false, .bool false, .int .i64 0, .int .i64 0] 30))
    clear hb HG HT
    have h2 := HT1.out.many' HR.out
    have h3 := HT1.out.weight' HR.out
    have h4 := HT1.out.cell0
    have h5 := HT1.out.cell1
    have h6 := HT1.out.len57
    go_wp2_with fail
    refine (made_yes _ HT1.out).mono ?_
    rintro e w' ⟨rfl, rfl⟩
    go_wp2_with fail
    refine (HM.out _).mono ?_
    rintro e w' ⟨rfl, rfl⟩
    go_wp2_with fail
    go_quiet (fail)
    have HT2 := Lib.hid (HT1.out.drewN nq)
    have HB2 := Lib.hid (HB.out.drewN nq)
    have HF2 := Lib.hid (blk_drewN HF.out nq)
    clear HT1 HB HF h2 h3 h4 h5 h6
    have h2 := HT2.out.many' HR.out
    have h2b := HT2.out.weight' HR.out
    have h7 := HT2.out.free (2 + r * 2)
    have HN := Lib.hid (show b ≠ w1.heap.size from Nat.ne_of_lt HL.out)
    clear HL
    generalize (w1.alloc (.cells #[.int .i64 0, .int .i64 0, .int .i64 0, .bool false, .bool false, .int .i64 0, .int .i64 0] 30)).drewN nq = W at *
    generalize w1.heap.size = g at *
    have HT3 := Lib.hid (HT2.out.set_many' HR.out (mr + 1))
    have h8 := HT3.out.free (2 + r * 2 + 1)
    have HR3 := Lib.hid (show (R.set r (mr + 1, wr))[r]? = some (mr + 1, wr) from by
      have hlt := (List.getElem?_eq_some_iff.1 HR.out).1
      simp [hlt])
    have HT4 := Lib.hid (HT3.out.set_weight' HR3.out weight)
    have HB4 := Lib.hid ((HB2.out.setCell (p := ⟨b, 2 + r * 2, none⟩) (.inl (.inl rfl)) (.int .i64 (mr + 1))).setCell (p := ⟨b, 2 + r * 2 + 1, none⟩) (.inl (.inl rfl)) (.int .i64 weight))
    have HF4 := Lib.hid (blk_far (p := ⟨b, 2 + r * 2 + 1, none⟩) (blk_far (p := ⟨b, 2 + r * 2, none⟩) HF2.out (Ne.symm HN.out) (.int .i64 (mr + 1))) (Ne.symm HN.out) (.int .i64 weight))
    go_wp2
    clear HT2 HB2 HF2 HT3 h2 h2b h7 h8 hwr
    generalize (W.setCell ⟨b, 2 + r * 2, none⟩ (.int .i64 (mr + 1))).setCell ⟨b, 2 + r * 2 + 1, none⟩ (.int .i64 weight) = W4 at *
    have h9 := HT4.out.cell1
    have h10 : W4.cell? ⟨g, 4, none⟩ = some (.bool false) := blk_cell HF4.out 4
    go_still_tail 12, (by kernel_rfl)
    change wpList _ _ _ _ _ W4.drew
    have HT5 := Lib.hid HT4.out.drew
    have HB5 := Lib.hid HB4.out.drew
    obtain ⟨o, ho, hm⟩ := store57 HT5.out.map id ⟨id, r, weight, true, false, time, 0⟩
    rw [encF_agg] at ho
    have HM5 := Lib.hid hm
    clear HT4 HB4 hm h9 h10
    generalize W4.drew = W5 at *
    go_wp2
    go_ret2
    refine ⟨rfl, ?_, HB5.out.setB (.inl (.inr rfl)) _⟩
    have hT6 := HT5.out.setB HM5.out
    rw [List.set_set] at hT6
    exact hT6
end Go.Proofs.Ytdckcbahfdcafaa.F
