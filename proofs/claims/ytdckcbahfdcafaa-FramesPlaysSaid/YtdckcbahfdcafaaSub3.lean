/- Walks: Subscribe, where the framework is there. -/
import Derived.Test.YtdckcbahfdcafaaSub2
set_option linter.unusedVariables false
set_option linter.unusedSimpArgs false
namespace Go.Proofs.Ytdckcbahfdcafaa.F
open Go.RowKit Go.Proofs.Ytdckcbahfdcafaa.Hp Go.Proofs.Ytdckcbahfdcafaa.Mp
set_option maxRecDepth 100000

set_option maxHeartbeats 2000000 in
theorem sub_old {b m : Nat} {cap : Int} {l : List (Int × Fr)} {R : List (Int × Int)} (id weight time : Int) (r : Nat) (w : World) (h : Tab w b m cap l R) (hm : 1 ≤ id ∧ 1 ≤ (r : Int) ∧ (r : Int) ≤ 32 ∧ 1 ≤ weight ∧ weight ≤ 1000 ∧ 0 ≤ time ∧ time ≤ 9007199254740992)
    (f : Fr) (hf : mget l id = some f) (hfr : f.role = r) (mr wr : Int) (hR : R[r]? = some (mr, wr)) (hok : wr = weight) (hmr : 0 < mr) :
    Calls Try.prog 11 #[.pointer (some ⟨b, 0, none⟩), .int .i64 id, .int .i64 r, .int .i64 weight, .int .i64 time] w fun e w' => e = .returned (.tuple #[.bool false, .int .i64 0]) ∧
      Tab w' b m cap (mput l id ⟨id, r, weight, true, f.quiet, time, 0⟩) (R.set r (mr, weight)) ∧ Chg (Own b m) w w' := by
  have HG := get_calls id w h
  simp only [got, hf, Option.getD_some, Option.isSome_some] at HG
  have HG := Lib.hid HG
  have HT := Lib.hid h
  have HM := Lib.hid (fun W => may_yes id r weight time W hm)
  have hi1 : (0 : Int) ≤ (r : Int) := by omega
  have hi2 : (r : Int) < 33 := by omega
  have HR := Lib.hid hR
  have q1 : decide (0 < mr) = true := decide_eq_true hmr
  have q2 : (wr == weight) = true := by rw [hok]; exact beq_self_eq_true _
  obtain ⟨fid, frole, fw, fu, fq, ft, fl⟩ := f
  simp only at hfr
  have q3 : (frole == (r : Int)) = true := by rw [hfr]; exact beq_self_eq_true _
  clear h hm hf hR hok hmr hfr
  go_enter Try.func11, Try.ntmps11
  go_wp2_with fail
  refine HG.out.mono ?_
  rintro e w1 ⟨rfl, hb⟩
  simp only [encF_agg]
  have HT1 := Lib.hid ((HT.out.below hb).alloc (.cells #[.int .i64 fid, .int .i64 frole, .int .i64 fw, .bool fu, .bool fq, .int .i64 ft, .int .i64 fl] 30))
  have HB := Lib.hid ((Chg.of_below hb (Own b m)).alloc (.cells #[.int .i64 fid, .int .i64 frole, .int .i64 fw, .bool fu, .bool fq, .int .i64 ft, .int .i64 fl] 30))
  have HL := Lib.hid (HT.out.below hb).lt_b
  have HF := Lib.hid (blk_new w1 (.cells #[.int .i64 fid, .int .i64 frole, .int .i64 fw, .bool fu, .bool fq, .int .i64 ft, .int .i64 fl] 30))
  clear hb HG HT
  have h2 := HT1.out.many' HR.out
  have h3 := HT1.out.weight' HR.out
  have h4 := HT1.out.cell0
  have h5 := HT1.out.cell1
  have h6 := HT1.out.len57
  go_wp2_with fail
  refine (made_yes _ HT1.out).mono ?_
  rintro e w' ⟨rfl, rfl⟩
  go_wp2_with fail
  refine (HM.out _).mono ?_
  rintro e w' ⟨rfl, rfl⟩
  go_wp2_with fail
  go_quiet (fail)
  have HT2 := Lib.hid (HT1.out.drewN nq)
  have HB2 := Lib.hid (HB.out.drewN nq)
  have HF2 := Lib.hid (blk_drewN HF.out nq)
  clear HT1 HB HF h2 h3 h4 h5 h6
  have h2 := HT2.out.many' HR.out
  have h2b := HT2.out.weight' HR.out
  have h8 := HT2.out.free (2 + r * 2 + 1)
  have HN := Lib.hid (show b ≠ w1.heap.size from Nat.ne_of_lt HL.out)
  clear HL
  generalize (w1.alloc (.cells #[.int .i64 fid, .int .i64 frole, .int .i64 fw, .bool fu, .bool fq, .int .i64 ft, .int .i64 fl] 30)).drewN nq = W at *
  generalize w1.heap.size = g at *
  have HT4 := Lib.hid (HT2.out.set_weight' HR.out weight)
  have HB4 := Lib.hid (HB2.out.setCell (p := ⟨b, 2 + r * 2 + 1, none⟩) (.inl (.inl rfl)) (.int .i64 weight))
  have HF4 := Lib.hid (blk_far (p := ⟨b, 2 + r * 2 + 1, none⟩) HF2.out (Ne.symm HN.out) (.int .i64 weight))
  go_wp2
  clear HT2 HB2 HF2 h2 h2b h8
  generalize W.setCell ⟨b, 2 + r * 2 + 1, none⟩ (.int .i64 weight) = W4 at *
  have h9 := HT4.out.cell1
  have h10 : W4.cell? ⟨g, 4, none⟩ = some (.bool fq) := blk_cell HF4.out 4
  go_still_tail 12, (by kernel_rfl)
  change wpList _ _ _ _ _ W4.drew
  have HT5 := Lib.hid HT4.out.drew
  have HB5 := Lib.hid HB4.out.drew
  obtain ⟨o, ho, hm⟩ := store57 HT5.out.map id ⟨id, r, weight, true, fq, time, 0⟩
  rw [encF_agg] at ho
  have HM5 := Lib.hid hm
  clear HT4 HB4 hm h9 h10
  generalize W4.drew = W5 at *
  go_wp2
  go_ret2
  exact ⟨rfl, HT5.out.setB HM5.out, HB5.out.setB (.inl (.inr rfl)) _⟩
end Go.Proofs.Ytdckcbahfdcafaa.F
