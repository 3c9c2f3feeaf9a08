/- works: what is tried at the end of each statement. -/
import Derived.Test.YtdckcbahfdcafaaDo
set_option linter.unusedVariables false
set_option linter.unusedSimpArgs false
namespace Go.Proofs.Ytdckcbahfdcafaa.F
open Go.RowKit Go.Proofs.Ytdckcbahfdcafaa.Hp Go.Proofs.Ytdckcbahfdcafaa.Mp
set_option maxRecDepth 100000
attribute [local go_sem high] eqW30

def R0 : List (Int × Int) := List.replicate 33 (0, 0)
theorem works1 : subF 3 [] R0 1 2 3 7 = ((true, 0), [(1, ⟨1, 2, 3, true, false, 7, 0⟩)], R0.set 2 (1, 3)) := by kernel_rfl
theorem works2 : subF 3 [(1, ⟨1, 2, 3, true, false, 7, 0⟩)] (R0.set 2 (1, 3)) 5 2 4 0 = ((false, 22), [(1, ⟨1, 2, 3, true, false, 7, 0⟩)], R0.set 2 (1, 3)) := by kernel_rfl
theorem works3 : discF [(1, ⟨1, 2, 3, true, false, 7, 0⟩)] 1 10 = (0, [(1, ⟨1, 2, 3, false, false, 7, 17⟩)]) := by kernel_rfl

set_option maxHeartbeats 2000000 in
theorem works_calls (w : World) : Calls Try.prog 10 #[] w fun e w' => e = .returned (.bool true) ∧ Below w.heap.size w w' := by
  go_enter Try.func10, Try.ntmps10
  go_wp2_with fail
  refine (new_yes 3 _ (by omega)).mono ?_
  rintro e w1 ⟨rfl, hT, hB⟩
  have I1 : Inv 3 [] R0 := Inv.start (by omega)
  have HT1 : Hid (Tab w1 (w.heap.size + 1) w.heap.size 3 [] R0) := Lib.hid hT
  have HC1 := Lib.hid (Chg.of_below hB (Own (w.heap.size + 1) w.heap.size))
  clear hT hB
  have HS : Hid (∀ i, Own (w.heap.size + 1) w.heap.size i → w.heap.size ≤ i) := Lib.hid (fun i hi => by rcases hi with h | h <;> omega)
  generalize w.heap.size + 1 = b at *
  generalize hm0 : w.heap.size = m at *
  have I2 := (sub_inv I1 1 2 3 7).1
  have C1 := sub_calls 1 2 3 7 _ HT1.out I1 (by simp)
  rw [works1] at I2 C1
  have I3 := (sub_inv I2 5 2 4 0).1
  rw [works2] at I3
  have HI2 := Lib.hid I2
  have HI3 := Lib.hid I3
  have K1 := Lib.hid C1
  clear I1 I2 I3 C1
  go_wp2_with fail
  refine K1.out.mono ?_
  rintro e w2 ⟨rfl, hT2, hC2⟩
  have HT2 := Lib.hid hT2
  have HC2 := Lib.hid (HC1.out.trans hC2)
  have C2 := sub_calls 5 2 4 0 _ HT2.out HI2.out (by simp)
  rw [works2] at C2
  have K2 := Lib.hid C2
  clear hT2 hC2 C2 K1 HT1 HC1
  go_wp2_with fail
  refine K2.out.mono ?_
  rintro e w3 ⟨rfl, hT3, hC3⟩
  have HT3 := Lib.hid hT3
  have HC3 := Lib.hid (HC2.out.trans hC3)
  have C3 := disc_calls 1 10 _ HT3.out (fun k f hf => ⟨(HI3.out.each k f hf).time1, (HI3.out.each k f hf).time2⟩)
  rw [works3] at C3
  have K3 := Lib.hid C3
  clear hT3 hC3 C3 K2 HT2 HC2
  go_wp2_with fail
  refine K3.out.mono ?_
  rintro e w4 ⟨rfl, hT4, hC4⟩
  have HT4 := Lib.hid hT4
  have HC4 := Lib.hid (HC3.out.trans hC4)
  have C4 := get_calls 1 _ HT4.out
  rw [show got [((1 : Int), (⟨1, 2, 3, false, false, 7, 17⟩ : Fr))] 1 = ⟨1, 2, 3, false, false, 7, 17⟩ from rfl, show (mget [((1 : Int), (⟨1, 2, 3, false, false, 7, 17⟩ : Fr))] 1).isSome = true from rfl, encF_agg] at C4
  have K4 := Lib.hid C4
  clear hT4 hC4 C4 K3 HT3 HC3
  go_wp2_with fail
  refine K4.out.mono ?_
  rintro e w5 ⟨rfl, hB5⟩
  have HT5 := Lib.hid ((HT4.out.below hB5).alloc (.cells (cellsF ⟨1, 2, 3, false, false, 7, 17⟩) 30))
  have HC5 := Lib.hid ((HC4.out.trans (Chg.of_below hB5 _)).alloc (.cells (cellsF ⟨1, 2, 3, false, false, 7, 17⟩) 30))
  have HF5 := Lib.hid (blk_new w5 (.cells (cellsF ⟨1, 2, 3, false, false, 7, 17⟩) 30))
  clear hB5 K4 HT4 HC4
  have C5 := fun W hW => weight_calls (b := b) (m := m) (cap := 3) (l := [((1 : Int), (⟨1, 2, 3, false, false, 7, 17⟩ : Fr))]) (R := R0.set 2 (1, 3)) 2 (by omega) 1 3 W hW (by rfl) (by omega)
  have K5 := Lib.hid C5
  have C6 := fun W hW => long_calls (b := b) (m := m) (cap := 3) (l := [((1 : Int), (⟨1, 2, 3, false, false, 7, 17⟩ : Fr))]) (R := R0.set 2 (1, 3)) W hW
  have K6 := Lib.hid C6
  clear C5 C6
  go_wp2_with fail
  refine (K5.out _ HT5.out).mono ?_
  rintro e w' ⟨rfl, rfl⟩
  obtain ⟨c0, c1, c2, c3, c4, c5, c6⟩ := cellF _ HF5.out
  generalize w5.alloc (.cells (cellsF ⟨1, 2, 3, false, false, 7, 17⟩) 30) = W at *
  have hq : frEq ⟨1, 2, 3, false, false, 7, 17⟩ ⟨1, 2, 3, false, false, 7, 17⟩ = true := frEq_self _
  go_wp2_with fail
  refine (K6.out _ HT5.out).mono ?_
  rintro e w' ⟨rfl, rfl⟩
  go_wp2
  go_ret
  refine ⟨rfl, ?_⟩
  rw [hm0]
  exact HC5.out.below HS.out (by omega)
end Go.Proofs.Ytdckcbahfdcafaa.F
