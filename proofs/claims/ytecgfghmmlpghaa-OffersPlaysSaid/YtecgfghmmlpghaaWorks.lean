/- Walks: works. -/
import Derived.Test.YtecgfghmmlpghaaWks
set_option linter.unusedVariables false
set_option linter.unusedSimpArgs false
namespace Go.Proofs.Ytecgfghmmlpghaa.O
open Go.RowKit Go.Proofs.Ytecgfghmmlpghaa.Hp Go.Proofs.Ytecgfghmmlpghaa.Mp
set_option maxRecDepth 100000
/-- The vector that works' offers hold. -/
def wVec : List Pt := [⟨0, 0, 2⟩]
theorem wVec_right : rightV wVec = true := by decide
theorem wVec_sum : sumsOf wVec = ⟨2, 0, 0, 0⟩ := by decide
theorem wSum : sumAll [wVec] S4.zero = ⟨2, 0, 0, 0⟩ := by decide
theorem w50 (d : Nat) (w : World) : (Op.equalIn (d + 2) 50 (.agg #[.int .i64 2, .int .i64 0, .int .i64 0, .int .i64 0]) (.agg #[.int .i64 2, .int .i64 0, .int .i64 0, .int .i64 0])).run Try.prog w = .ok true w := by
  kernel_rfl
def lw (a b c : Option Addr) : List (Int × Ox) := mdel ([] ++ [(0 + 1, ((⟨0 + 1, 1, 5, wVec, 0⟩ : Of), a, wVec.length))] ++ [(0 + 1 + 1, ((⟨0 + 1 + 1, 1, 6, wVec, 0⟩ : Of), b, wVec.length))]) 2 ++ [(0 + 1 + 1 + 1, ((⟨0 + 1 + 1 + 1, 2, 5, wVec, 9⟩ : Of), c, wVec.length))]
theorem lw_eq (a b c : Option Addr) : lw a b c = [(1, ((⟨1, 1, 5, wVec, 0⟩ : Of), a, wVec.length)), (3, ((⟨3, 2, 5, wVec, 9⟩ : Of), c, wVec.length))] := rfl
theorem lw_len (a b c : Option Addr) : (lw a b c).length ≤ 900 := by rw [lw_eq]; simp
theorem lw_vec (a b c : Option Addr) : ∀ p ∈ lw a b c, p.2.1.vec.length ≤ 700 := by rw [lw_eq]; simp [wVec]
theorem lw_sum (a b c : Option Addr) : sumAll ((idsP (fun o => o.frame == 1) (lw a b c)).map (vecAt (lw a b c))) S4.zero = ⟨2, 0, 0, 0⟩ := by
  have h : (idsP (fun o => o.frame == 1) (lw a b c)).map (vecAt (lw a b c)) = [wVec] := by rw [lw_eq]; rfl
  rw [h]
  exact wSum
theorem lw_on (a b c : Option Addr) : idsP (fun o => o.agent == 5) (lw a b c) = [1, 3] := by rw [lw_eq]; rfl
set_option maxHeartbeats 4000000 in
theorem works_calls (hS : SortC) (w : World) : Calls Try.prog 11 #[] w fun e w' => e = .returned (.bool true) ∧ Below w.heap.size w w' := by
  have KN := Lib.hid (new_yes 3 w (by omega))
  go_enter Try.func11, Try.ntmps11
  go_wp2_with fail
  refine KN.out.mono ?_
  rintro e w1 ⟨rfl, ht, hb⟩
  have HT1 := Lib.hid ht
  have HB1 := Lib.hid hb
  clear ht hb KN
  go_wp2_with fail
  have hown : ∀ i, Own (w.heap.size + 3) w.heap.size (w.heap.size + 1) (w.heap.size + 2) [] [] i → w.heap.size ≤ i := fun i hi => by
    rcases hi with rfl | rfl | (rfl | ⟨k, hk⟩) | (rfl | ⟨k, hk⟩)
    · omega
    · omega
    · omega
    · simp [mget] at hk
    · omega
    · simp [mget] at hk
  have hba := (Below.refl _ w1).alloc (Nat.le_refl _) (.cells #[.int .i64 0, .int .i64 0, .int .i64 2] 48)
  have hvec : PAt (fun i => i = w1.heap.size) (w1.alloc (.cells #[.int .i64 0, .int .i64 0, .int .i64 2] 48)) (some ⟨w1.heap.size, 0, none⟩) wVec := ⟨w1.heap.size, 0, fun _ => ⟨rfl, rfl⟩, fun j u hu => by
    rw [Nat.zero_add, blk_cell (blk_new w1 _), ← Array.getElem?_toList]
    exact hu⟩
  have HK0 := Lib.hid (show Wks w (w.heap.size + 3) w.heap.size (w.heap.size + 1) (w.heap.size + 2) 3 0 [] [] [] w1.heap.size wVec (w1.alloc (.cells #[.int .i64 0, .int .i64 0, .int .i64 2] 48)) from
    ⟨HT1.out.below hba, hown, hvec, fun hv => by have := HT1.out.own_lt _ hv; omega, by simp, HB1.out.trans (hba.mono HB1.out.size)⟩)
  clear hown hba hvec
  generalize w1.alloc (.cells #[.int .i64 0, .int .i64 0, .int .i64 2] 48) = W0 at *
  generalize w1.heap.size = v at *
  have KI := Lib.hid (issue_yes (fun i => i = v) 1 5 0 _ 1 wVec W0 HK0.out.t HK0.out.vec (fun i hi => by subst hi; exact ⟨HK0.out.lt, HK0.out.nv⟩) (by omega) (by omega) (by omega) (by decide) wVec_right (by decide) (by omega) (by omega))
  refine KI.out.mono ?_
  rintro e w2 ⟨rfl, va1, lf1, la1, ht, ho, hc⟩
  have HK1 := Lib.hid (HK0.out.chg ht ho hc)
  clear ht ho hc KI HK0
  go_wp2_with fail
  have KI := Lib.hid (issue_yes (fun i => i = v) 1 6 0 _ 1 wVec w2 HK1.out.t HK1.out.vec (fun i hi => by subst hi; exact ⟨HK1.out.lt, HK1.out.nv⟩) (by omega) (by omega) (by omega) (by decide) wVec_right (by decide) (by omega) (by omega))
  refine KI.out.mono ?_
  rintro e w3 ⟨rfl, va2, lf2, la2, ht, ho, hc⟩
  have HK2 := Lib.hid (HK1.out.chg ht ho hc)
  clear ht ho hc KI HK1
  go_wp2_with fail
  have KC := Lib.hid (close_some 2 w3 HK2.out.t ((⟨2, 1, 6, wVec, 0⟩ : Of), va2, 1) (by rfl) (by show wVec.length ≤ 700; decide))
  refine KC.out.mono ?_
  rintro e w4 ⟨va3, vc3, rfl, _, lf3, la3, ht, ho, hc⟩
  have HK3 := Lib.hid (HK2.out.chg ht ho hc)
  clear ht ho hc KC HK2
  go_wp2_with fail
  have HN := Lib.hid (blk_new w4 (.cells #[.int .i64 2, .int .i64 1, .int .i64 6, .slice va3 wVec.length vc3, .int .i64 0] 30))
  have HK4 := Lib.hid (HK3.out.below ((Below.refl _ w4).alloc (Nat.le_refl _) (.cells #[.int .i64 2, .int .i64 1, .int .i64 6, .slice va3 wVec.length vc3, .int .i64 0] 30)))
  have HNO := Lib.hid (show ¬ Own (w.heap.size + 3) w.heap.size (w.heap.size + 1) (w.heap.size + 2) lf3 la3 w4.heap.size from fun hown => by have := HK3.out.t.own_lt w4.heap.size hown; omega)
  clear HK3
  generalize w4.alloc (.cells #[.int .i64 2, .int .i64 1, .int .i64 6, .slice va3 wVec.length vc3, .int .i64 0] 30) = w5 at *
  generalize w4.heap.size = n4 at *
  have KI := Lib.hid (issue_yes (fun i => i = v) 2 5 9 _ 1 wVec w5 HK4.out.t HK4.out.vec (fun i hi => by subst hi; exact ⟨HK4.out.lt, HK4.out.nv⟩) (by omega) (by omega) (by omega) (by decide) wVec_right (by decide) (by omega) (by omega))
  refine KI.out.mono ?_
  rintro e w6 ⟨rfl, va4, lf4, la4, ht, ho, hc⟩
  have HK5 := Lib.hid (HK4.out.chg ht ho hc)
  have HN6 := Lib.hid (hc.blk HN.out HNO.out)
  clear ht ho hc KI HK4 HN HNO
  go_wp2_with fail
  have KF := Lib.hid (issue_full (fun i => i = v) 2 5 9 _ 1 wVec w6 HK5.out.t HK5.out.vec (fun i hi => by subst hi; exact HK5.out.lt) (by decide) (by decide) (by omega))
  refine KF.out.mono ?_
  rintro e w7 ⟨rfl, hb7⟩
  have HK6 := Lib.hid (HK5.out.below hb7)
  have HN7 := Lib.hid ((hb7.block _ (blk_lt HN6.out)).trans HN6.out)
  clear hb7 KF HK5 HN6
  have n2 := blk_cell HN7.out 2
  go_wp2_with fail
  have HK7 := Lib.hid (show Wks w (w.heap.size + 3) w.heap.size (w.heap.size + 1) (w.heap.size + 2) 3 (0 + 1 + 1 + 1) (lw va1 va2 va4) lf4 la4 v wVec w7 from HK6.out)
  clear HK6
  have KS := Lib.hid (sum_calls hS 1 w7 HK7.out.t (lw_len va1 va2 va4) (lw_vec va1 va2 va4))
  rw [lw_sum] at KS
  have hl2 := lw_on va1 va2 va4
  have hle := lw_len va1 va2 va4
  generalize lw va1 va2 va4 = lw3 at *
  have KS2 := KS.out
  unfold SumA at KS2
  refine KS2.mono ?_
  rintro e w8 ⟨rfl, hb8⟩
  have HK8 := Lib.hid (HK7.out.below hb8)
  have KO := Lib.hid (on_calls hS 5 w8 HK8.out.t hle)
  rw [hl2] at KO
  clear hb8 KS2 KS HK7 hl2 hle
  have KO2 := KO.out
  unfold IdsA at KO2
  have h50 : ∀ W, (Op.equalIn 10000 50 (.agg #[.int .i64 2, .int .i64 0, .int .i64 0, .int .i64 0]) (.agg #[.int .i64 2, .int .i64 0, .int .i64 0, .int .i64 0])).run Try.prog W = .ok true W := fun W => w50 9998 W
  have g50 : Try.prog.eqGuardType Try.prog.depth 50 = false := by kernel_rfl
  go_wp2_with (fail)
  refine KO2.mono ?_
  rintro e w9 ⟨v9, rfl, hv9, hb9⟩
  have HK9 := Lib.hid (HK8.out.below hb9)
  clear KO KO2 HK8
  obtain ⟨_, (⟨_, hn9⟩ | ⟨g9, cap9, _, rfl, _⟩)⟩ := hv9
  · simp at hn9
  have HB9 := Lib.hid HK9.out.b
  clear HK9 hb9
  have l9 : ([1, 3] : List Int).length = 2 := rfl
  rw [l9]
  go_wp2_with (fail)
  go_ret
  exact ⟨rfl, HB9.out⟩
end Go.Proofs.Ytecgfghmmlpghaa.O
