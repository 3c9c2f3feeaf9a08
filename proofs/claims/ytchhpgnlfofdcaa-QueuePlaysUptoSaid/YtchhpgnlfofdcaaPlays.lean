/- QueuePlays, walked. -/
import Derived.Test.YtchhpgnlfofdcaaPlays0
import Derived.Deep.RegionHeld3
import Derived.Outline
set_option linter.unusedVariables false
set_option linter.unusedSimpArgs false
namespace Go.Proofs.Ytchhpgnlfofdcaa.Q
open Go.RowKit Go.Sort Go.Proofs.Ytchhpgnlfofdcaa.Hp Go.Proofs.Ytchhpgnlfofdcaa.Mp
set_option maxRecDepth 100000

theorem plays_add (ls : List Ac) (j : Nat) (h : j < ls.length) : totA (ls.take j) + ls[j].evs.length ≤ totA (ls.take (j + 1)) := by
  rw [totA_take ls j h]
  have := totE_len ls[j].evs
  omega
set_option maxHeartbeats 8000000 in
theorem plays_walk (hS : SortC) (most : Int) (la : Option Addr) (gl ol lc : Nat) (ls : List Ac) (w : World) (hn : ls.length ≤ 1048576) (ht : totA ls ≤ 1048576) (hrow : AAt (Lt w.heap.size) w la gl ol ls) :
    Calls Try.prog 5 #[.int .i64 most, .slice la ls.length lc] w fun e w' => e = .returned (.bool true) ∧ Below w.heap.size w w' := by
  have KF := Lib.hid (few_calls (Lt w.heap.size) la gl ol lc ls w hn ht (fun i hi => hi) hrow)
  have HROW := Lib.hid hrow
  have HSO := Lib.hid hS
  have HN := Lib.hid hn
  clear hrow hS hn ht
  go_enter Try.func5, Try.ntmps5
  go_wp2_with fail
  refine KF.out.mono ?_
  rintro e w' ⟨rfl, rfl⟩
  clear KF
  by_cases hfew : ls.length ≤ 100 ∧ totA ls ≤ 600
  case neg =>
    have hq : (decide (ls.length ≤ 100) && decide (totA ls ≤ 600)) = false := by
      rcases Nat.lt_or_ge 100 ls.length with h | h
      · simp; omega
      · have : ¬ totA ls ≤ 600 := fun h2 => hfew ⟨h, h2⟩
        simp; omega
    rw [hq]
    clear hq hfew
    go_wp2
    go_ret
    exact ⟨rfl, Below.refl _ _⟩
  case pos =>
    have hq : (decide (ls.length ≤ 100) && decide (totA ls ≤ 600)) = true := by simp [hfew.1, hfew.2]
    rw [hq]
    have HF := Lib.hid hfew
    clear hq hfew
    by_cases hm : most < 1
    · go_wp2_with fail
      refine (new_no most _ hm).mono ?_
      rintro e w' ⟨rfl, rfl⟩
      go_wp2_with fail
      refine (works_calls HSO.out _).mono ?_
      rintro e w' ⟨rfl, hb⟩
      have HB := Lib.hid hb
      clear hb
      go_wp2
      go_ret
      exact ⟨rfl, HB.out⟩
    · have HM := Lib.hid (show 1 ≤ most by omega)
      have hm' : decide (most < 1) = false := decide_eq_false hm
      clear hm
      go_wp2_with fail
      refine (new_yes most _ HM.out).mono ?_
      rintro e w1 ⟨rfl, hT1, hB1⟩
      have HG : Hid (GSt w (w1.alloc (.cells #[.int .i64 most, .slice none 0 0] 46)) w1.heap.size most [] [] [] none 0 0 0) := Lib.hid ⟨hT1.below ((Below.refl _ w1).alloc (Nat.le_refl _) _), fun i hi => by
          rcases hi with rfl | ⟨k, q, hk, _⟩
          · exact Nat.le_refl _
          · simp [mget] at hk, blk_new _ _, hB1.size, MAt.nil _ _ _ _, rfl, Sim.start most, fun k q hk => by simp [mget] at hk, fun x hx => by simp at hx, hB1.alloc hB1.size _⟩
      clear hT1 hB1
      go_wp2_with fail
      generalize w1.alloc (.cells #[.int .i64 most, .slice none 0 0] 46) = w2 at *
      generalize w1.heap.size = M at *
      go_loopg [7] ls.length (fun gg i wr => ∃ (j : Nat) (l : List (Int × Qr)) (A : List On) (xs : List Oe) (fa : Option Addr) (g fc : Nat), j ≤ ls.length ∧ gg = ls.length - j ∧ i = .int .i64 j ∧ Hid (GSt w wr M most l A xs fa g fc (totA (ls.take j))) ∧ Hid (l.length ≤ j))
      case atStart => exact ⟨0, [], [], [], none, 0, 0, by omega, rfl, rfl, HG, Lib.hid (by simp)⟩
      case round =>
        obtain ⟨j, l, A, xs, fa, g, fc, hj, rfl, rfl, H, HLL⟩ := hrel
        clear HG
        by_cases hlt : j < ls.length
        · obtain ⟨h1, h2⟩ := HROW.out.lt (by omega)
          subst h1
          obtain ⟨ea, ec, hac⟩ := HROW.out.at' j hlt
          have hac2 := hac.keep (T' := Lt w.heap.size) (H.out.chg.block gl h2) (fun i hi => H.out.chg.block i hi) (fun i hi => hi)
          have hac3 := hac2
          obtain ⟨y0, y1, y2, y3, _⟩ := hac3
          obtain ⟨m0, m1, m2, m3⟩ := H.out.cells
          have hji : (j : Int) < (ls.length : Int) := by omega
          have hj0 : (0 : Int) ≤ (j : Int) := by omega
          have hwj : IntKind.i64.wrap ((j : Int) + 1) = (j : Int) + 1 := IntWalk.i64_in _ (by have := HN.out; omega)
          have HLT := Lib.hid hlt
          have HADD := Lib.hid (plays_add ls j hlt)
          have HTL := Lib.hid (totA_le ls (j + 1))
          have HVEC := Lib.hid (show ∀ e ∈ ls[j].evs, e.vec.length ≤ 700 from fun e he => by have h3 := totE_vec he; have h4 := totA_mem (List.getElem_mem hlt); have := HF.out; omega)
          have hlenA : A.length = l.length := by have := H.out.sim.length; rw [this]; simp [abs]
          have HLA := Lib.hid hlenA
          generalize ls[j] = a at *
          have KD := Lib.hid (H.out.act HM.out a ea ec gl (ol + j * 4) h2 (by have := HLL.out; have := HADD.out; have := HTL.out; have := HF.out; omega) (by have := HADD.out; have := HTL.out; have := HF.out; omega) hac2 HVEC.out)
          have HGL := Lib.hid h2
          clear hac hac2 h2 hlenA
          go_wp2_with fail
          have ne1 : ¬ M = wr.heap.size := by have := H.out.lt; omega
          have ne2 : ¬ wr.heap.size = M := by have := H.out.lt; omega
          have ne3 : ¬ gl = wr.heap.size := by have := HGL.out; have := H.out.chg.size; have : gl < w.heap.size := HGL.out; omega
          have ne4 : ¬ wr.heap.size = gl := by have := H.out.chg.size; have : gl < w.heap.size := HGL.out; omega
          go_region_held3 (fun w' => w'.cell? ⟨M, 0, none⟩ = some (.int .i64 most) ∧ w'.cell? ⟨M, 1, none⟩ = some (.slice fa xs.length fc) ∧ w'.cell? ⟨gl, ol + j * 4, none⟩ = some (.int .i64 a.kind) ∧ w'.cell? ⟨gl, ol + j * 4 + 1, none⟩ = some (.int .i64 a.frame) ∧ w'.cell? ⟨gl, ol + j * 4 + 2, none⟩ = some (.int .i64 a.n) ∧ w'.cell? ⟨gl, ol + j * 4 + 3, none⟩ = some (.slice ea a.evs.length ec)) (go_keep)
            ((go_at_call 16; refine (KD.out _ (by first | exact below_drew (Below.refl _ _) | exact below_drew ((Below.refl _ _).alloc (Nat.le_refl _) _))).mono ?_; rintro e w3 ⟨sa, sn, sc, l', rfl, HQ3, ⟨z0, z1⟩, ⟨z2, z3, z4, z5⟩, HR3⟩; (first | (have tb := HR3.out wr.heap.size #[.int .i64 0, .slice none 0 0] (by exact blk_new wr (.cells #[.int .i64 0, .slice none 0 0] 46)); have t0 := blk_cell tb 0; have t1 := blk_cell tb 1; have t2 := blk_frozen tb 0; have t3 := blk_frozen tb 1; have HTB := Lib.hid tb; clear tb) | skip)))
          · have HQW := Lib.hid ((Qs.of_below H.out.tq (below_drew (Below.refl _ wr))).trans HQ3.out.1 |>.below ((Below.refl _ w3).alloc (Nat.le_refl _) (.cells #[.int .i64 most, .slice sa sn sc] 46)))
            have HFW := Lib.hid (HQ3.out.2.2.2.below ((Below.refl _ w3).alloc (Nat.le_refl _) (.cells #[.int .i64 most, .slice sa sn sc] 46)))
            have HPB := Lib.hid (blk_new w3 (.cells #[.int .i64 most, .slice sa sn sc] 46))
            have p0 := blk_cell HPB.out 0
            have p1 := blk_cell HPB.out 1
            clear m0 m1 m2 m3 y0 y1 y2 y3 z0 z1 z2 z3 z4 z5 HR3 ne1 ne2 ne3 ne4
            generalize w3.alloc (.cells #[.int .i64 most, .slice sa sn sc] 46) = W3 at *
            generalize w3.heap.size = P at *
            have HN1 := Lib.hid (H.out.next (Below.refl _ wr) HQW.out (by rw [HQ3.out.2.1]; exact sim_do H.out.sim HM.out a) (HQ3.out.2.2.1.mono HADD.out) (vo_do H.out.vo a HVEC.out) HFW.out (Below.refl _ W3))
            have HLN := Lib.hid (show l'.length ≤ j + 1 by have h9 := congrArg List.length HQ3.out.2.1; have h8 := length_do most (abs l) a; simp only [abs, List.length_map] at h9 h8; have := HLL.out; omega)
            clear HQ3 HQW HFW HADD HTL HVEC KD HGL
            obtain ⟨ys, fa', g', fc', hsl, n0, n1, n2, n3, hG4⟩ := HN1.out
            have HG4 := Lib.hid hG4
            injection hsl with e1 e2 e3
            subst e1 e2 e3
            clear hG4 HN1
            go_wp2_with fail
            clear n0 n1 n2 n3 p0 p1 HPB
            generalize (W3.setCell ⟨M, 0, none⟩ (.int .i64 most)).setCell ⟨M, 1, none⟩ (.slice sa ys.length sc) = W4 at *
            refine (those_calls HSO.out W4 HG4.out.tq HG4.out.tq.nd (by have := HLN.out; have := HF.out; have := HLT.out; omega)).mono ?_
            rintro e w5 ⟨v, ss, rfl, hp, hpw, hown, hb5⟩
            have hss : ss = (doA most A a).map (·.frame) := rise_sort HG4.out.sim (by rw [keys_abs]; exact hp) hpw
            have hll : l'.length = ys.length := by have h1 := HG4.out.sim.length; have h2 := congrArg List.length HG4.out.eq; simp only [abs, List.length_map] at h1 h2; omega
            obtain ⟨fo, go, oc, rfl, hsl, hfo, hcell⟩ := own_ints hown
            rw [hll] at hfo ⊢
            have hcell2 : ∀ (W : World) (k : Nat) (hk : k < ys.length), Below w5.heap.size w5 W → W.cell? ⟨go, k, none⟩ = some (.int .i64 ys[k].1.frame) := fun W k hk hW => by
              rw [below_cell hW (show go < w5.heap.size from (hfo (by omega)).2) (hcell k (by omega))]
              congr 2
              simp only [hss, ← HG4.out.eq, List.getElem_map]
            have HC := Lib.hid hcell2
            have HFO := Lib.hid hfo
            have HG5 := Lib.hid (HG4.out.below hb5)
            have HYN := Lib.hid (show ys.length ≤ 900 by have := HLN.out; have := HF.out; have := HLT.out; omega)
            clear hp hpw hown hb5 hss hll hsl hfo hcell hcell2 HG4
            obtain ⟨m0, m1, m2, m3⟩ := HG5.out.cells
            go_wp2_with fail
            clear m0 m1 m2 m3
            go_loopg [11] ys.length (fun gg i wi => ∃ (k : Nat), k ≤ ys.length ∧ gg = ys.length - k ∧ i = .int .i64 k ∧ Hid (Below w5.heap.size w5 wi))
            case atStart => exact ⟨0, by omega, rfl, rfl, Lib.hid (Below.refl _ _)⟩
            case round =>
              obtain ⟨k, hk, rfl, rfl, HBI⟩ := hrel
              have HG6 := Lib.hid (HG5.out.below HBI.out)
              obtain ⟨m0, m1, m2, m3⟩ := HG6.out.cells
              by_cases hlk : k < ys.length
              · obtain ⟨q1, q2⟩ := HFO.out (by omega)
                subst q1
                obtain ⟨r1, r2⟩ := HG6.out.mat.lt (by omega)
                subst r1
                obtain ⟨x0, x1, x2⟩ := HG6.out.mat.cells k hlk
                have t0 := HC.out _ k hlk HBI.out
                have hlong := HG6.out.long (x := ys[k].1) (by rw [← HG6.out.eq]; exact List.mem_map.2 ⟨_, List.getElem_mem hlk, rfl⟩)
                have hki : (k : Int) < (ys.length : Int) := by omega
                have hk0 : (0 : Int) ≤ (k : Int) := by omega
                have hwk : IntKind.i64.wrap ((k : Int) + 1) = (k : Int) + 1 := IntWalk.i64_in _ (by have := HYN.out; omega)
                have HLK := Lib.hid hlk
                have HBA := Lib.hid (fun (o : Obj) => HBI.out.alloc HBI.out.size o)
                have t7 := below_cell (HBA.out (.cells #[.int .i64 ys[k].1.frame, .slice ys[k].2.1 ys[k].1.evs.length ys[k].2.2, .int .i64 ys[k].1.lost] 52)) (show go < w5.heap.size from q2) (HC.out w5 k hlk (Below.refl _ _))
                generalize ys[k] = xo at *
                obtain ⟨x, xa, xc⟩ := xo
                simp only at x0 x1 x2 t0 hlong t7
                have KL : Hid (∀ W, Tq W (w.heap.size + 1) w.heap.size most l' → Calls Try.prog 10 #[.pointer (some ⟨w.heap.size + 1, 0, none⟩), .int .i64 x.frame] W fun e w' => e = .returned (.int .i64 (x.evs.length : Int)) ∧ W = w') := Lib.hid (fun W hW => by have h9 := long_calls x.frame W hW; rw [hlong.1] at h9; exact h9)
                have KO : Hid (∀ W, Tq W (w.heap.size + 1) w.heap.size most l' → Calls Try.prog 9 #[.pointer (some ⟨w.heap.size + 1, 0, none⟩), .int .i64 x.frame] W fun e w' => e = .returned (.int .i64 x.lost) ∧ W = w') := Lib.hid (fun W hW => by have h9 := lost_calls x.frame W hW; rw [hlong.2] at h9; exact h9)
                have hbn := blk_new wr (.cells #[.int .i64 x.frame, .slice xa x.evs.length xc, .int .i64 x.lost] 52)
                have HG7 := Lib.hid (HG6.out.below ((Below.refl _ wr).alloc (Nat.le_refl _) (.cells #[.int .i64 x.frame, .slice xa x.evs.length xc, .int .i64 x.lost] 52)))
                have HB7 := Lib.hid (HBA.out (.cells #[.int .i64 x.frame, .slice xa x.evs.length xc, .int .i64 x.lost] 52))
                have u0 := blk_cell hbn 0
                have u1 := blk_cell hbn 1
                have u2 := blk_cell hbn 2
                clear hlong q2 r2 hlk hbn HBA
                go_wp2_with fail
                go_region_held3 (fun w' => w'.cell? ⟨go, k, none⟩ = some (.int .i64 x.frame) ∧ w'.cell? ⟨wr.heap.size, 0, none⟩ = some (.int .i64 x.frame) ∧ w'.cell? ⟨wr.heap.size, 1, none⟩ = some (.slice xa x.evs.length xc) ∧ w'.cell? ⟨wr.heap.size, 2, none⟩ = some (.int .i64 x.lost)) (go_keep)
                  (first
                    | (go_at_call 10; refine (KL.out _ (by exact (HG7.out.tq.below (below_drew (Below.refl _ _))))).mono ?_; rintro e w' ⟨rfl, rfl⟩)
                    | (go_at_call 9; refine (KO.out _ (by exact (HG7.out.tq.below (below_drew (Below.refl _ _))))).mono ?_; rintro e w' ⟨rfl, rfl⟩))
                go_wp2_with fail
                go_roundg (ys.length - (k + 1))
                case measure => have := HLK.out; omega
                case rel => exact ⟨k + 1, HLK.out, rfl, by go_num, Lib.hid (below_drew HB7.out)⟩
              · have hki : decide ((k : Int) < (ys.length : Int)) = false := decide_eq_false (by omega)
                go_wp2_with fail
                go_roundg (ls.length - (j + 1))
                case measure => have := HLT.out; omega
                case rel => exact ⟨j + 1, l', _, ys, sa, g', sc, HLT.out, rfl, by go_num, HG6, HLN⟩

          · have hqq := (Qs.of_below H.out.tq (below_drew ((Below.refl _ wr).alloc (Nat.le_refl _) (.cells #[.int .i64 0, .slice none 0 0] 46)))).trans HQ3.out.1
            have hs1 := blk_set HTB.out 0 (.int .i64 most)
            have HQW := Lib.hid ((hqq.setFar HTB.out (Nat.le_refl _) 0 (.int .i64 most)).setFar hs1 (Nat.le_refl _) 1 (.slice sa sn sc))
            have HFW := Lib.hid ((HQ3.out.2.2.2.setFar HTB.out 0 (.int .i64 most)).setFar hs1 1 (.slice sa sn sc))
            have HPB := Lib.hid (blk_set hs1 1 (.slice sa sn sc))
            have p0 := blk_cell HPB.out 0
            have p1 := blk_cell HPB.out 1
            clear m0 m1 m2 m3 y0 y1 y2 y3 z0 z1 z2 z3 z4 z5 HR3 t0 t1 t2 t3 HTB hqq hs1 ne1 ne2 ne3 ne4
            generalize ((w3.setCell ⟨wr.heap.size, 0, none⟩ (.int .i64 most)).setCell ⟨wr.heap.size, 1, none⟩ (.slice sa sn sc)) = W3 at *
            generalize wr.heap.size = P at *
            have HN1 := Lib.hid (H.out.next (Below.refl _ wr) HQW.out (by rw [HQ3.out.2.1]; exact sim_do H.out.sim HM.out a) (HQ3.out.2.2.1.mono HADD.out) (vo_do H.out.vo a HVEC.out) HFW.out (Below.refl _ W3))
            have HLN := Lib.hid (show l'.length ≤ j + 1 by have h9 := congrArg List.length HQ3.out.2.1; have h8 := length_do most (abs l) a; simp only [abs, List.length_map] at h9 h8; have := HLL.out; omega)
            clear HQ3 HQW HFW HADD HTL HVEC KD HGL
            obtain ⟨ys, fa', g', fc', hsl, n0, n1, n2, n3, hG4⟩ := HN1.out
            have HG4 := Lib.hid hG4
            injection hsl with e1 e2 e3
            subst e1 e2 e3
            clear hG4 HN1
            go_wp2_with fail
            clear n0 n1 n2 n3 p0 p1 HPB
            generalize (W3.setCell ⟨M, 0, none⟩ (.int .i64 most)).setCell ⟨M, 1, none⟩ (.slice sa ys.length sc) = W4 at *
            refine (those_calls HSO.out W4 HG4.out.tq HG4.out.tq.nd (by have := HLN.out; have := HF.out; have := HLT.out; omega)).mono ?_
            rintro e w5 ⟨v, ss, rfl, hp, hpw, hown, hb5⟩
            have hss : ss = (doA most A a).map (·.frame) := rise_sort HG4.out.sim (by rw [keys_abs]; exact hp) hpw
            have hll : l'.length = ys.length := by have h1 := HG4.out.sim.length; have h2 := congrArg List.length HG4.out.eq; simp only [abs, List.length_map] at h1 h2; omega
            obtain ⟨fo, go, oc, rfl, hsl, hfo, hcell⟩ := own_ints hown
            rw [hll] at hfo ⊢
            have hcell2 : ∀ (W : World) (k : Nat) (hk : k < ys.length), Below w5.heap.size w5 W → W.cell? ⟨go, k, none⟩ = some (.int .i64 ys[k].1.frame) := fun W k hk hW => by
              rw [below_cell hW (show go < w5.heap.size from (hfo (by omega)).2) (hcell k (by omega))]
              congr 2
              simp only [hss, ← HG4.out.eq, List.getElem_map]
            have HC := Lib.hid hcell2
            have HFO := Lib.hid hfo
            have HG5 := Lib.hid (HG4.out.below hb5)
            have HYN := Lib.hid (show ys.length ≤ 900 by have := HLN.out; have := HF.out; have := HLT.out; omega)
            clear hp hpw hown hb5 hss hll hsl hfo hcell hcell2 HG4
            obtain ⟨m0, m1, m2, m3⟩ := HG5.out.cells
            go_wp2_with fail
            clear m0 m1 m2 m3
            go_loopg [11] ys.length (fun gg i wi => ∃ (k : Nat), k ≤ ys.length ∧ gg = ys.length - k ∧ i = .int .i64 k ∧ Hid (Below w5.heap.size w5 wi))
            case atStart => exact ⟨0, by omega, rfl, rfl, Lib.hid (Below.refl _ _)⟩
            case round =>
              obtain ⟨k, hk, rfl, rfl, HBI⟩ := hrel
              have HG6 := Lib.hid (HG5.out.below HBI.out)
              obtain ⟨m0, m1, m2, m3⟩ := HG6.out.cells
              by_cases hlk : k < ys.length
              · obtain ⟨q1, q2⟩ := HFO.out (by omega)
                subst q1
                obtain ⟨r1, r2⟩ := HG6.out.mat.lt (by omega)
                subst r1
                obtain ⟨x0, x1, x2⟩ := HG6.out.mat.cells k hlk
                have t0 := HC.out _ k hlk HBI.out
                have hlong := HG6.out.long (x := ys[k].1) (by rw [← HG6.out.eq]; exact List.mem_map.2 ⟨_, List.getElem_mem hlk, rfl⟩)
                have hki : (k : Int) < (ys.length : Int) := by omega
                have hk0 : (0 : Int) ≤ (k : Int) := by omega
                have hwk : IntKind.i64.wrap ((k : Int) + 1) = (k : Int) + 1 := IntWalk.i64_in _ (by have := HYN.out; omega)
                have HLK := Lib.hid hlk
                have HBA := Lib.hid (fun (o : Obj) => HBI.out.alloc HBI.out.size o)
                have t7 := below_cell (HBA.out (.cells #[.int .i64 ys[k].1.frame, .slice ys[k].2.1 ys[k].1.evs.length ys[k].2.2, .int .i64 ys[k].1.lost] 52)) (show go < w5.heap.size from q2) (HC.out w5 k hlk (Below.refl _ _))
                generalize ys[k] = xo at *
                obtain ⟨x, xa, xc⟩ := xo
                simp only at x0 x1 x2 t0 hlong t7
                have KL : Hid (∀ W, Tq W (w.heap.size + 1) w.heap.size most l' → Calls Try.prog 10 #[.pointer (some ⟨w.heap.size + 1, 0, none⟩), .int .i64 x.frame] W fun e w' => e = .returned (.int .i64 (x.evs.length : Int)) ∧ W = w') := Lib.hid (fun W hW => by have h9 := long_calls x.frame W hW; rw [hlong.1] at h9; exact h9)
                have KO : Hid (∀ W, Tq W (w.heap.size + 1) w.heap.size most l' → Calls Try.prog 9 #[.pointer (some ⟨w.heap.size + 1, 0, none⟩), .int .i64 x.frame] W fun e w' => e = .returned (.int .i64 x.lost) ∧ W = w') := Lib.hid (fun W hW => by have h9 := lost_calls x.frame W hW; rw [hlong.2] at h9; exact h9)
                have hbn := blk_new wr (.cells #[.int .i64 x.frame, .slice xa x.evs.length xc, .int .i64 x.lost] 52)
                have HG7 := Lib.hid (HG6.out.below ((Below.refl _ wr).alloc (Nat.le_refl _) (.cells #[.int .i64 x.frame, .slice xa x.evs.length xc, .int .i64 x.lost] 52)))
                have HB7 := Lib.hid (HBA.out (.cells #[.int .i64 x.frame, .slice xa x.evs.length xc, .int .i64 x.lost] 52))
                have u0 := blk_cell hbn 0
                have u1 := blk_cell hbn 1
                have u2 := blk_cell hbn 2
                clear hlong q2 r2 hlk hbn HBA
                go_wp2_with fail
                go_region_held3 (fun w' => w'.cell? ⟨go, k, none⟩ = some (.int .i64 x.frame) ∧ w'.cell? ⟨wr.heap.size, 0, none⟩ = some (.int .i64 x.frame) ∧ w'.cell? ⟨wr.heap.size, 1, none⟩ = some (.slice xa x.evs.length xc) ∧ w'.cell? ⟨wr.heap.size, 2, none⟩ = some (.int .i64 x.lost)) (go_keep)
                  (first
                    | (go_at_call 10; refine (KL.out _ (by exact (HG7.out.tq.below (below_drew (Below.refl _ _))))).mono ?_; rintro e w' ⟨rfl, rfl⟩)
                    | (go_at_call 9; refine (KO.out _ (by exact (HG7.out.tq.below (below_drew (Below.refl _ _))))).mono ?_; rintro e w' ⟨rfl, rfl⟩))
                go_wp2_with fail
                go_roundg (ys.length - (k + 1))
                case measure => have := HLK.out; omega
                case rel => exact ⟨k + 1, HLK.out, rfl, by go_num, Lib.hid (below_drew HB7.out)⟩
              · have hki : decide ((k : Int) < (ys.length : Int)) = false := decide_eq_false (by omega)
                go_wp2_with fail
                go_roundg (ls.length - (j + 1))
                case measure => have := HLT.out; omega
                case rel => exact ⟨j + 1, l', _, ys, sa, g', sc, HLT.out, rfl, by go_num, HG6, HLN⟩

        · have hji : decide ((j : Int) < (ls.length : Int)) = false := decide_eq_false (by omega)
          go_wp2_with fail
          refine (works_calls HSO.out _).mono ?_
          rintro e w3 ⟨rfl, hb3⟩
          have HB3 := Lib.hid (hb3.mono H.out.chg.size)
          clear hb3
          go_wp2
          go_ret
          exact ⟨rfl, H.out.chg.trans HB3.out⟩
end Go.Proofs.Ytchhpgnlfofdcaa.Q
