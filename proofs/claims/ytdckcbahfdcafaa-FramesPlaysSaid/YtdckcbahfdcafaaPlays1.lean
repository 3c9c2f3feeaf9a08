/- FramesPlays, walked. -/
import Derived.Test.YtdckcbahfdcafaaPlays2
set_option linter.unusedVariables false
set_option linter.unusedSimpArgs false
namespace Go.Proofs.Ytdckcbahfdcafaa.F
open Go.RowKit Go.Sort Go.Proofs.Ytdckcbahfdcafaa.Hp Go.Proofs.Ytdckcbahfdcafaa.Mp
set_option maxRecDepth 100000
attribute [local go_sem ↓] Go.wp_at_zero Go.wp_at_succ

set_option maxHeartbeats 8000000 in
theorem plays_walk (hS : SortC) (hD : DelC) (cap : Int) (xa : Option Addr) (xb xo xl xc : Nat) (L : Nat → A) (role : Int) (w : World) (hx : Acts w xa xl xb xo L) :
    Calls Try.prog 4 #[.int .i64 cap, .slice xa xl xc, .int .i64 role] w fun e w' => e = .returned (.bool true) ∧ Below w.heap.size w w' := by
  by_cases hbig : 100 < (xl : Int)
  · clear hx hS hD
    go_enter Try.func4, Try.ntmps4
    go_wp2
    go_ret
    exact ⟨rfl, Below.refl _ _⟩
  have p1 : decide (100 < (xl : Int)) = false := decide_eq_false hbig
  by_cases hcap : cap < 1
  · clear hx hbig
    go_enter Try.func4, Try.ntmps4
    go_wp2_with fail
    refine (new_no cap _ hcap).mono ?_
    rintro e w' ⟨rfl, rfl⟩
    go_wp2_with fail
    refine (works_calls _).mono ?_
    rintro e w1 ⟨rfl, h1⟩
    go_wp2
    go_ret
    exact ⟨rfl, h1⟩
  have q1 : decide (cap < 1) = false := decide_eq_false hcap
  have HX := Lib.hid hx
  have HS100 := Lib.hid (show xl ≤ 100 by omega)
  have HCAP := Lib.hid (show 1 ≤ cap by omega)
  have HSO := Lib.hid hS
  have HDE := Lib.hid hD
  clear hx hbig hcap hS hD
  go_enter Try.func4, Try.ntmps4
  go_wp2_with fail
  refine (new_yes cap _ HCAP.out).mono ?_
  rintro e w1 ⟨rfl, hT, hB⟩
  have HS : Hid (PSt w (w1.alloc (.cells #[.int .i64 cap, .slice none 0 0] 41)) w1.heap.size cap 0 [] (List.replicate 33 (0, 0)) [] (.slice none 0 0)) :=
    Lib.hid ⟨⟨hT.alloc _, Inv.start HCAP.out, by simp, hB.alloc hB.size _⟩, hT.lt_b, blk_new _ _, ⟨by simp [flatF], .inl ⟨rfl, rfl⟩⟩, Sim.start⟩
  clear hT hB
  go_wp2_with fail
  generalize w1.heap.size = M at *
  go_loopg [9] xl (fun g i wr => ∃ (j : Nat) (l : List (Int × Fr)) (R : List (Int × Int)) (fs : List Fr) (v : Value), j ≤ xl ∧ g = xl - j ∧ i = .int .i64 j ∧ Hid (PSt w wr M cap j l R fs v))
  case atStart => exact ⟨0, _, _, _, _, by omega, rfl, rfl, HS⟩
  case round =>
    obtain ⟨j, l, R, fs, v, hj, rfl, rfl, H⟩ := hrel
    clear HS
    by_cases hlt : j < xl
    · obtain rfl := HX.out.1 (by omega)
      obtain ⟨hb, c0, c1, c2, c3, c4⟩ := HX.out.2 j hlt
      have d0 := below_cell H.out.st.chg (by exact hb) c0
      have d1 := below_cell H.out.st.chg (by exact hb) c1
      have d2 := below_cell H.out.st.chg (by exact hb) c2
      have d3 := below_cell H.out.st.chg (by exact hb) c3
      have d4 := below_cell H.out.st.chg (by exact hb) c4
      have HXB := Lib.hid hb
      have HLT := Lib.hid hlt
      clear c0 c1 c2 c3 c4 hb
      have hlt' : (j : Int) < (xl : Int) := by omega
      have hj0 : (0 : Int) ≤ (j : Int) := by omega
      have hw : IntKind.i64.wrap ((j : Int) + 1) = (j : Int) + 1 := IntWalk.i64_in _ (by have := HS100.out; omega)
      obtain ⟨fa, g, fc, rfl, hrow⟩ := RowAt.of_own H.out.own
      have HROW := Lib.hid hrow
      have HFL := Lib.hid (show fs.length ≤ 900 by have := H.out.flen; have := H.out.st.len; have := HS100.out; omega)
      obtain ⟨m0, m1, m2, m3⟩ := H.out.atM
      have hinv := do_inv H.out.st.inv (L j)
      have hsim := do_sim H.out.sim H.out.st.inv (L j)
      have KD0 := H.out.rdo hrow HFL.out (L j)
      rw [hsim.1] at KD0
      have HDO := Lib.hid (fun (W : World) (hT : Tab W (w.heap.size + 1) w.heap.size cap l R) => do_calls (L j) W hT H.out.st.inv (by have := H.out.st.len; have := HS100.out; omega))
      unfold encA at KD0 HDO
      have HINV := Lib.hid (And.intro hinv.1 (And.intro (show (doF cap l R (L j)).2.1.length ≤ j + 1 by have := H.out.st.len; have := hinv.2; omega) hsim.2))
      clear hinv hsim
      generalize doF cap l R (L j) = D at *
      generalize (rdoF cap fs (L j)).2 = fs' at *
      obtain ⟨⟨ob, oi⟩, l', R'⟩ := D
      simp only at KD0 HDO HINV
      have KD := Lib.hid KD0
      clear KD0
      have HML := Lib.hid (blk_lt H.out.mb)
      have HXL := Lib.hid (show xb < wr.heap.size by have := H.out.st.chg.size; have := HXB.out; omega)
      have hne1 : M ≠ wr.heap.size := Nat.ne_of_lt HML.out
      have hne2 : xb ≠ wr.heap.size := Nat.ne_of_lt HXL.out
      have hne3 : wr.heap.size ≠ M := Nat.ne_of_gt HML.out
      have hne4 : wr.heap.size ≠ xb := Nat.ne_of_gt HXL.out
      clear hrow
      go_wp2_with fail
      go_region_held3 (fun w' => w'.cell? ⟨M, 0, none⟩ = some (.int .i64 cap) ∧ w'.cell? ⟨M, 1, none⟩ = some (.slice fa fs.length fc) ∧ w'.cell? ⟨xb, xo + j * 5, none⟩ = some (.int .i64 (L j).kind) ∧ w'.cell? ⟨xb, xo + j * 5 + 1, none⟩ = some (.int .i64 (L j).id) ∧ w'.cell? ⟨xb, xo + j * 5 + 2, none⟩ = some (.int .i64 (L j).role) ∧ w'.cell? ⟨xb, xo + j * 5 + 3, none⟩ = some (.int .i64 (L j).weight) ∧ w'.cell? ⟨xb, xo + j * 5 + 4, none⟩ = some (.int .i64 (L j).time)) (go_keep)
        ((go_at_call 12; refine (KD.out _ (by first | exact below_drew (Below.refl _ _) | exact below_drew ((Below.refl _ _).alloc (Nat.le_refl _) _))).mono ?_; rintro e w2 ⟨va, vc, rfl, hown, hb2, hbW⟩; (first | (have tb := (hbW.block wr.heap.size (by simp)).trans (blk_new wr (.cells #[.int .i64 0, .slice none 0 0] 41)); have t0 : w2.cell? ⟨wr.heap.size, 0, none⟩ = some (.int .i64 0) := blk_cell tb 0; have t1 : w2.cell? ⟨wr.heap.size, 1, none⟩ = some (.slice none 0 0) := blk_cell tb 1; have t2 := blk_frozen tb 0; have t3 := blk_frozen tb 1; have HTB := Lib.hid tb; clear tb) | skip); have x0 := below_cell hb2 (by exact HML.out) m0; have x1 := below_cell hb2 (by exact HML.out) m1; have y0 := below_cell hb2 (by exact HXL.out) d0; have y1 := below_cell hb2 (by exact HXL.out) d1; have y2 := below_cell hb2 (by exact HXL.out) d2; have y3 := below_cell hb2 (by exact HXL.out) d3; have y4 := below_cell hb2 (by exact HXL.out) d4; have HOW := Lib.hid hown; have HB2 := Lib.hid hb2; clear hown hb2 hbW))
      · have H3 := Lib.hid (H.out.below (HB2.out.alloc HB2.out.size (.cells #[.int .i64 cap, .slice va fs'.length vc] 41)))
        have HP := Lib.hid (blk_new w2 (.cells #[.int .i64 cap, .slice va fs'.length vc] 41))
        have HO3 := Lib.hid (HOW.out.alloc (.cells #[.int .i64 cap, .slice va fs'.length vc] 41))
        have HPM := Lib.hid (show M < w2.heap.size by have := HB2.out.size; have := HML.out; omega)
        clear m0 m1 m2 m3 d0 d1 d2 d3 d4 x0 x1 y0 y1 y2 y3 y4 hne1 hne2 hne3 hne4 KD
        generalize w2.alloc (.cells #[.int .i64 cap, .slice va fs'.length vc] 41) = W at *
        generalize w2.heap.size = P at *
        obtain ⟨_, c0, c1, c2, c3, c4⟩ := HX.out.2 j HLT.out
        have d0 := below_cell H3.out.st.chg (by exact HXB.out) c0
        have d1 := below_cell H3.out.st.chg (by exact HXB.out) c1
        have d2 := below_cell H3.out.st.chg (by exact HXB.out) c2
        have d3 := below_cell H3.out.st.chg (by exact HXB.out) c3
        have d4 := below_cell H3.out.st.chg (by exact HXB.out) c4
        have HC0 := Lib.hid c1
        clear c0 c1 c2 c3 c4
        have HC := Lib.hid (HDO.out W H3.out.st.tab)
        go_wp2_with fail
        refine HC.out.mono ?_
        rintro e w4 ⟨rfl, ht4, hc4⟩
        have HST := Lib.hid (⟨ht4, HINV.out.1, HINV.out.2.1, H3.out.st.chgd hc4⟩ : St w w4 cap (j + 1) l' R')
        have HMB4 := Lib.hid (hc4.blk H3.out.mb (fun h => by have := H3.out.le; rcases h with h | h <;> omega))
        have HP4 := Lib.hid (hc4.blk HP.out (fun h => by have := H3.out.le; have := HPM.out; rcases h with h | h <;> omega))
        have HO4 := Lib.hid (row_chg2 HO3.out hc4 (fun i h => by have := H3.out.le; rcases h with h | h <;> omega))
        clear d0 d1 d2 d3 d4 HC ht4 hc4
        have m0 : w4.cell? ⟨M, 0, none⟩ = some (.int .i64 cap) := blk_cell HMB4.out 0
        have m1 : w4.cell? ⟨M, 1, none⟩ = some (.slice fa fs.length fc) := blk_cell HMB4.out 1
        have m2 := blk_frozen HMB4.out 0
        have m3 := blk_frozen HMB4.out 1
        have n0 : w4.cell? ⟨P, 0, none⟩ = some (.int .i64 cap) := blk_cell HP4.out 0
        have n1 : w4.cell? ⟨P, 1, none⟩ = some (.slice va fs'.length vc) := blk_cell HP4.out 1
        have H5 := Lib.hid (PSt.store HST.out H3.out.le HMB4.out HO4.out HINV.out.2.2)
        have hne : M ≠ P := Nat.ne_of_lt HPM.out
        go_wp2_with fail
        clear m0 m1 m2 m3 n0 n1 hne HP HP4 HST HMB4 HO4 HO3 HPM H3 HDO HOW HB2
        generalize (w4.setCell ⟨M, 0, none⟩ (.int .i64 cap)).setCell ⟨M, 1, none⟩ (.slice va fs'.length vc) = W5 at *
        obtain ⟨_, m1, _, _⟩ := H5.out.atM
        have HFL5 := Lib.hid H5.out.flen
        have HLG := Lib.hid (fun n => long_calls (W5.drewN n) (H5.out.st.tab.drewN n))
        rw [← HFL5.out] at HLG
        go_quiet ((go_at_call 13; exact (HLG.out _).mono fun e w'' ⟨h1, h2⟩ => ⟨h1, _, h2.symm⟩))
        have H6 := Lib.hid (H5.out.below (below_drewN (Below.refl _ _) nq))
        clear H5 HLG m1
        generalize W5.drewN nq = W6 at *
        have d1 := below_cell H6.out.st.chg (by exact HXB.out) HC0.out
        have HG := get_calls (L j).id W6 H6.out.st.tab
        rw [(got_any H6.out.sim (L j).id).1, (got_any H6.out.sim (L j).id).2] at HG
        generalize hid : (L j).id = id at *
        have HID := Lib.hid hid
        clear hid
        rcases at_cases fs' id with ⟨hf, he⟩ | ⟨k, f, hk, hf, he, hfk, hfid⟩
        · rw [hf, he] at HG
          simp only [Option.getD_none, Fr.zero, encF_agg, show decide ((0 : Int) ≤ -1) = false from rfl] at HG
          have HGh := Lib.hid HG
          clear HG
          go_wp2_with fail
          refine HGh.out.mono ?_
          rintro e w7 ⟨rfl, hb7⟩
          have H7 := Lib.hid ((H6.out.below hb7).below ((Below.refl _ _).alloc (Nat.le_refl _) (.cells #[.int .i64 0, .int .i64 0, .int .i64 0, .bool false, .bool false, .int .i64 0, .int .i64 0] 30)))
          have HT7 := Lib.hid (blk_new w7 (.cells #[.int .i64 0, .int .i64 0, .int .i64 0, .bool false, .bool false, .int .i64 0, .int .i64 0] 30))
          have HE := Lib.hid (And.intro hf he)
          clear hb7 HGh d1 hf he
          go_wp2_with fail
          generalize w7.alloc (.cells #[.int .i64 0, .int .i64 0, .int .i64 0, .bool false, .bool false, .int .i64 0, .int .i64 0] 30) = W7 at *
          generalize w7.heap.size = T at *
          obtain ⟨m0, m1, _, _⟩ := H7.out.atM
          have d1 := below_cell H7.out.st.chg (by exact HXB.out) HC0.out
          go_still_tail 6, (by kernel_rfl)
          change wpList _ _ _ _ _ W7.drew
          have H8 := Lib.hid (H7.out.below (below_drew (Below.refl _ _)))
          have HT8 : Hid (W7.drew.heap[T]? = _) := HT7
          clear m0 m1 d1 H7 HT7
          generalize W7.drew = W8 at *
          obtain ⟨fa5, g5, fc5, e5, hrow5⟩ := RowAt.of_own H8.out.own
          injection e5 with e51 e52 e53
          subst e51
          have KA := at_calls cap id _ g5 vc fs' W8 (by have := HFL5.out; have := HINV.out.2.1; have := HS100.out; omega) hrow5.lt hrow5.at'
          rw [HE.out.2] at KA
          have KAh := Lib.hid KA
          clear KA hrow5 e52 e53
          go_wp2_with fail
          refine KAh.out.mono ?_
          rintro e w9 ⟨rfl, hb9⟩
          have H9 := Lib.hid (H8.out.below hb9)
          have HT9 := Lib.hid ((hb9.block T (blk_lt HT8.out)).trans HT8.out)
          clear hb9 KAh H8 HT8
          have hz := eqW30
          have hz2 : frEq ⟨0, 0, 0, false, false, 0, 0⟩ ⟨0, 0, 0, false, false, 0, 0⟩ = true := rfl
          obtain ⟨z0, z1, z2, z3, z4, z5, z6⟩ := cellF Fr.zero HT9.out
          simp only [Fr.zero] at z0 z1 z2 z3 z4 z5 z6
          go_wp2_with fail
          go_quiet (fail)
          go_wp2_with fail
          go_roundg (xl - (j + 1))
          case measure => have := HLT.out; omega
          case rel => exact ⟨j + 1, l', R', fs', _, HLT.out, rfl, by go_num, Lib.hid (H9.out.below (below_drewN (Below.refl _ _) nq))⟩
        · rw [hf, he] at HG
          obtain ⟨fid, frole, fw, fu, fq, ft, fl⟩ := f
          simp only [Option.getD_some, encF_agg, decide_eq_true (show (0 : Int) ≤ (k : Int) by omega)] at HG
          have HK := Lib.hid hk
          have HFK := Lib.hid hfk
          clear hfk hfid
          have HGh := Lib.hid HG
          clear HG
          go_wp2_with fail
          refine HGh.out.mono ?_
          rintro e w7 ⟨rfl, hb7⟩
          have H7 := Lib.hid ((H6.out.below hb7).below ((Below.refl _ _).alloc (Nat.le_refl _) (.cells #[.int .i64 fid, .int .i64 frole, .int .i64 fw, .bool fu, .bool fq, .int .i64 ft, .int .i64 fl] 30)))
          have HT7 := Lib.hid (blk_new w7 (.cells #[.int .i64 fid, .int .i64 frole, .int .i64 fw, .bool fu, .bool fq, .int .i64 ft, .int .i64 fl] 30))
          have HE := Lib.hid (And.intro hf he)
          clear hb7 HGh d1 hf he
          go_wp2_with fail
          generalize w7.alloc (.cells #[.int .i64 fid, .int .i64 frole, .int .i64 fw, .bool fu, .bool fq, .int .i64 ft, .int .i64 fl] 30) = W7 at *
          generalize w7.heap.size = T at *
          obtain ⟨m0, m1, _, _⟩ := H7.out.atM
          have d1 := below_cell H7.out.st.chg (by exact HXB.out) HC0.out
          go_still_tail 6, (by kernel_rfl)
          change wpList _ _ _ _ _ W7.drew
          have H8 := Lib.hid (H7.out.below (below_drew (Below.refl _ _)))
          have HT8 : Hid (W7.drew.heap[T]? = _) := HT7
          clear m0 m1 d1 H7 HT7
          generalize W7.drew = W8 at *
          obtain ⟨fa5, g5, fc5, e5, hrow5⟩ := RowAt.of_own H8.out.own
          injection e5 with e51 e52 e53
          subst e51
          have KA := at_calls cap id _ g5 vc fs' W8 (by have := HFL5.out; have := HINV.out.2.1; have := HS100.out; omega) hrow5.lt hrow5.at'
          rw [HE.out.2] at KA
          have KAh := Lib.hid KA
          have HROW5 := Lib.hid hrow5
          clear KA hrow5 e52 e53
          go_wp2_with fail
          refine KAh.out.mono ?_
          rintro e w9 ⟨rfl, hb9⟩
          have H9 := Lib.hid (H8.out.below hb9)
          have HT9 := Lib.hid ((hb9.block T (blk_lt HT8.out)).trans HT8.out)
          have HB9 := Lib.hid hb9
          clear hb9 KAh H8 HT8
          have hz := eqW30
          have hz2 : frEq ⟨fid, frole, fw, fu, fq, ft, fl⟩ ⟨fid, frole, fw, fu, fq, ft, fl⟩ = true := frEq_self _
          obtain ⟨_, m1, _, _⟩ := H9.out.atM
          have hrow9 := HROW5.out.below HB9.out (Nat.le_refl _)
          have hsome := (hrow9.lt (by have := HK.out; omega)).1
          subst hsome
          have hc9 := hrow9.at' k HK.out
          rw [HFK.out, Nat.zero_add] at hc9
          obtain ⟨y0, y1, y2, y3, y4, y5, y6⟩ := hc9
          simp only at y0 y1 y2 y3 y4 y5 y6
          have hk0 : (0 : Int) ≤ (k : Int) := by omega
          have hki : (k : Int) < (fs'.length : Int) := by have := HK.out; omega
          clear hrow9
          obtain ⟨z0, z1, z2, z3, z4, z5, z6⟩ := cellF ⟨fid, frole, fw, fu, fq, ft, fl⟩ HT9.out
          simp only at z0 z1 z2 z3 z4 z5 z6
          go_wp2_with fail
          go_quiet (fail)
          go_wp2_with fail
          go_roundg (xl - (j + 1))
          case measure => have := HLT.out; omega
          case rel => exact ⟨j + 1, l', R', fs', _, HLT.out, rfl, by go_num, Lib.hid (H9.out.below (below_drewN (Below.refl _ _) nq))⟩
      · have H3 := Lib.hid (H.out.below ((HB2.out.setCell (p := ⟨wr.heap.size, 0, none⟩) (Nat.le_refl _) (.int .i64 cap)).setCell (p := ⟨wr.heap.size, 1, none⟩) (Nat.le_refl _) (.slice va fs'.length vc)))
        have HP : Hid (((w2.setCell ⟨wr.heap.size, 0, none⟩ (.int .i64 cap)).setCell ⟨wr.heap.size, 1, none⟩ (.slice va fs'.length vc)).heap[wr.heap.size]? = some (.cells #[.int .i64 cap, .slice va fs'.length vc] 41 (0, 0))) := Lib.hid (blk_set (blk_set HTB.out 0 (.int .i64 cap)) 1 (.slice va fs'.length vc))
        have HO3 := Lib.hid (row_other (row_other HOW.out HTB.out 0 (.int .i64 cap)) (blk_set HTB.out 0 (.int .i64 cap)) 1 (.slice va fs'.length vc))
        have HPM := HML
        clear m0 m1 m2 m3 d0 d1 d2 d3 d4 x0 x1 y0 y1 y2 y3 y4 t0 t1 t2 t3 hne1 hne2 hne3 hne4 KD HTB
        generalize (w2.setCell ⟨wr.heap.size, 0, none⟩ (.int .i64 cap)).setCell ⟨wr.heap.size, 1, none⟩ (.slice va fs'.length vc) = W at *
        generalize wr.heap.size = P at *
        obtain ⟨_, c0, c1, c2, c3, c4⟩ := HX.out.2 j HLT.out
        have d0 := below_cell H3.out.st.chg (by exact HXB.out) c0
        have d1 := below_cell H3.out.st.chg (by exact HXB.out) c1
        have d2 := below_cell H3.out.st.chg (by exact HXB.out) c2
        have d3 := below_cell H3.out.st.chg (by exact HXB.out) c3
        have d4 := below_cell H3.out.st.chg (by exact HXB.out) c4
        have HC0 := Lib.hid c1
        clear c0 c1 c2 c3 c4
        have HC := Lib.hid (HDO.out W H3.out.st.tab)
        go_wp2_with fail
        refine HC.out.mono ?_
        rintro e w4 ⟨rfl, ht4, hc4⟩
        have HST := Lib.hid (⟨ht4, HINV.out.1, HINV.out.2.1, H3.out.st.chgd hc4⟩ : St w w4 cap (j + 1) l' R')
        have HMB4 := Lib.hid (hc4.blk H3.out.mb (fun h => by have := H3.out.le; rcases h with h | h <;> omega))
        have HP4 := Lib.hid (hc4.blk HP.out (fun h => by have := H3.out.le; have := HPM.out; rcases h with h | h <;> omega))
        have HO4 := Lib.hid (row_chg2 HO3.out hc4 (fun i h => by have := H3.out.le; rcases h with h | h <;> omega))
        clear d0 d1 d2 d3 d4 HC ht4 hc4
        have m0 : w4.cell? ⟨M, 0, none⟩ = some (.int .i64 cap) := blk_cell HMB4.out 0
        have m1 : w4.cell? ⟨M, 1, none⟩ = some (.slice fa fs.length fc) := blk_cell HMB4.out 1
        have m2 := blk_frozen HMB4.out 0
        have m3 := blk_frozen HMB4.out 1
        have n0 : w4.cell? ⟨P, 0, none⟩ = some (.int .i64 cap) := blk_cell HP4.out 0
        have n1 : w4.cell? ⟨P, 1, none⟩ = some (.slice va fs'.length vc) := blk_cell HP4.out 1
        have H5 := Lib.hid (PSt.store HST.out H3.out.le HMB4.out HO4.out HINV.out.2.2)
        have hne : M ≠ P := Nat.ne_of_lt HPM.out
        go_wp2_with fail
        clear m0 m1 m2 m3 n0 n1 hne HP HP4 HST HMB4 HO4 HO3 HPM H3 HDO HOW HB2
        generalize (w4.setCell ⟨M, 0, none⟩ (.int .i64 cap)).setCell ⟨M, 1, none⟩ (.slice va fs'.length vc) = W5 at *
        obtain ⟨_, m1, _, _⟩ := H5.out.atM
        have HFL5 := Lib.hid H5.out.flen
        have HLG := Lib.hid (fun n => long_calls (W5.drewN n) (H5.out.st.tab.drewN n))
        rw [← HFL5.out] at HLG
        go_quiet ((go_at_call 13; exact (HLG.out _).mono fun e w'' ⟨h1, h2⟩ => ⟨h1, _, h2.symm⟩))
        have H6 := Lib.hid (H5.out.below (below_drewN (Below.refl _ _) nq))
        clear H5 HLG m1
        generalize W5.drewN nq = W6 at *
        have d1 := below_cell H6.out.st.chg (by exact HXB.out) HC0.out
        have HG := get_calls (L j).id W6 H6.out.st.tab
        rw [(got_any H6.out.sim (L j).id).1, (got_any H6.out.sim (L j).id).2] at HG
        generalize hid : (L j).id = id at *
        have HID := Lib.hid hid
        clear hid
        rcases at_cases fs' id with ⟨hf, he⟩ | ⟨k, f, hk, hf, he, hfk, hfid⟩
        · rw [hf, he] at HG
          simp only [Option.getD_none, Fr.zero, encF_agg, show decide ((0 : Int) ≤ -1) = false from rfl] at HG
          have HGh := Lib.hid HG
          clear HG
          go_wp2_with fail
          refine HGh.out.mono ?_
          rintro e w7 ⟨rfl, hb7⟩
          have H7 := Lib.hid ((H6.out.below hb7).below ((Below.refl _ _).alloc (Nat.le_refl _) (.cells #[.int .i64 0, .int .i64 0, .int .i64 0, .bool false, .bool false, .int .i64 0, .int .i64 0] 30)))
          have HT7 := Lib.hid (blk_new w7 (.cells #[.int .i64 0, .int .i64 0, .int .i64 0, .bool false, .bool false, .int .i64 0, .int .i64 0] 30))
          have HE := Lib.hid (And.intro hf he)
          clear hb7 HGh d1 hf he
          go_wp2_with fail
          generalize w7.alloc (.cells #[.int .i64 0, .int .i64 0, .int .i64 0, .bool false, .bool false, .int .i64 0, .int .i64 0] 30) = W7 at *
          generalize w7.heap.size = T at *
          obtain ⟨m0, m1, _, _⟩ := H7.out.atM
          have d1 := below_cell H7.out.st.chg (by exact HXB.out) HC0.out
          go_still_tail 6, (by kernel_rfl)
          change wpList _ _ _ _ _ W7.drew
          have H8 := Lib.hid (H7.out.below (below_drew (Below.refl _ _)))
          have HT8 : Hid (W7.drew.heap[T]? = _) := HT7
          clear m0 m1 d1 H7 HT7
          generalize W7.drew = W8 at *
          obtain ⟨fa5, g5, fc5, e5, hrow5⟩ := RowAt.of_own H8.out.own
          injection e5 with e51 e52 e53
          subst e51
          have KA := at_calls cap id _ g5 vc fs' W8 (by have := HFL5.out; have := HINV.out.2.1; have := HS100.out; omega) hrow5.lt hrow5.at'
          rw [HE.out.2] at KA
          have KAh := Lib.hid KA
          clear KA hrow5 e52 e53
          go_wp2_with fail
          refine KAh.out.mono ?_
          rintro e w9 ⟨rfl, hb9⟩
          have H9 := Lib.hid (H8.out.below hb9)
          have HT9 := Lib.hid ((hb9.block T (blk_lt HT8.out)).trans HT8.out)
          clear hb9 KAh H8 HT8
          have hz := eqW30
          have hz2 : frEq ⟨0, 0, 0, false, false, 0, 0⟩ ⟨0, 0, 0, false, false, 0, 0⟩ = true := rfl
          obtain ⟨z0, z1, z2, z3, z4, z5, z6⟩ := cellF Fr.zero HT9.out
          simp only [Fr.zero] at z0 z1 z2 z3 z4 z5 z6
          go_wp2_with fail
          go_quiet (fail)
          go_wp2_with fail
          go_roundg (xl - (j + 1))
          case measure => have := HLT.out; omega
          case rel => exact ⟨j + 1, l', R', fs', _, HLT.out, rfl, by go_num, Lib.hid (H9.out.below (below_drewN (Below.refl _ _) nq))⟩
        · rw [hf, he] at HG
          obtain ⟨fid, frole, fw, fu, fq, ft, fl⟩ := f
          simp only [Option.getD_some, encF_agg, decide_eq_true (show (0 : Int) ≤ (k : Int) by omega)] at HG
          have HK := Lib.hid hk
          have HFK := Lib.hid hfk
          clear hfk hfid
          have HGh := Lib.hid HG
          clear HG
          go_wp2_with fail
          refine HGh.out.mono ?_
          rintro e w7 ⟨rfl, hb7⟩
          have H7 := Lib.hid ((H6.out.below hb7).below ((Below.refl _ _).alloc (Nat.le_refl _) (.cells #[.int .i64 fid, .int .i64 frole, .int .i64 fw, .bool fu, .bool fq, .int .i64 ft, .int .i64 fl] 30)))
          have HT7 := Lib.hid (blk_new w7 (.cells #[.int .i64 fid, .int .i64 frole, .int .i64 fw, .bool fu, .bool fq, .int .i64 ft, .int .i64 fl] 30))
          have HE := Lib.hid (And.intro hf he)
          clear hb7 HGh d1 hf he
          go_wp2_with fail
          generalize w7.alloc (.cells #[.int .i64 fid, .int .i64 frole, .int .i64 fw, .bool fu, .bool fq, .int .i64 ft, .int .i64 fl] 30) = W7 at *
          generalize w7.heap.size = T at *
          obtain ⟨m0, m1, _, _⟩ := H7.out.atM
          have d1 := below_cell H7.out.st.chg (by exact HXB.out) HC0.out
          go_still_tail 6, (by kernel_rfl)
          change wpList _ _ _ _ _ W7.drew
          have H8 := Lib.hid (H7.out.below (below_drew (Below.refl _ _)))
          have HT8 : Hid (W7.drew.heap[T]? = _) := HT7
          clear m0 m1 d1 H7 HT7
          generalize W7.drew = W8 at *
          obtain ⟨fa5, g5, fc5, e5, hrow5⟩ := RowAt.of_own H8.out.own
          injection e5 with e51 e52 e53
          subst e51
          have KA := at_calls cap id _ g5 vc fs' W8 (by have := HFL5.out; have := HINV.out.2.1; have := HS100.out; omega) hrow5.lt hrow5.at'
          rw [HE.out.2] at KA
          have KAh := Lib.hid KA
          have HROW5 := Lib.hid hrow5
          clear KA hrow5 e52 e53
          go_wp2_with fail
          refine KAh.out.mono ?_
          rintro e w9 ⟨rfl, hb9⟩
          have H9 := Lib.hid (H8.out.below hb9)
          have HT9 := Lib.hid ((hb9.block T (blk_lt HT8.out)).trans HT8.out)
          have HB9 := Lib.hid hb9
          clear hb9 KAh H8 HT8
          have hz := eqW30
          have hz2 : frEq ⟨fid, frole, fw, fu, fq, ft, fl⟩ ⟨fid, frole, fw, fu, fq, ft, fl⟩ = true := frEq_self _
          obtain ⟨_, m1, _, _⟩ := H9.out.atM
          have hrow9 := HROW5.out.below HB9.out (Nat.le_refl _)
          have hsome := (hrow9.lt (by have := HK.out; omega)).1
          subst hsome
          have hc9 := hrow9.at' k HK.out
          rw [HFK.out, Nat.zero_add] at hc9
          obtain ⟨y0, y1, y2, y3, y4, y5, y6⟩ := hc9
          simp only at y0 y1 y2 y3 y4 y5 y6
          have hk0 : (0 : Int) ≤ (k : Int) := by omega
          have hki : (k : Int) < (fs'.length : Int) := by have := HK.out; omega
          clear hrow9
          obtain ⟨z0, z1, z2, z3, z4, z5, z6⟩ := cellF ⟨fid, frole, fw, fu, fq, ft, fl⟩ HT9.out
          simp only at z0 z1 z2 z3 z4 z5 z6
          go_wp2_with fail
          go_quiet (fail)
          go_wp2_with fail
          go_roundg (xl - (j + 1))
          case measure => have := HLT.out; omega
          case rel => exact ⟨j + 1, l', R', fs', _, HLT.out, rfl, by go_num, Lib.hid (H9.out.below (below_drewN (Below.refl _ _) nq))⟩
    · have hlt' : decide ((j : Int) < (xl : Int)) = false := decide_eq_false (by omega)
      obtain rfl : j = xl := by omega
      obtain ⟨fa, g, fc, rfl, hrow⟩ := RowAt.of_own H.out.own
      have HLL := Lib.hid (show l.length ≤ 900 by have := H.out.st.len; have := HS100.out; omega)
      have HFL := Lib.hid (show fs.length ≤ 900 by have := H.out.flen; have := HLL.out; omega)
      have HROW := Lib.hid hrow
      have K1 := Lib.hid (weight_any role wr H.out.st.tab H.out.st.inv H.out.sim)
      clear hrow HX hj hlt
      go_wp2_with fail
      refine K1.out.mono ?_
      rintro e w' ⟨rfl, rfl⟩
      obtain ⟨m0, m1, _, _⟩ := H.out.atM
      have HML := Lib.hid (blk_lt H.out.mb)
      have K16 := Lib.hid (fun W hW => PSt.roles H.out W hW)
      have K17 := Lib.hid (fun W hW => PSt.refRoles (cap := cap) (fc := fc) HROW.out HFL.out W hW)
      have HRL := Lib.hid (refRolesF_length fs 32)
      generalize refRolesF fs 32 = rs at *
      clear K1
      go_wp2_with fail
      go_region_held3 (fun w' => w'.cell? ⟨M, 0, none⟩ = some (.int .i64 cap) ∧ w'.cell? ⟨M, 1, none⟩ = some (.slice fa fs.length fc)) (go_keep)
        (first
          | (go_at_call 16; refine (K16.out _ (by first | exact below_drew (Below.refl _ _) | exact hbB)).mono ?_; rintro e wA ⟨aa, ac, rfl, hIA, hbA, hbA'⟩; have x0 := below_cell hbA (by exact HML.out) m0; have x1 := below_cell hbA (by exact HML.out) m1; (first | have hIB2 := hIB.below hbA' (Nat.le_refl _) | skip))
          | (go_at_call 17; refine (K17.out _ (by first | exact below_drew (Below.refl _ _) | exact hbA)).mono ?_; rintro e wB ⟨ba, bc, rfl, hIB, hbB, hbB'⟩; have x2 := below_cell hbB (by exact HML.out) m0; have x3 := below_cell hbB (by exact HML.out) m1; (first | have hIA2 := hIA.below hbB' (Nat.le_refl _) | skip)))
      have HIA := Lib.hid hIA2
      have HIB := Lib.hid hIB
      have HB1 := Lib.hid hbB
      have H2 := Lib.hid (H.out.below hbB)
      have K18 := Lib.hid (fun hr => refWeight_calls cap role fa g fc fs wB HFL.out (RowAt.lt hr) (RowAt.at' hr))
      have K18' := Lib.hid (K18.out (HROW.out.below HB1.out (Nat.le_refl _)))
      have HROW2 := Lib.hid (HROW.out.below HB1.out (Nat.le_refl _))
      clear m0 m1 x0 x1 hIA hIA2 hIB hbA hbA' hbB hbB' K16 K17 K18 HROW
      go_wp2_with fail
      refine K18'.out.mono ?_
      rintro e w5 ⟨rfl, hb5⟩
      have H5 := Lib.hid (H2.out.below hb5)
      have HIA5 := Lib.hid (HIA.out.below hb5 (Nat.le_refl _))
      have HIB5 := Lib.hid (HIB.out.below hb5 (Nat.le_refl _))
      have HROW5 := Lib.hid (HROW2.out.below hb5 (Nat.le_refl _))
      clear K18' hb5 H2 HIA HIB HROW2 x2 x3 HB1 H
      generalize weightF fs role = Wt at *
      go_wp2_with fail
      go_loopg [22] rs.length (fun n x wx => ∃ (q : Nat), q ≤ rs.length ∧ n = rs.length - q ∧ x = .int .i64 q ∧ Hid (Below w5.heap.size w5 wx))
      case atStart => exact ⟨0, by omega, rfl, rfl, Lib.hid (Below.refl _ _)⟩
      case round =>
        obtain ⟨q, hq, rfl, rfl, HBx⟩ := hrel
        by_cases hqlt : q < rs.length
        · obtain ⟨ga, ha1, ha2⟩ := HIA5.out.below HBx.out (Nat.le_refl _)
          obtain ⟨gb, hb1, hb2⟩ := HIB5.out.below HBx.out (Nat.le_refl _)
          obtain rfl := (ha1 (by omega)).1
          obtain rfl := (hb1 (by omega)).1
          have e0 := ha2 q hqlt
          have e1 := hb2 q hqlt
          rw [Nat.zero_add] at e0 e1
          generalize rs[q] = x at *
          have hqi : (q : Int) < (rs.length : Int) := by omega
          have hqi0 : (0 : Int) ≤ (q : Int) := by omega
          have hwq : IntKind.i64.wrap ((q : Int) + 1) = (q : Int) + 1 := IntWalk.i64_in _ (by have := HRL.out; omega)
          have HQL := Lib.hid hqlt
          clear ha1 ha2 hb1 hb2
          go_wp2_with fail
          go_quiet (fail)
          go_wp2
          go_roundg (rs.length - (q + 1))
          case measure => have := HQL.out; omega
          case rel => exact ⟨q + 1, HQL.out, rfl, by go_num, Lib.hid (below_drewN HBx.out nq)⟩
        · have hqi : decide ((q : Int) < (rs.length : Int)) = false := decide_eq_false (by omega)
          have H6 := Lib.hid (H5.out.below HBx.out)
          have HROW6 := Lib.hid (HROW5.out.below HBx.out (Nat.le_refl _))
          obtain ⟨m0, m1, _, _⟩ := H6.out.atM
          have HML6 := Lib.hid (blk_lt H6.out.mb)
          have K20 := Lib.hid (fun W hW => PSt.alls HSO.out H6.out HLL.out W hW)
          have K22 := Lib.hid (fun W hW => PSt.ofs HSO.out HDE.out H6.out HLL.out role W hW)
          have K23 := Lib.hid (fun W hW => PSt.refOf (cap := cap) (fc := fc) HROW6.out HFL.out role W hW)
          have HOL := Lib.hid (show (refOfF fs role).length ≤ 900 by have h := refOfF_length fs role fs.length; rw [List.take_length] at h; have := HFL.out; omega)
          have HF6 := Lib.hid (FAt.mk HROW6.out)
          generalize refOfF fs role = os at *
          clear H5 HIA5 HIB5 HROW5
          go_wp2_with fail
          go_region_held3 (fun w' => w'.cell? ⟨M, 0, none⟩ = some (.int .i64 cap) ∧ w'.cell? ⟨M, 1, none⟩ = some (.slice fa fs.length fc)) (go_keep)
            (first
              | (go_at_call 20; refine (K20.out _ (by exact below_drew (Below.refl _ _))).mono ?_; rintro e wA ⟨aa, ac, rfl, hA, hbA⟩; have x0 := below_cell hbA (by exact HML6.out) m0; have x1 := below_cell hbA (by exact HML6.out) m1; have hF := HF6.out.below hbA (Nat.le_refl _))
              | (go_at_call 19; refine (same_at _ _ _ _ _ HFL.out hA hF hbA).mono ?_; rintro e wB ⟨rfl, hbB⟩; have y0 := below_cell hbB (by exact HML6.out) m0; have y1 := below_cell hbB (by exact HML6.out) m1)
              | (go_at_call 22; refine (K22.out _ (by first | exact hbB | exact hbD)).mono ?_; rintro e wC ⟨ca, cc, rfl, hIC, hbC, hbC'⟩; have z0 := below_cell hbC (by exact HML6.out) m0; have z1 := below_cell hbC (by exact HML6.out) m1)
              | (go_at_call 23; refine (K23.out _ (by first | exact hbC | exact hbB)).mono ?_; rintro e wD ⟨da, dc, rfl, hID, hbD, hbD'⟩; have v0 := below_cell hbD (by exact HML6.out) m0; have v1 := below_cell hbD (by exact HML6.out) m1; have hIC2 := hIC.below hbD' (Nat.le_refl _))
              | (go_at_call 21; refine (sameIDs_at _ _ _ _ _ _ HOL.out hIC2 hID hbD).mono ?_; rintro e wE ⟨rfl, hbE⟩; have u0 := below_cell hbE (by exact HML6.out) m0; have u1 := below_cell hbE (by exact HML6.out) m1)
              | (go_at_call 10; refine (works_at _ hbE).mono ?_; rintro e wF ⟨rfl, hbF⟩; have s0 := below_cell hbF (by exact HML6.out) m0; have s1 := below_cell hbF (by exact HML6.out) m1))
          go_wp2
          go_ret
          exact ⟨rfl, H6.out.st.chg.trans (hbF.mono H6.out.st.chg.size)⟩
end Go.Proofs.Ytdckcbahfdcafaa.F
