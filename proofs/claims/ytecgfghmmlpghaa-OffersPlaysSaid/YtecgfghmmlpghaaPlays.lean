/- Walks: OffersPlays. -/
import Derived.Test.YtecgfghmmlpghaaPlays0
set_option linter.unusedVariables false
set_option linter.unusedSimpArgs false
namespace Go.Proofs.Ytecgfghmmlpghaa.O
open Go.RowKit Go.Proofs.Ytecgfghmmlpghaa.Hp Go.Proofs.Ytecgfghmmlpghaa.Mp
set_option maxRecDepth 100000
attribute [local irreducible] Go.wpQuiet
set_option maxHeartbeats 8000000 in
theorem plays_walk (hS : SortC) (most i0 i1 : Int) (aa : Option Addr) (ga oa ac : Nat) (ls : List Ac) (w : World) (h : AAt (Lt w.heap.size) w aa ga oa ls) (hn : ls.length ≤ 4611686018427387903) (ht : ls.length ≤ 100 → totA ls ≤ 4611686018427387903) :
    Calls Try.prog 5 #[.int .i64 most, .slice aa ls.length ac, .agg #[.int .i64 i0, .int .i64 i1]] w fun e w' => e = .returned (.bool true) ∧ Below w.heap.size w w' := by
  have hba := (Below.refl _ w).alloc (Nat.le_refl _) (.cells #[.int .i64 i0, .int .i64 i1] 52)
  have h1 := h.keep (w' := w.alloc (.cells #[.int .i64 i0, .int .i64 i1] 52)) (T' := Lt w.heap.size) (fun i hi => hba.block i hi) (fun _ h => h)
  have KF := Lib.hid (few_calls _ aa ga oa ac ls _ h1 hn ht)
  have HA := Lib.hid h1
  have HBA := Lib.hid hba
  have HBX := Lib.hid (blk_new w (.cells #[.int .i64 i0, .int .i64 i1] 52))
  have HSZ := Lib.hid (show w.heap.size < (w.alloc (.cells #[.int .i64 i0, .int .i64 i1] 52)).heap.size by simp)
  clear h h1 hn ht hba
  cases hf : fewA ls with
  | false =>
    rw [hf] at KF
    go_enter Try.func5, Try.ntmps5
    go_wp2_with (first | (go_at_call 6; refine KF.out.mono ?_; rintro e w' ⟨rfl, rfl⟩) | fail)
    go_ret
    exact ⟨rfl, HBA.out⟩
  | true =>
    rw [hf] at KF
    by_cases hm0 : most < 0
    · have d1 : decide (most < 0) = true := decide_eq_true hm0
      have KN := Lib.hid (new_no most (w.alloc (.cells #[.int .i64 i0, .int .i64 i1] 52)) (.inl hm0))
      have KW := Lib.hid (works_calls hS (w.alloc (.cells #[.int .i64 i0, .int .i64 i1] 52)))
      go_enter Try.func5, Try.ntmps5
      go_wp2_with (first | (go_at_call 6; refine KF.out.mono ?_; rintro e w' ⟨rfl, rfl⟩) | (go_at_call 7; refine KN.out.mono ?_; rintro e w' ⟨rfl, rfl⟩) | (go_at_call 11; refine KW.out.mono ?_; rintro e w3 ⟨rfl, hb3⟩; have HB3 := Lib.hid (HBA.out.trans (hb3.mono HBA.out.size)); clear hb3) | fail)
      go_ret
      exact ⟨rfl, HB3.out⟩
    · have d1 : decide (most < 0) = false := decide_eq_false hm0
      by_cases hm1 : 9007199254740992 < most
      · have d2 : decide (9007199254740992 < most) = true := decide_eq_true hm1
        have KN := Lib.hid (new_no most (w.alloc (.cells #[.int .i64 i0, .int .i64 i1] 52)) (.inr hm1))
        have KW := Lib.hid (works_calls hS (w.alloc (.cells #[.int .i64 i0, .int .i64 i1] 52)))
        go_enter Try.func5, Try.ntmps5
        go_wp2_with (first | (go_at_call 6; refine KF.out.mono ?_; rintro e w' ⟨rfl, rfl⟩) | (go_at_call 7; refine KN.out.mono ?_; rintro e w' ⟨rfl, rfl⟩) | (go_at_call 11; refine KW.out.mono ?_; rintro e w3 ⟨rfl, hb3⟩; have HB3 := Lib.hid (HBA.out.trans (hb3.mono HBA.out.size)); clear hb3) | fail)
        go_ret
        exact ⟨rfl, HB3.out⟩
      · have d2 : decide (9007199254740992 < most) = false := decide_eq_false hm1
        obtain ⟨h100, h400⟩ := few_len hf
        have KN := Lib.hid (new_yes most (w.alloc (.cells #[.int .i64 i0, .int .i64 i1] 52)) (by omega))
        have HL := Lib.hid h100
        have HM := Lib.hid (show 0 ≤ most ∧ most ≤ 9007199254740992 by omega)
        have HV := Lib.hid (fun (k : Nat) (hk : k < ls.length) => show ls[k].vec.length ≤ 700 by have := totA_mem (List.getElem_mem hk); omega)
        clear hf h100 h400
        go_enter Try.func5, Try.ntmps5
        go_wp2_with (first | (go_at_call 6; refine KF.out.mono ?_; rintro e w' ⟨rfl, rfl⟩) | (go_at_call 7; refine KN.out.mono ?_; rintro e w2 ⟨rfl, ht, hb⟩; have HO := Lib.hid (Ons.start ht hb); clear ht hb KN) | fail)
        clear KF d1 d2 hm0 hm1
        have HI := Lib.hid (show ∃ (b mo mf ma : Nat), b = (w.alloc (.cells #[.int .i64 i0, .int .i64 i1] 52)).heap.size + 3 ∧ Pst (w.alloc (.cells #[.int .i64 i0, .int .i64 i1] 52)) w2.heap.size b mo mf ma most 0 0 [] [] [] [] none 0 0 (w2.alloc (.cells #[.int .i64 most, .int .i64 0, .slice none 0 0] 54)) from ⟨_, _, _, _, rfl, Pst.start HO.out⟩)
        clear HO
        obtain ⟨b, mo, mf, ma, eb, ho⟩ := HI.out
        have HO := Lib.hid ho
        clear ho HI
        have eb2 : w.heap.size + 1 + 3 = b := by rw [eb]; simp
        rw [eb2]
        clear eb eb2
        generalize w.alloc (.cells #[.int .i64 i0, .int .i64 i1] 52) = w1 at *
        generalize w2.alloc (.cells #[.int .i64 most, .int .i64 0, .slice none 0 0] 54) = w3 at *
        generalize w2.heap.size = P at *
        go_loopg [9] ls.length (fun n i wr => ∃ (k : Nat) (last : Int) (lo : List (Int × Ox)) (lf la : List (Int × Nat)) (xs : List Ox) (fa : Option Addr) (g fc : Nat), k ≤ ls.length ∧ n = ls.length - k ∧ i = .int .i64 k ∧ Hid (0 ≤ last ∧ lo.length ≤ k ∧ xs.map (·.1) = lo.map (·.2.1) ∧ ∀ p ∈ lo, 1 ≤ p.2.1.frame ∧ 1 ≤ p.2.1.agent) ∧ Hid (Pst w1 P b mo mf ma most last last lo lf la xs fa g fc wr))
        case atStart => exact ⟨0, 0, [], [], [], [], none, 0, 0, by omega, rfl, rfl, Lib.hid ⟨Int.le_refl _, Nat.le_refl _, rfl, fun p hp => by simp at hp⟩, HO⟩
        case round =>
          obtain ⟨k, last, lo, lf, la, xs, fa, g, fc, hk, rfl, rfl, HZ, H⟩ := hrel
          clear HO
          have hxl : xs.length = lo.length := by have := congrArg List.length HZ.out.2.2.1; simpa using this
          have HXL := Lib.hid hxl
          by_cases hlt : k < ls.length
          · obtain ⟨rfl, hga⟩ := HA.out.lt (by omega)
            obtain ⟨va, vc, hat⟩ := HA.out.at' k hlt
            have hwb : Below w.heap.size w1 wr := H.out.o.b.mono (Nat.le_of_lt HSZ.out)
            have hat1 := hat.keep (hwb.block ga hga) (fun i hi => hwb.block i hi) (fun _ h => h)
            have HP1 : Hid (PAt (FreeP P b mo mf ma lf la wr) wr va ls[k].vec) := Lib.hid (hat1.vec.keep (fun _ _ => rfl) (fun i hi => ⟨Nat.lt_of_lt_of_le hi (Nat.le_trans (Nat.le_of_lt HSZ.out) H.out.o.b.size), fun ho => by have := H.out.o.own i ho; have := HSZ.out; have : i < w.heap.size := hi; omega, fun e => by have := H.out.leP; have := HSZ.out; have : i < w.heap.size := hi; omega⟩))
            have HP2 := Lib.hid hat.vec
            have HVK := Lib.hid (HV.out k hlt)
            have hki : (k : Int) < (ls.length : Int) := by omega
            have hk0 : (0 : Int) ≤ (k : Int) := by omega
            have hw : IntKind.i64.wrap ((k : Int) + 1) = (k : Int) + 1 := IntWalk.i64_in _ (by have := HL.out; omega)
            have HLT : Hid (k < ls.length) := Lib.hid hlt
            have HLO : Hid (lo.length ≤ 100) := Lib.hid (by have := HL.out; have := HZ.out.2.1; omega)
            have y0 := hat1.c0
            have y1 := hat1.c1
            have y2 := hat1.c2
            have y3 := hat1.c3
            have y4 := hat1.c4
            have y5 := hat1.c5
            clear hat hat1 hga hk hxl hwb
            generalize ls[k] = a at *
            obtain ⟨acl, aid, afr, aag, avec, atl⟩ := a
            simp only at y0 y1 y2 y3 y4 y5 HP1 HP2 HVK
            have hba := (Below.refl _ wr).alloc (Nat.le_refl _) (.cells #[.bool acl, .int .i64 aid, .int .i64 afr, .int .i64 aag, .slice va avec.length vc, .int .i64 atl] 28)
            have HN2 := Lib.hid (blk_new wr (.cells #[.bool acl, .int .i64 aid, .int .i64 afr, .int .i64 aag, .slice va avec.length vc, .int .i64 atl] 28))
            have HNO := Lib.hid (show ¬ Own b mo mf ma lf la wr.heap.size from fun ho => by have := H.out.o.t.own_lt _ ho; omega)
            have H2 := Lib.hid (H.out.below hba)
            have HP3 : Hid (PAt (FreeP P b mo mf ma lf la (wr.alloc (.cells #[.bool acl, .int .i64 aid, .int .i64 afr, .int .i64 aag, .slice va avec.length vc, .int .i64 atl] 28))) (wr.alloc (.cells #[.bool acl, .int .i64 aid, .int .i64 afr, .int .i64 aag, .slice va avec.length vc, .int .i64 atl] 28)) va avec) := Lib.hid (HP1.out.keep (fun i hi => hba.block i hi.1) (fun i hi => ⟨Nat.lt_of_lt_of_le hi.1 hba.size, hi.2⟩))
            have KA1 := Lib.hid (at_calls _ most last aid fa g fc xs _ (by have := HXL.out; have := HLO.out; omega) Pst.free_lt H2.out.row)
            rw [HZ.out.2.2.1] at KA1
            obtain ⟨m0, m1, m2, mf0, mf1, mf2⟩ := H2.out.cells
            have hn := blk_cell HN2.out
            have n0 := hn 0
            have n1 := hn 1
            have n2 := hn 2
            have n3 := hn 3
            have n4 := hn 4
            have n5 := hn 5
            clear hn hba H HP1
            cases hg : mget lo aid with
            | none =>
              rw [law_none H2.out.o.t hg] at KA1
              have HG := Lib.hid hg
              clear hg
              go_wp2_with fail
              refine KA1.out.mono ?_
              rintro e w4 ⟨rfl, hb4⟩
              have H4 := Lib.hid (H2.out.below hb4)
              have HN4 := Lib.hid ((hb4.block _ (blk_lt HN2.out)).trans HN2.out)
              have HP4 : Hid (PAt (FreeP P b mo mf ma lf la w4) w4 va avec) := Lib.hid (HP3.out.keep (fun i hi => hb4.block i hi.1) (fun i hi => ⟨Nat.lt_of_lt_of_le hi.1 hb4.size, hi.2⟩))
              clear hb4 H2 HN2 HP3 KA1 m0 m1 m2 mf0 mf1 mf2 n0 n1 n2 n3 n4 n5 y0 y1 y2 y3 y4 y5
              generalize wr.heap.size = N4 at *
              have n1 := blk_cell HN4.out 1
              have KG := Lib.hid (get_none0 aid w4 H4.out.o.t HG.out)
              go_wp2_with fail
              refine KG.out.mono ?_
              rintro e w5 ⟨rfl, hb5⟩
              have hba5 := (Below.refl _ w5).alloc (Nat.le_refl _) (.cells #[.int .i64 0, .int .i64 0, .int .i64 0, .slice none 0 0, .int .i64 0] 30)
              have hb6 := hb5.trans (hba5.mono hb5.size)
              have H6 := Lib.hid (H4.out.below hb6)
              have HN6 := Lib.hid ((hb6.block _ (blk_lt HN4.out)).trans HN4.out)
              have HB6 := Lib.hid (blk_new w5 (.cells #[.int .i64 0, .int .i64 0, .int .i64 0, .slice none 0 0, .int .i64 0] 30))
              have HP6 : Hid (PAt (FreeP P b mo mf ma lf la (w5.alloc (.cells #[.int .i64 0, .int .i64 0, .int .i64 0, .slice none 0 0, .int .i64 0] 30))) (w5.alloc (.cells #[.int .i64 0, .int .i64 0, .int .i64 0, .slice none 0 0, .int .i64 0] 30)) va avec) := Lib.hid (HP4.out.keep (fun i hi => hb6.block i hi.1) (fun i hi => ⟨Nat.lt_of_lt_of_le hi.1 hb6.size, hi.2⟩))
              clear hb5 hba5 hb6 H4 HN4 HP4 KG n1
              go_wp2_with fail
              generalize w5.alloc (.cells #[.int .i64 0, .int .i64 0, .int .i64 0, .slice none 0 0, .int .i64 0] 30) = w6 at *
              generalize w5.heap.size = N6 at *
              (refine wp_region_quietC (fun w' => w' = w6.drew) (by kernel_rfl) (by kernel_rfl) ?hc0 ?_
               case hc0 => (rfl)
               repeat ((first
                         | go_big_quiet_skip
                         | (refine wpQuiet_ex (by kernel_rfl) ?_
                            apply Exists.intro
                            refine ⟨fun w' hC => ?_, ?_⟩
                            · skip
                              (subst hC)
                              go_simp
                              first
                                | done
                                | (with_reducible rfl)
                                | (fail)
                            try simp only [Act.put, List.setIfInBounds_toArray, List.set_cons_zero, List.set_cons_succ])))
               refine wpQuiet_nil ?_
               intro w' hC)
              subst hC
              have hbd : Below w6.heap.size w6 w6.drew := below_drew (Below.refl _ w6)
              have H7 := Lib.hid (H6.out.below hbd)
              have HN7 := Lib.hid ((hbd.block _ (blk_lt HN6.out)).trans HN6.out)
              have HB7 := Lib.hid ((hbd.block _ (blk_lt HB6.out)).trans HB6.out)
              have HP7 : Hid (PAt (FreeP P b mo mf ma lf la w6.drew) w6.drew va avec) := Lib.hid (HP6.out.keep (fun i hi => hbd.block i hi.1) (fun i hi => hi))
              clear hbd H6 HN6 HB6 HP6
              generalize w6.drew = w7 at *
              cases acl with
              | true =>
                have n0 := blk_cell HN7.out 0
                have n1 := blk_cell HN7.out 1
                have KC := Lib.hid (close_none aid w7 H7.out.o.t HG.out)
                go_wp2_with fail
                refine KC.out.mono ?_
                rintro e w8 ⟨rfl, hb8⟩
                have hba8 := (Below.refl _ w8).alloc (Nat.le_refl _) (.cells #[.int .i64 0, .int .i64 0, .int .i64 0, .slice none 0 0, .int .i64 0] 30)
                have hb9 := hb8.trans (hba8.mono hb8.size)
                have H9 := Lib.hid (H7.out.below hb9)
                have HN9 := Lib.hid ((hb9.block _ (blk_lt HN7.out)).trans HN7.out)
                have HB9 := Lib.hid ((hb9.block _ (blk_lt HB7.out)).trans HB7.out)
                have HC9 := Lib.hid (blk_new w8 (.cells #[.int .i64 0, .int .i64 0, .int .i64 0, .slice none 0 0, .int .i64 0] 30))
                clear hb8 hba8 hb9 H7 HN7 HB7 HP7 KC n0 n1
                have s9 : (w8.alloc (.cells #[.int .i64 0, .int .i64 0, .int .i64 0, .slice none 0 0, .int .i64 0] 30)).heap.size = w8.heap.size + 1 := by simp
                have HD1 := Lib.hid (blk_new (w8.alloc (.cells #[.int .i64 0, .int .i64 0, .int .i64 0, .slice none 0 0, .int .i64 0] 30)) (.cells #[.int .i64 0, .int .i64 0, .int .i64 0, .slice none 0 0, .int .i64 0] 30))
                have HB10 := Lib.hid (blk_alloc (o' := (.cells #[.int .i64 0, .int .i64 0, .int .i64 0, .slice none 0 0, .int .i64 0] 30)) HB9.out)
                have HD2 := Lib.hid (blk_new ((w8.alloc (.cells #[.int .i64 0, .int .i64 0, .int .i64 0, .slice none 0 0, .int .i64 0] 30)).alloc (.cells #[.int .i64 0, .int .i64 0, .int .i64 0, .slice none 0 0, .int .i64 0] 30)) (.cells #[.int .i64 0, .int .i64 0, .int .i64 0, .slice none 0 0, .int .i64 0] 30))
                rw [s9] at HD1
                rw [show ((w8.alloc (.cells #[.int .i64 0, .int .i64 0, .int .i64 0, .slice none 0 0, .int .i64 0] 30)).alloc (.cells #[.int .i64 0, .int .i64 0, .int .i64 0, .slice none 0 0, .int .i64 0] 30)).heap.size = w8.heap.size + 1 + 1 by simp] at HD2
                have hba10 := ((Below.refl _ (w8.alloc (.cells #[.int .i64 0, .int .i64 0, .int .i64 0, .slice none 0 0, .int .i64 0] 30))).alloc (Nat.le_refl _) (.cells #[.int .i64 0, .int .i64 0, .int .i64 0, .slice none 0 0, .int .i64 0] 30)).alloc (by simp) (.cells #[.int .i64 0, .int .i64 0, .int .i64 0, .slice none 0 0, .int .i64 0] 30)
                have H10 := Lib.hid (H9.out.below hba10)
                have HN10 := Lib.hid ((hba10.block _ (blk_lt HN9.out)).trans HN9.out)
                have KV := Lib.hid (twoOne_calls (W := ((w8.alloc (.cells #[.int .i64 0, .int .i64 0, .int .i64 0, .slice none 0 0, .int .i64 0] 30)).alloc (.cells #[.int .i64 0, .int .i64 0, .int .i64 0, .slice none 0 0, .int .i64 0] 30)).alloc (.cells #[.int .i64 0, .int .i64 0, .int .i64 0, .slice none 0 0, .int .i64 0] 30)) (n1 := w8.heap.size + 1) (n2 := w8.heap.size + 1 + 1) (Of.zero, none, 0) (Of.zero, none, 0) rfl (by decide) (blk_alloc HD1.out) HD2.out (PAt.nil _ _ _) (PAt.nil _ _ _))
                have hc := blk_cell HC9.out
                have c0 := hc 0
                have c1 := hc 1
                have c2 := hc 2
                have c3 := hc 3
                have c4 := hc 4
                have hd := blk_cell HB10.out
                have d0 := hd 0
                have d1 := hd 1
                have d2 := hd 2
                have d3 := hd 3
                have d4 := hd 4
                clear hc hd hba10 s9
                go_wp2_with fail
                refine KV.out.mono ?_
                rintro e w11 ⟨rfl, hb11⟩
                have H11 := Lib.hid (H10.out.below hb11)
                have HN11 := Lib.hid ((hb11.block _ (blk_lt HN10.out)).trans HN10.out)
                clear hb11 H10 HN10 KV HD1 HD2 HB10 HC9 HB9 H9 HN9 c0 c1 c2 c3 c4 d0 d1 d2 d3 d4
                have HSH : Hid (shutF (lo.map (·.2.1)) aid = lo.map (·.2.1)) := Lib.hid (by rw [← law_close H11.out.o.t, mdel_none HG.out])
                have HPO := Lib.hid HZ.out.2.2.2
                have HLN := Lib.hid HZ.out.2.1
                (have KCL := Lib.hid (refClose_calls _ most last aid _ g fc xs _ (by have := HXL.out; have := HLO.out; omega) Pst.free_lt H11.out.row)
                 rw [HZ.out.2.2.1, HSH.out] at KCL
                 obtain ⟨m0, m1, m2, mf0, mf1, mf2⟩ := H11.out.cells
                 have n1 := blk_cell HN11.out 1
                 go_wp2_with fail
                 refine KCL.out.mono ?_
                 rintro e w12 ⟨sa, sn, sc, rfl, hma, hb12⟩
                 have H12 := Lib.hid (H11.out.below hb12)
                 have HYS := Lib.hid (H11.out.of_ans hma.out hb12)
                 clear hma hb12 m0 m1 m2 mf0 mf1 mf2 n1 KCL H11 HN11
                 obtain ⟨ys, fa', g', fc', hy1, hy2, hy3, hy4⟩ := HYS.out
                 injection hy2 with q1 q2 q3
                 subst q1 q2 q3
                 have HY1 := Lib.hid hy1
                 have HST := Lib.hid (H12.out.store (lm' := last) hy3 hy4)
                 obtain ⟨m0, m1, m2, mf0, mf1, mf2⟩ := H12.out.cells
                 clear hy1 hy3 hy4 HYS
                 go_wp2_with fail
                 go_roundg (ls.length - (k + 1))
                 case measure => have := HLT.out; omega
                 case rel => exact ⟨k + 1, last, _, _, _, ys, sa, g', sc, HLT.out, rfl, by go_num, Lib.hid ⟨HZ.out.1, Nat.le_succ_of_le HLN.out, HY1.out, HPO.out⟩, HST⟩)
              | false =>
                have n0 := blk_cell HN7.out 0
                (have KI := Lib.hid (refIssue_calls _ most last afr aag atl _ va g fc vc xs avec _ Pst.free_lt H7.out.row HP7.out HVK.out H7.out.cap (by have := HXL.out; have := HLO.out; omega) HM.out.2 HZ.out.1)
                 rw [HZ.out.2.2.1] at KI
                 obtain ⟨m0, m1, m2, mf0, mf1, mf2⟩ := H7.out.cells
                 have n2 := blk_cell HN7.out 2
                 have n3 := blk_cell HN7.out 3
                 have n4 := blk_cell HN7.out 4
                 have n5 := blk_cell HN7.out 5
                 go_wp2_with fail
                 refine KI.out.mono ?_
                 rintro e w8 ⟨sa, sn, sc, nn, ff, last1, A, rfl, hma, hb8, hr⟩
                 have hba8 := (Below.refl _ w8).alloc (Nat.le_refl _) (.cells #[.int .i64 most, .int .i64 last1, .slice sa sn sc] 54)
                 have H9 := Lib.hid ((H7.out.below hb8).below hba8)
                 have HE9 := Lib.hid (blk_new w8 (.cells #[.int .i64 most, .int .i64 last1, .slice sa sn sc] 54))
                 have HNE := Lib.hid (show ¬ Own b mo mf ma lf la w8.heap.size from fun ho => by have := (H7.out.below hb8).o.t.own_lt _ ho; omega)
                 have HN9 := Lib.hid (blk_alloc (o' := .cells #[.int .i64 most, .int .i64 last1, .slice sa sn sc] 54) ((hb8.block _ (blk_lt HN7.out)).trans HN7.out))
                 have HYS := Lib.hid (H7.out.of_ans hma.out hb8)
                 clear m0 m1 m2 mf0 mf1 mf2 n2 n3 n4 n5 KI hma
                 obtain ⟨ys, fa', g', fc', hy1, hy2, hy3, hy4⟩ := HYS.out
                 injection hy2 with q1 q2 q3
                 subst q1 q2 q3
                 have HY1 := Lib.hid hy1
                 have HY3 := Lib.hid hy3
                 have HY4 := Lib.hid (hy4.keep (w' := w8.alloc (.cells #[.int .i64 most, .int .i64 last1, .slice sa ys.length sc] 54)) (T' := FreeP P b mo mf ma lf la (w8.alloc (.cells #[.int .i64 most, .int .i64 last1, .slice sa ys.length sc] 54))) (fun i hi => hba8.block i hi.1) (fun i hi => ⟨Nat.lt_of_lt_of_le hi.1 hba8.size, hi.2⟩))
                 have HR := hr
                 have KJ := Lib.hid (issueRaw_calls (T := Lt w.heap.size) afr aag atl va vc avec H9.out (HP2.out.keep (fun i hi => H9.out.o.b.block i (Nat.lt_trans hi HSZ.out)) (fun _ h => h)) (fun i hi => Nat.lt_trans hi HSZ.out) HVK.out HM.out.2)
                 have n2 := blk_cell HN9.out 2
                 have n3 := blk_cell HN9.out 3
                 have n4 := blk_cell HN9.out 4
                 have n5 := blk_cell HN9.out 5
                 clear hy1 hy3 hy4 HYS hb8 hba8 hr H7 HN7 HP7
                 go_wp2_with fail
                 generalize w8.alloc (.cells #[.int .i64 most, .int .i64 last1, .slice sa ys.length sc] 54) = w9 at *
                 generalize w8.heap.size = E9 at *
                 refine KJ.out.mono ?_
                 rintro e w10 ⟨nn2, ff2, rfl, hraw⟩
                 have HALL := Lib.hid (H9.out.issue HZ.out.2.2.2 HVK.out HR.out hraw.out HY4.out)
                 obtain ⟨q1, q2, lo2, lf2, la2, hp2, hy4, hA, hpo, hln, hla, hkeep⟩ := HALL.out
                 subst q1 q2
                 have HE10 := Lib.hid ((hkeep E9 (blk_lt HE9.out) HNE.out).trans HE9.out)
                 have e0 := blk_cell HE10.out 0
                 have e1 := blk_cell HE10.out 1
                 have e2 := blk_cell HE10.out 2
                 have HST := Lib.hid (hp2.store (lm' := last1) HY3.out hy4)
                 have HQ : Hid (0 ≤ last1 ∧ lo2.length ≤ k + 1 ∧ ys.map (·.1) = lo2.map (·.2.1) ∧ ∀ p ∈ lo2, 1 ≤ p.2.1.frame ∧ 1 ≤ p.2.1.agent) := Lib.hid ⟨by have := HZ.out.1; omega, by have := HZ.out.2.1; omega, by rw [HY1.out, hA], hpo⟩
                 obtain ⟨m0, m1, m2, mf0, mf1, mf2⟩ := hp2.cells
                 clear HALL hp2 hy4 hA hpo hln hla hkeep hraw KJ HR HY1 HY3 HY4 HE9 HE10 HNE H9 HN9 n2 n3 n4 n5
                 go_wp2_with fail
                 go_roundg (ls.length - (k + 1))
                 case measure => have := HLT.out; omega
                 case rel => exact ⟨k + 1, last1, lo2, lf2, la2, ys, sa, g', sc, HLT.out, rfl, by go_num, HQ, HST⟩)
            | some x =>
              obtain ⟨jj, hjj, hlj, hatj⟩ := law_some H2.out.o.t hg
              rw [hatj] at KA1
              have hjx : jj < xs.length := by rw [HXL.out]; exact hjj
              have hxj : x.1 = xs[jj].1 := by
                have h9 := congrArg (fun l : List Of => l[jj]?) HZ.out.2.2.1
                simp only [List.getElem?_map, List.getElem?_eq_getElem hjx, List.getElem?_eq_getElem hjj, Option.map_some, hlj] at h9
                injection h9 with h9
                exact h9.symm
              have HXV := Lib.hid (H2.out.o.short _ (mget_some_mem hg))
              obtain ⟨rfl, hgr⟩ := H2.out.row.lt (by omega)
              have HG := Lib.hid hg
              have HJX : Hid (jj < xs.length) := Lib.hid hjx
              have HXJ : Hid (x.1 = (xs[jj]'hjx).1) := Lib.hid hxj
              clear hg hlj hatj hxj hgr hjj
              obtain ⟨⟨oid, ofr, oag, ovec, otl⟩, xva, xvc⟩ := x
              simp only at HXV HXJ
              go_wp2_with fail
              refine KA1.out.mono ?_
              rintro e w4 ⟨rfl, hb4⟩
              have H4 := Lib.hid (H2.out.below hb4)
              have HN4 := Lib.hid ((hb4.block _ (blk_lt HN2.out)).trans HN2.out)
              have HP4 : Hid (PAt (FreeP P b mo mf ma lf la w4) w4 va avec) := Lib.hid (HP3.out.keep (fun i hi => hb4.block i hi.1) (fun i hi => ⟨Nat.lt_of_lt_of_le hi.1 hb4.size, hi.2⟩))
              clear hb4 H2 HN2 HP3 KA1 m0 m1 m2 mf0 mf1 mf2 n0 n1 n2 n3 n4 n5 y0 y1 y2 y3 y4 y5
              generalize wr.heap.size = N4 at *
              have n1 := blk_cell HN4.out 1
              have KG : Hid (Calls Try.prog 15 #[.pointer (some ⟨b, 0, none⟩), .int .i64 aid] w4 fun e w' => ∃ va vc, e = .returned (.tuple #[.agg #[.int .i64 oid, .int .i64 ofr, .int .i64 oag, .slice va ovec.length vc, .int .i64 otl], .bool true]) ∧ PAt (New w4 w') w' va ovec ∧ Below w4.heap.size w4 w') := Lib.hid (get_some aid w4 H4.out.o.t _ HG.out HXV.out)
              go_wp2_with fail
              refine KG.out.mono ?_
              rintro e w5 ⟨va', vc', rfl, hp5, hb5⟩
              have hba5 := (Below.refl _ w5).alloc (Nat.le_refl _) (.cells #[.int .i64 oid, .int .i64 ofr, .int .i64 oag, .slice va' ovec.length vc', .int .i64 otl] 30)
              have hb6 := hb5.trans (hba5.mono hb5.size)
              have H6 := Lib.hid (H4.out.below hb6)
              have HN6 := Lib.hid ((hb6.block _ (blk_lt HN4.out)).trans HN4.out)
              have HB6 := Lib.hid (blk_new w5 (.cells #[.int .i64 oid, .int .i64 ofr, .int .i64 oag, .slice va' ovec.length vc', .int .i64 otl] 30))
              have HNB := Lib.hid (show ¬ Own b mo mf ma lf la w5.heap.size from fun ho => by have := (H4.out.below hb5).o.t.own_lt _ ho; omega)
              have HV6 : Hid (PAt (fun i => i < (w5.alloc (.cells #[.int .i64 oid, .int .i64 ofr, .int .i64 oag, .slice va' ovec.length vc', .int .i64 otl] 30)).heap.size ∧ ¬ Own b mo mf ma lf la i) (w5.alloc (.cells #[.int .i64 oid, .int .i64 ofr, .int .i64 oag, .slice va' ovec.length vc', .int .i64 otl] 30)) va' ovec) := Lib.hid (hp5.keep (fun i hi => hba5.block i hi.2) (fun i hi => ⟨Nat.lt_of_lt_of_le hi.2 hba5.size, fun ho => by have := H4.out.o.t.own_lt _ ho; have := hi.1; omega⟩))
              have HP6 : Hid (PAt (FreeP P b mo mf ma lf la (w5.alloc (.cells #[.int .i64 oid, .int .i64 ofr, .int .i64 oag, .slice va' ovec.length vc', .int .i64 otl] 30))) (w5.alloc (.cells #[.int .i64 oid, .int .i64 ofr, .int .i64 oag, .slice va' ovec.length vc', .int .i64 otl] 30)) va avec) := Lib.hid (HP4.out.keep (fun i hi => hb6.block i hi.1) (fun i hi => ⟨Nat.lt_of_lt_of_le hi.1 hb6.size, hi.2⟩))
              clear hb5 hba5 hb6 H4 HN4 HP4 KG n1 hp5
              have hjj0 : (0 : Int) ≤ (jj : Int) := by omega
              have hjw : IntKind.i64.wrap ((jj : Int) + 1) = (jj : Int) + 1 := IntWalk.i64_in _ (by have := HLO.out; have := HXL.out; omega)
              have hjc : (jj : Int) + 1 ≤ (fc : Int) := by have := H6.out.cap; omega
              have hjc2 : jj + 1 ≤ fc := by have := H6.out.cap; omega
              have hjd : (0 : Int) ≤ (jj : Int) + 1 := by omega
              have hje : (jj : Int) ≤ (jj : Int) + 1 := by omega
              have hjc3 : ¬ fc = jj := by omega
              have hjc4 : ¬ jj = fc := by omega
              go_wp2_with fail
              generalize w5.alloc (.cells #[.int .i64 oid, .int .i64 ofr, .int .i64 oag, .slice va' ovec.length vc', .int .i64 otl] 30) = w6 at *
              generalize w5.heap.size = N6 at *
              obtain ⟨m0, m1, m2, mf0, mf1, mf2⟩ := H6.out.cells
              have hb := blk_cell HB6.out
              have b0 := hb 0
              have b1 := hb 1
              have b2 := hb 2
              have b3 := hb 3
              have b4 := hb 4
              have KV := Lib.hid (fun W (hbW : Below w6.heap.size w6 W) (hx : W.heap[w6.heap.size]? = some (.cells (cellsO ((⟨oid, ofr, oag, ovec, otl⟩ : Of), va', vc')) 30 (0, 0))) => oneRow_calls (fd := fc - jj) ((⟨oid, ofr, oag, ovec, otl⟩ : Of), va', vc') HJX.out HXJ.out HXV.out hx (H6.out.row.keep (fun i hi => hbW.block i hi.1) (fun _ h => h)) (fun i hi => Nat.lt_of_lt_of_le hi.1 hbW.size) (HV6.out.keep (fun i hi => hbW.block i hi.1) (fun i hi => Nat.lt_of_lt_of_le hi.1 hbW.size)))
              have ne1 : ¬ N6 = w6.heap.size := by have := blk_lt HB6.out; omega
              have ne2 : ¬ w6.heap.size = N6 := by have := blk_lt HB6.out; omega
              have ne3 : ¬ P = w6.heap.size := by have := H6.out.lt; omega
              have ne4 : ¬ w6.heap.size = P := by have := H6.out.lt; omega
              clear hb
              go_region_held3 (fun w' => w'.cell? ⟨P, 2, none⟩ = some (.slice (some ⟨g, 0, none⟩) xs.length fc) ∧ w'.cell? ⟨N6, 0, none⟩ = some (.int .i64 oid) ∧ w'.cell? ⟨N6, 1, none⟩ = some (.int .i64 ofr) ∧ w'.cell? ⟨N6, 2, none⟩ = some (.int .i64 oag) ∧ w'.cell? ⟨N6, 3, none⟩ = some (.slice va' ovec.length vc') ∧ w'.cell? ⟨N6, 4, none⟩ = some (.int .i64 otl)) (go_keep)
                ((go_at_call 18; refine (KV.out _ (by exact below_drew ((Below.refl _ w6).alloc (Nat.le_refl _) _)) (by exact blk_drew (blk_new w6 _))).mono ?_; rintro e w13 ⟨rfl, hb13⟩; have hbb : Below w6.heap.size w6 w13 := (below_drew ((Below.refl _ w6).alloc (Nat.le_refl _) (.cells #[.int .i64 oid, .int .i64 ofr, .int .i64 oag, .slice va' ovec.length vc', .int .i64 otl] 30))).trans (hb13.mono (by show w6.heap.size ≤ (w6.alloc (.cells #[.int .i64 oid, .int .i64 ofr, .int .i64 oag, .slice va' ovec.length vc', .int .i64 otl] 30)).heap.size; simp)); have z0 := below_cell hbb (show P < _ from H6.out.lt) m2; have z1 := below_cell hbb (show N6 < _ from blk_lt HB6.out) b0; have z2 := below_cell hbb (show N6 < _ from blk_lt HB6.out) b1; have z3 := below_cell hbb (show N6 < _ from blk_lt HB6.out) b2; have z4 := below_cell hbb (show N6 < _ from blk_lt HB6.out) b3; have z5 := below_cell hbb (show N6 < _ from blk_lt HB6.out) b4))
              have H7 := Lib.hid (H6.out.below hbb)
              have HN7 := Lib.hid ((hbb.block _ (blk_lt HN6.out)).trans HN6.out)
              have HB7 := Lib.hid ((hbb.block _ (blk_lt HB6.out)).trans HB6.out)
              have HV7 : Hid (PAt (fun i => i < w13.heap.size ∧ ¬ Own b mo mf ma lf la i) w13 va' ovec) := Lib.hid (HV6.out.keep (fun i hi => hbb.block i hi.1) (fun i hi => ⟨Nat.lt_of_lt_of_le hi.1 hbb.size, hi.2⟩))
              have HP7 : Hid (PAt (FreeP P b mo mf ma lf la w13) w13 va avec) := Lib.hid (HP6.out.keep (fun i hi => hbb.block i hi.1) (fun i hi => ⟨Nat.lt_of_lt_of_le hi.1 hbb.size, hi.2⟩))
              clear hbb hb13 z0 z1 z2 z3 z4 z5 m0 m1 m2 mf0 mf1 mf2 b0 b1 b2 b3 b4 ne1 ne2 ne3 ne4 KV H6 HN6 HB6 HV6 HP6 hjj0 hjw hjc hjc2 hjd hje hjc3 hjc4
              cases acl with
              | true =>
                have n0 := blk_cell HN7.out 0
                have n1 := blk_cell HN7.out 1
                have KC := Lib.hid (closeP_calls aid H7.out ((⟨oid, ofr, oag, ovec, otl⟩ : Of), xva, xvc) HG.out HXV.out)
                have KC : Hid (Calls Try.prog 8 #[.pointer (some ⟨b, 0, none⟩), .int .i64 aid] w13 fun e W' => ∃ va vc, e = .returned (.tuple #[.agg #[.int .i64 oid, .int .i64 ofr, .int .i64 oag, .slice va ovec.length vc, .int .i64 otl], .bool true]) ∧ Hid (PAt (New w13 W') W' va ovec ∧ w13.heap.size ≤ W'.heap.size ∧ (∃ lf' la', Pst w1 P b mo mf ma most last last (mdel lo aid) lf' la' xs (some ⟨g, 0, none⟩) g fc W') ∧ ∀ E, E < w13.heap.size → ¬ Own b mo mf ma lf la E → W'.heap[E]? = w13.heap[E]?)) := KC
                go_wp2_with fail
                refine KC.out.mono ?_
                rintro e w8 ⟨va3, vc3, rfl, hcc⟩
                obtain ⟨hp8, hsz8, ⟨lf2, la2, h8⟩, hk8⟩ := hcc.out
                have hba8 := (Below.refl _ w8).alloc (Nat.le_refl _) (.cells #[.int .i64 oid, .int .i64 ofr, .int .i64 oag, .slice va3 ovec.length vc3, .int .i64 otl] 30)
                have hba9 := ((Below.refl _ (w8.alloc (.cells #[.int .i64 oid, .int .i64 ofr, .int .i64 oag, .slice va3 ovec.length vc3, .int .i64 otl] 30))).alloc (Nat.le_refl _) (.cells #[.int .i64 oid, .int .i64 ofr, .int .i64 oag, .slice va3 ovec.length vc3, .int .i64 otl] 30)).alloc (by simp) (.cells #[.int .i64 oid, .int .i64 ofr, .int .i64 oag, .slice va' ovec.length vc', .int .i64 otl] 30)
                have hba10 := hba8.trans (hba9.mono hba8.size)
                have H10 := Lib.hid (h8.below hba10)
                have hn8 := (hk8 N4 (blk_lt HN7.out) HNO.out).trans HN7.out
                have hb8 := (hk8 N6 (blk_lt HB7.out) HNB.out).trans HB7.out
                have HN10 := Lib.hid ((hba10.block _ (blk_lt hn8)).trans hn8)
                have HC9 := Lib.hid (blk_new w8 (.cells #[.int .i64 oid, .int .i64 ofr, .int .i64 oag, .slice va3 ovec.length vc3, .int .i64 otl] 30))
                have HD1 := Lib.hid (blk_new (w8.alloc (.cells #[.int .i64 oid, .int .i64 ofr, .int .i64 oag, .slice va3 ovec.length vc3, .int .i64 otl] 30)) (.cells #[.int .i64 oid, .int .i64 ofr, .int .i64 oag, .slice va3 ovec.length vc3, .int .i64 otl] 30))
                have HB10 := Lib.hid (blk_alloc (o' := (.cells #[.int .i64 oid, .int .i64 ofr, .int .i64 oag, .slice va3 ovec.length vc3, .int .i64 otl] 30)) (blk_alloc (o' := (.cells #[.int .i64 oid, .int .i64 ofr, .int .i64 oag, .slice va3 ovec.length vc3, .int .i64 otl] 30)) hb8))
                have HD2 := Lib.hid (blk_new ((w8.alloc (.cells #[.int .i64 oid, .int .i64 ofr, .int .i64 oag, .slice va3 ovec.length vc3, .int .i64 otl] 30)).alloc (.cells #[.int .i64 oid, .int .i64 ofr, .int .i64 oag, .slice va3 ovec.length vc3, .int .i64 otl] 30)) (.cells #[.int .i64 oid, .int .i64 ofr, .int .i64 oag, .slice va' ovec.length vc', .int .i64 otl] 30))
                rw [show (w8.alloc (.cells #[.int .i64 oid, .int .i64 ofr, .int .i64 oag, .slice va3 ovec.length vc3, .int .i64 otl] 30)).heap.size = w8.heap.size + 1 by simp] at HD1
                rw [show ((w8.alloc (.cells #[.int .i64 oid, .int .i64 ofr, .int .i64 oag, .slice va3 ovec.length vc3, .int .i64 otl] 30)).alloc (.cells #[.int .i64 oid, .int .i64 ofr, .int .i64 oag, .slice va3 ovec.length vc3, .int .i64 otl] 30)).heap.size = w8.heap.size + 1 + 1 by simp] at HD2
                have KV := Lib.hid (twoOne_calls (W := ((w8.alloc (.cells #[.int .i64 oid, .int .i64 ofr, .int .i64 oag, .slice va3 ovec.length vc3, .int .i64 otl] 30)).alloc (.cells #[.int .i64 oid, .int .i64 ofr, .int .i64 oag, .slice va3 ovec.length vc3, .int .i64 otl] 30)).alloc (.cells #[.int .i64 oid, .int .i64 ofr, .int .i64 oag, .slice va' ovec.length vc', .int .i64 otl] 30)) (n1 := w8.heap.size + 1) (n2 := w8.heap.size + 1 + 1) ((⟨oid, ofr, oag, ovec, otl⟩ : Of), va3, vc3) ((⟨oid, ofr, oag, ovec, otl⟩ : Of), va', vc') rfl HXV.out (blk_alloc HD1.out) HD2.out
                  (hp8.keep (fun i hi => hba10.block i hi.2) (fun i hi => Nat.lt_of_lt_of_le hi.2 hba10.size))
                  (HV7.out.keep (fun i hi => (hba10.block i (Nat.lt_of_lt_of_le hi.1 hsz8)).trans (hk8 i hi.1 hi.2)) (fun i hi => Nat.lt_of_lt_of_le (Nat.lt_of_lt_of_le hi.1 hsz8) hba10.size)))
                have hc := blk_cell HC9.out
                have c0 := hc 0
                have c1 := hc 1
                have c2 := hc 2
                have c3 := hc 3
                have c4 := hc 4
                have hd := blk_cell HB10.out
                have d0 := hd 0
                have d1 := hd 1
                have d2 := hd 2
                have d3 := hd 3
                have d4 := hd 4
                have HSH : Hid (shutF (lo.map (·.2.1)) aid = (mdel lo aid).map (·.2.1)) := Lib.hid (law_close H7.out.o.t aid).symm
                have HPO := Lib.hid (pos_del (id := aid) HZ.out.2.2.2)
                have HLN : Hid ((mdel lo aid).length ≤ k) := Lib.hid (Nat.le_trans (mdel_sub lo aid).length_le HZ.out.2.1)
                clear hc hd hba8 hba9 hba10 hn8 hb8 hp8 hsz8 h8 hk8 hcc KC H7 HN7 HB7 HV7 HP7 n0 n1
                go_wp2_with fail
                refine KV.out.mono ?_
                rintro e w11 ⟨rfl, hb11⟩
                have H11 := Lib.hid (H10.out.below hb11)
                have HN11 := Lib.hid ((hb11.block _ (blk_lt HN10.out)).trans HN10.out)
                clear hb11 H10 HN10 KV HD1 HD2 HB10 HC9 c0 c1 c2 c3 c4 d0 d1 d2 d3 d4
                (have KCL := Lib.hid (refClose_calls _ most last aid _ g fc xs _ (by have := HXL.out; have := HLO.out; omega) Pst.free_lt H11.out.row)
                 rw [HZ.out.2.2.1, HSH.out] at KCL
                 obtain ⟨m0, m1, m2, mf0, mf1, mf2⟩ := H11.out.cells
                 have n1 := blk_cell HN11.out 1
                 go_wp2_with fail
                 refine KCL.out.mono ?_
                 rintro e w12 ⟨sa, sn, sc, rfl, hma, hb12⟩
                 have H12 := Lib.hid (H11.out.below hb12)
                 have HYS := Lib.hid (H11.out.of_ans hma.out hb12)
                 clear hma hb12 m0 m1 m2 mf0 mf1 mf2 n1 KCL H11 HN11
                 obtain ⟨ys, fa', g', fc', hy1, hy2, hy3, hy4⟩ := HYS.out
                 injection hy2 with q1 q2 q3
                 subst q1 q2 q3
                 have HY1 := Lib.hid hy1
                 have HST := Lib.hid (H12.out.store (lm' := last) hy3 hy4)
                 obtain ⟨m0, m1, m2, mf0, mf1, mf2⟩ := H12.out.cells
                 clear hy1 hy3 hy4 HYS
                 go_wp2_with fail
                 go_roundg (ls.length - (k + 1))
                 case measure => have := HLT.out; omega
                 case rel => exact ⟨k + 1, last, _, _, _, ys, sa, g', sc, HLT.out, rfl, by go_num, Lib.hid ⟨HZ.out.1, Nat.le_succ_of_le HLN.out, HY1.out, HPO.out⟩, HST⟩)
              | false =>
                have n0 := blk_cell HN7.out 0
                (have KI := Lib.hid (refIssue_calls _ most last afr aag atl _ va g fc vc xs avec _ Pst.free_lt H7.out.row HP7.out HVK.out H7.out.cap (by have := HXL.out; have := HLO.out; omega) HM.out.2 HZ.out.1)
                 rw [HZ.out.2.2.1] at KI
                 obtain ⟨m0, m1, m2, mf0, mf1, mf2⟩ := H7.out.cells
                 have n2 := blk_cell HN7.out 2
                 have n3 := blk_cell HN7.out 3
                 have n4 := blk_cell HN7.out 4
                 have n5 := blk_cell HN7.out 5
                 go_wp2_with fail
                 refine KI.out.mono ?_
                 rintro e w8 ⟨sa, sn, sc, nn, ff, last1, A, rfl, hma, hb8, hr⟩
                 have hba8 := (Below.refl _ w8).alloc (Nat.le_refl _) (.cells #[.int .i64 most, .int .i64 last1, .slice sa sn sc] 54)
                 have H9 := Lib.hid ((H7.out.below hb8).below hba8)
                 have HE9 := Lib.hid (blk_new w8 (.cells #[.int .i64 most, .int .i64 last1, .slice sa sn sc] 54))
                 have HNE := Lib.hid (show ¬ Own b mo mf ma lf la w8.heap.size from fun ho => by have := (H7.out.below hb8).o.t.own_lt _ ho; omega)
                 have HN9 := Lib.hid (blk_alloc (o' := .cells #[.int .i64 most, .int .i64 last1, .slice sa sn sc] 54) ((hb8.block _ (blk_lt HN7.out)).trans HN7.out))
                 have HYS := Lib.hid (H7.out.of_ans hma.out hb8)
                 clear m0 m1 m2 mf0 mf1 mf2 n2 n3 n4 n5 KI hma
                 obtain ⟨ys, fa', g', fc', hy1, hy2, hy3, hy4⟩ := HYS.out
                 injection hy2 with q1 q2 q3
                 subst q1 q2 q3
                 have HY1 := Lib.hid hy1
                 have HY3 := Lib.hid hy3
                 have HY4 := Lib.hid (hy4.keep (w' := w8.alloc (.cells #[.int .i64 most, .int .i64 last1, .slice sa ys.length sc] 54)) (T' := FreeP P b mo mf ma lf la (w8.alloc (.cells #[.int .i64 most, .int .i64 last1, .slice sa ys.length sc] 54))) (fun i hi => hba8.block i hi.1) (fun i hi => ⟨Nat.lt_of_lt_of_le hi.1 hba8.size, hi.2⟩))
                 have HR := hr
                 have KJ := Lib.hid (issueRaw_calls (T := Lt w.heap.size) afr aag atl va vc avec H9.out (HP2.out.keep (fun i hi => H9.out.o.b.block i (Nat.lt_trans hi HSZ.out)) (fun _ h => h)) (fun i hi => Nat.lt_trans hi HSZ.out) HVK.out HM.out.2)
                 have n2 := blk_cell HN9.out 2
                 have n3 := blk_cell HN9.out 3
                 have n4 := blk_cell HN9.out 4
                 have n5 := blk_cell HN9.out 5
                 clear hy1 hy3 hy4 HYS hb8 hba8 hr H7 HN7 HP7
                 go_wp2_with fail
                 generalize w8.alloc (.cells #[.int .i64 most, .int .i64 last1, .slice sa ys.length sc] 54) = w9 at *
                 generalize w8.heap.size = E9 at *
                 refine KJ.out.mono ?_
                 rintro e w10 ⟨nn2, ff2, rfl, hraw⟩
                 have HALL := Lib.hid (H9.out.issue HZ.out.2.2.2 HVK.out HR.out hraw.out HY4.out)
                 obtain ⟨q1, q2, lo2, lf2, la2, hp2, hy4, hA, hpo, hln, hla, hkeep⟩ := HALL.out
                 subst q1 q2
                 have HE10 := Lib.hid ((hkeep E9 (blk_lt HE9.out) HNE.out).trans HE9.out)
                 have e0 := blk_cell HE10.out 0
                 have e1 := blk_cell HE10.out 1
                 have e2 := blk_cell HE10.out 2
                 have HST := Lib.hid (hp2.store (lm' := last1) HY3.out hy4)
                 have HQ : Hid (0 ≤ last1 ∧ lo2.length ≤ k + 1 ∧ ys.map (·.1) = lo2.map (·.2.1) ∧ ∀ p ∈ lo2, 1 ≤ p.2.1.frame ∧ 1 ≤ p.2.1.agent) := Lib.hid ⟨by have := HZ.out.1; omega, by have := HZ.out.2.1; omega, by rw [HY1.out, hA], hpo⟩
                 obtain ⟨m0, m1, m2, mf0, mf1, mf2⟩ := hp2.cells
                 clear HALL hp2 hy4 hA hpo hln hla hkeep hraw KJ HR HY1 HY3 HY4 HE9 HE10 HNE H9 HN9 n2 n3 n4 n5
                 go_wp2_with fail
                 go_roundg (ls.length - (k + 1))
                 case measure => have := HLT.out; omega
                 case rel => exact ⟨k + 1, last1, lo2, lf2, la2, ys, sa, g', sc, HLT.out, rfl, by go_num, HQ, HST⟩)
          · have hkz : True := trivial
            have hki : decide ((k : Int) < (ls.length : Int)) = false := decide_eq_false (by omega)
            have HLO : Hid (lo.length ≤ 100) := Lib.hid (by have := HL.out; have := HZ.out.2.1; omega)
            have HSIM := Lib.hid HZ.out.2.2.1
            have HPOS := Lib.hid HZ.out.2.2.2
            have KALL := Lib.hid (fun W (hb : Below wr.heap.size wr W) => (all_calls hS W (H.out.o.t.below hb) (by have := HLO.out; omega) H.out.o.short).mono fun e w' h => h.form)
            have KSAME := Lib.hid (fun W (ys : List Ox) (fb : Option Addr) (gb fcb : Nat) (hb : Below wr.heap.size wr W) (hy : ys.map (·.1) = lo.map (·.2.1) ∧ OAt (fun i => i < W.heap.size) W fb gb 0 ys) => same_calls (fun i => i < W.heap.size) fb fa gb 0 g 0 fcb fc ys xs W (by have h9 := congrArg List.length hy.1; have := HLO.out; simp at h9; omega) (fun y hym => by
              have h9 : y.1 ∈ lo.map (·.2.1) := by rw [← hy.1]; exact List.mem_map.2 ⟨y, hym, rfl⟩
              obtain ⟨q, hq, e⟩ := List.mem_map.1 h9
              rw [← e]
              exact H.out.o.short q hq) (fun _ h => h) (hy.1.trans HSIM.out.symm) hy.2 (H.out.row.keep (fun i hi => hb.block i hi.1) (fun i hi => Nat.lt_of_lt_of_le hi.1 hb.size)))
            have KLAST := Lib.hid (fun W (hb : Below wr.heap.size wr W) => last_calls W (H.out.o.t.below hb))
            have KWORKS := Lib.hid (fun W => works_calls hS W)
            have HCE : Hid (∀ W, Below wr.heap.size wr W → W.cell? ⟨P, 0, none⟩ = some (.int .i64 most) ∧ W.cell? ⟨P, 1, none⟩ = some (.int .i64 last) ∧ W.cell? ⟨P, 2, none⟩ = some (.slice fa xs.length fc) ∧ W.cell? ⟨w.heap.size, 0, none⟩ = some (.int .i64 i0) ∧ W.cell? ⟨w.heap.size, 1, none⟩ = some (.int .i64 i1)) := Lib.hid (fun W hb => by
              obtain ⟨h0, h1, h2, _⟩ := (H.out.below hb).cells
              have h3 := ((H.out.o.b.trans (hb.mono H.out.o.b.size)).block _ (blk_lt HBX.out)).trans HBX.out
              exact ⟨h0, h1, h2, blk_cell h3 0, blk_cell h3 1⟩)
            have HEND := Lib.hid (fun W (hb : Below wr.heap.size wr W) => HBA.out.trans ((H.out.o.b.trans (hb.mono H.out.o.b.size)).mono HBA.out.size))
            have HQ : Hid (Below wr.heap.size wr wr) := Lib.hid (Below.refl _ _)
            obtain ⟨x0, x1, x2, x3, x4⟩ := HCE.out wr HQ.out
            clear hkz hk hxl
            by_cases h0 : i0 = 0
            · have e0 : (i0 == 0) = true := by simpa using h0
              go_wp2_with fail
              first
                | (go_region_law (first
                    | (go_simp; go_at_call 12; refine (KALL.out _ (by exact HQ.out.trans (below_drew (Below.refl _ _)))).mono ?_; rintro e w4 ⟨ys, fb, gb, fcb, rfl, hy, hb4⟩; have hw4 : Below wr.heap.size wr w4 := HQ.out.trans ((below_drew (Below.refl _ _)).trans (hb4.mono HQ.out.size)); obtain ⟨z0, z1, z2, z3, z4⟩ := HCE.out w4 hw4)
                    | (go_simp; go_at_call 18; refine (KSAME.out _ _ _ _ _ (by exact hw4) (by exact hy.out)).mono ?_; rintro e w5 ⟨rfl, hb5⟩; have hw5 : Below wr.heap.size wr w5 := hw4.trans (hb5.mono hw4.size); obtain ⟨t0, t1, t2, t3, t4⟩ := HCE.out w5 hw5)
                    | (go_simp; go_at_call 10; refine (KLAST.out _ (by exact hw5)).mono ?_; rintro e w' ⟨rfl, rfl⟩)))
                | fail
              all_goals (
                have HQ5 := Lib.hid hw5
                clear x0 x1 x2 x3 x4 z0 z1 z2 z3 z4 t0 t1 t2 t3 t4 hw4 hw5 hb4 hb5 hy HQ
                (obtain ⟨x0, x1, x2, x3, x4⟩ := HCE.out _ HQ5.out
                 go_wp2_with fail
                 go_region_held3 (fun w' => w'.cell? ⟨P, 1, none⟩ = some (.int .i64 last) ∧ w'.cell? ⟨P, 2, none⟩ = some (.slice fa xs.length fc)) (go_keep)
                   (first
                     | (go_at_call 12; refine (KALL.out _ (by exact HQ5.out.trans (below_drew (Below.refl _ _)))).mono ?_; rintro e w6 ⟨ys6, fb6, gb6, fcb6, rfl, hy6, hb6⟩; have hw6 : Below wr.heap.size wr w6 := HQ5.out.trans ((below_drew (Below.refl _ _)).trans (hb6.mono HQ5.out.size)); obtain ⟨r6a, r6b, r6c, r6d, r6e⟩ := HCE.out w6 hw6)
                     | (go_at_call 18; refine (KSAME.out _ _ _ _ _ (by exact hw6) (by exact hy6.out)).mono ?_; rintro e w7 ⟨rfl, hb7⟩; have hw7 : Below wr.heap.size wr w7 := hw6.trans (hb7.mono hw6.size); obtain ⟨r7a, r7b, r7c, r7d, r7e⟩ := HCE.out w7 hw7)
                     | (go_at_call 10; refine (KLAST.out _ (by exact hw7)).mono ?_; rintro e w' ⟨rfl, rfl⟩)
                     | (go_at_call 11; refine (KWORKS.out _).mono ?_; rintro e w8 ⟨rfl, hb8⟩; have hw8 : Below wr.heap.size wr w8 := hw7.trans (hb8.mono hw7.size); obtain ⟨r8a, r8b, r8c, r8d, r8e⟩ := HCE.out w8 hw8))
                 go_wp2_with fail
                 go_ret
                 exact ⟨rfl, HEND.out _ hw8⟩))
            · have e0 : (i0 == 0) = false := by simpa using h0
              by_cases h1 : i1 = 0
              · have e1 : (i1 == 0) = true := by simpa using h1
                go_wp2_with fail
                go_region_held3 (fun w' => w'.cell? ⟨P, 1, none⟩ = some (.int .i64 last) ∧ w'.cell? ⟨P, 2, none⟩ = some (.slice fa xs.length fc) ∧ w'.cell? ⟨w.heap.size, 0, none⟩ = some (.int .i64 i0) ∧ w'.cell? ⟨w.heap.size, 1, none⟩ = some (.int .i64 i1)) (go_keep)
                  (first
                | (go_at_call 12; refine (KALL.out _ (by exact HQ.out.trans (below_drew (Below.refl _ _)))).mono ?_; rintro e w4 ⟨ys, fb, gb, fcb, rfl, hy, hb4⟩; have hw4 : Below wr.heap.size wr w4 := HQ.out.trans ((below_drew (Below.refl _ _)).trans (hb4.mono HQ.out.size)); obtain ⟨z0, z1, z2, z3, z4⟩ := HCE.out w4 hw4)
                | (go_at_call 18; refine (KSAME.out _ _ _ _ _ (by exact hw4) (by exact hy.out)).mono ?_; rintro e w5 ⟨rfl, hb5⟩; have hw5 : Below wr.heap.size wr w5 := hw4.trans (hb5.mono hw4.size); obtain ⟨t0, t1, t2, t3, t4⟩ := HCE.out w5 hw5)
                | (go_at_call 10; refine (KLAST.out _ (by exact hw5)).mono ?_; rintro e w' ⟨rfl, rfl⟩))
                have HQ5 := Lib.hid hw5
                clear x0 x1 x2 x3 x4 z0 z1 z2 z3 z4 t0 t1 t2 t3 t4 hw4 hw5 hb4 hb5 hy HQ
                (obtain ⟨x0, x1, x2, x3, x4⟩ := HCE.out _ HQ5.out
                 go_wp2_with fail
                 go_region_held3 (fun w' => w'.cell? ⟨P, 1, none⟩ = some (.int .i64 last) ∧ w'.cell? ⟨P, 2, none⟩ = some (.slice fa xs.length fc)) (go_keep)
                   (first
                     | (go_at_call 12; refine (KALL.out _ (by exact HQ5.out.trans (below_drew (Below.refl _ _)))).mono ?_; rintro e w6 ⟨ys6, fb6, gb6, fcb6, rfl, hy6, hb6⟩; have hw6 : Below wr.heap.size wr w6 := HQ5.out.trans ((below_drew (Below.refl _ _)).trans (hb6.mono HQ5.out.size)); obtain ⟨r6a, r6b, r6c, r6d, r6e⟩ := HCE.out w6 hw6)
                     | (go_at_call 18; refine (KSAME.out _ _ _ _ _ (by exact hw6) (by exact hy6.out)).mono ?_; rintro e w7 ⟨rfl, hb7⟩; have hw7 : Below wr.heap.size wr w7 := hw6.trans (hb7.mono hw6.size); obtain ⟨r7a, r7b, r7c, r7d, r7e⟩ := HCE.out w7 hw7)
                     | (go_at_call 10; refine (KLAST.out _ (by exact hw7)).mono ?_; rintro e w' ⟨rfl, rfl⟩)
                     | (go_at_call 11; refine (KWORKS.out _).mono ?_; rintro e w8 ⟨rfl, hb8⟩; have hw8 : Below wr.heap.size wr w8 := hw7.trans (hb8.mono hw7.size); obtain ⟨r8a, r8b, r8c, r8d, r8e⟩ := HCE.out w8 hw8))
                 go_wp2_with fail
                 go_ret
                 exact ⟨rfl, HEND.out _ hw8⟩)
              · have e1 : (i1 == 0) = false := by simpa using h1
                go_wp2_with fail
                go_region_held3 (fun w' => w'.cell? ⟨P, 1, none⟩ = some (.int .i64 last) ∧ w'.cell? ⟨P, 2, none⟩ = some (.slice fa xs.length fc) ∧ w'.cell? ⟨w.heap.size, 0, none⟩ = some (.int .i64 i0) ∧ w'.cell? ⟨w.heap.size, 1, none⟩ = some (.int .i64 i1)) (go_keep)
                  (first
                | (go_at_call 12; refine (KALL.out _ (by exact HQ.out.trans (below_drew (Below.refl _ _)))).mono ?_; rintro e w4 ⟨ys, fb, gb, fcb, rfl, hy, hb4⟩; have hw4 : Below wr.heap.size wr w4 := HQ.out.trans ((below_drew (Below.refl _ _)).trans (hb4.mono HQ.out.size)); obtain ⟨z0, z1, z2, z3, z4⟩ := HCE.out w4 hw4)
                | (go_at_call 18; refine (KSAME.out _ _ _ _ _ (by exact hw4) (by exact hy.out)).mono ?_; rintro e w5 ⟨rfl, hb5⟩; have hw5 : Below wr.heap.size wr w5 := hw4.trans (hb5.mono hw4.size); obtain ⟨t0, t1, t2, t3, t4⟩ := HCE.out w5 hw5)
                | (go_at_call 10; refine (KLAST.out _ (by exact hw5)).mono ?_; rintro e w' ⟨rfl, rfl⟩))
                have HQ5 := Lib.hid hw5
                clear x0 x1 x2 x3 x4 z0 z1 z2 z3 z4 t0 t1 t2 t3 t4 hw4 hw5 hb4 hb5 hy HQ
                obtain ⟨x0, x1, x2, x3, x4⟩ := HCE.out w5 HQ5.out
                have KOF := Lib.hid (fun W (hb : Below wr.heap.size wr W) => (of_calls2 hS i0 W (H.out.o.t.below hb) (by have := HLO.out; omega)).mono fun e w' h => h.nums)
                have KON := Lib.hid (fun W (hb : Below wr.heap.size wr W) => (on_calls hS i1 W (H.out.o.t.below hb) (by have := HLO.out; omega)).mono fun e w' h => h.nums)
                have hrow := fun W (hb : Below wr.heap.size wr W) => (H.out.row.keep (w' := W) (T' := fun i => i < W.heap.size) (fun i hi => hb.block i hi.1) (fun i hi => Nat.lt_of_lt_of_le hi.1 hb.size))
                have hxn : xs.length ≤ 900 := by have h9 := congrArg List.length HSIM.out; have := HLO.out; simp at h9; omega
                have hxv : ∀ x ∈ xs, x.1.vec.length ≤ 700 := fun x hx => by
                  have h9 : x.1 ∈ lo.map (·.2.1) := by rw [← HSIM.out]; exact List.mem_map.2 ⟨x, hx, rfl⟩
                  obtain ⟨q, hq, e⟩ := List.mem_map.1 h9
                  rw [← e]
                  exact H.out.o.short q hq
                have KRF := Lib.hid (fun W (hb : Below wr.heap.size wr W) => refOfIds_calls _ most last i0 0 fa g fc xs W hxn (fun _ h => h) (hrow W hb))
                have KRA := Lib.hid (fun W (hb : Below wr.heap.size wr W) => refOfIds_calls _ most last 0 i1 fa g fc xs W hxn (fun _ h => h) (hrow W hb))
                rw [HSIM.out, law_of HPOS.out H.out.o.t i0] at KRF
                rw [HSIM.out, law_on HPOS.out H.out.o.t i1] at KRA
                have KSUM := Lib.hid (fun W (hb : Below wr.heap.size wr W) => sum_calls hS i0 W (H.out.o.t.below hb) (by have := HLO.out; omega) H.out.o.short)
                have KRS := Lib.hid (fun W (hb : Below wr.heap.size wr W) => refSum_calls _ most last i0 fa g fc xs W hxn hxv (fun _ h => h) (hrow W hb))
                rw [law_sum H.out.o.t HSIM.out i0] at KRS
                have KIF := Lib.hid (fun W va vb vc vd (h1 : NAt W va (idsP (fun o => o.frame == i0) lo)) (h2 : NAt W vb (idsP (fun o => o.frame == i0) lo)) => sameIDs_calls va vb vc vd _ W (by have := idsP_len (lo := lo) (fun o => o.frame == i0); have := HLO.out; omega) h1 h2)
                have KIA := Lib.hid (fun W va vb vc vd (h1 : NAt W va (idsP (fun o => o.agent == i1) lo)) (h2 : NAt W vb (idsP (fun o => o.agent == i1) lo)) => sameIDs_calls va vb vc vd _ W (by have := idsP_len (lo := lo) (fun o => o.agent == i1); have := HLO.out; omega) h1 h2)
                have h50 : ∀ W, (Op.equalIn 10000 50 (.agg #[.int .i64 (sumAll ((idsP (fun o => o.frame == i0) lo).map (vecAt lo)) S4.zero).a, .int .i64 (sumAll ((idsP (fun o => o.frame == i0) lo).map (vecAt lo)) S4.zero).b, .int .i64 (sumAll ((idsP (fun o => o.frame == i0) lo).map (vecAt lo)) S4.zero).c, .int .i64 (sumAll ((idsP (fun o => o.frame == i0) lo).map (vecAt lo)) S4.zero).d]) (.agg #[.int .i64 (sumAll ((idsP (fun o => o.frame == i0) lo).map (vecAt lo)) S4.zero).a, .int .i64 (sumAll ((idsP (fun o => o.frame == i0) lo).map (vecAt lo)) S4.zero).b, .int .i64 (sumAll ((idsP (fun o => o.frame == i0) lo).map (vecAt lo)) S4.zero).c, .int .i64 (sumAll ((idsP (fun o => o.frame == i0) lo).map (vecAt lo)) S4.zero).d])).run Try.prog W = .ok true W := fun W => w50e _ _ _ _ 9998 W
                have g50 : Try.prog.eqGuardType Try.prog.depth 50 = false := by kernel_rfl
                clear hrow hxn hxv KALL KSAME KLAST
                generalize sumAll ((idsP (fun o => o.frame == i0) lo).map (vecAt lo)) S4.zero = sm at *
                generalize idsP (fun o => o.frame == i0) lo = idf at *
                generalize idsP (fun o => o.agent == i1) lo = ida at *
                go_wp2_with fail
                go_region_held3 (fun w' => w'.cell? ⟨P, 0, none⟩ = some (.int .i64 most) ∧ w'.cell? ⟨P, 1, none⟩ = some (.int .i64 last) ∧ w'.cell? ⟨P, 2, none⟩ = some (.slice fa xs.length fc) ∧ w'.cell? ⟨w.heap.size, 0, none⟩ = some (.int .i64 i0) ∧ w'.cell? ⟨w.heap.size, 1, none⟩ = some (.int .i64 i1)) (go_keep)
                  (first
                    | (go_at_call 13; refine (KOF.out _ (by exact HQ5.out.trans (below_drew (Below.refl _ _)))).mono ?_; rintro e w6 ⟨ff, fcf, rfl, hnf, hb6⟩; have hw6 : Below wr.heap.size wr w6 := HQ5.out.trans ((below_drew (Below.refl _ _)).trans (hb6.mono HQ5.out.size)); obtain ⟨r6a, r6b, r6c, r6d, r6e⟩ := HCE.out w6 hw6)
                    | (go_at_call 22; have _q := hw9; clear _q; refine (KRA.out _ (by exact hw9)).mono ?_; rintro e w10 ⟨fr3, frd, rfl, hns, hb10⟩; have hw10 : Below wr.heap.size wr w10 := hw9.trans (hb10.mono hw9.size); obtain ⟨r10a, r10b, r10c, r10d, r10e⟩ := HCE.out w10 hw10)
                    | (go_at_call 22; refine (KRF.out _ (by exact hw6)).mono ?_; rintro e w7 ⟨fr2, frc, rfl, hnr, hb7⟩; have hw7 : Below wr.heap.size wr w7 := hw6.trans (hb7.mono hw6.size); obtain ⟨r7a, r7b, r7c, r7d, r7e⟩ := HCE.out w7 hw7)
                    | (go_at_call 21; have _q := hw10; clear _q; refine (KIA.out _ _ _ _ _ (by exact hno.out.below hb10) (by exact hns.out)).mono ?_; rintro e w11 ⟨rfl, hb11⟩; have hw11 : Below wr.heap.size wr w11 := hw10.trans (hb11.mono hw10.size); obtain ⟨r11a, r11b, r11c, r11d, r11e⟩ := HCE.out w11 hw11)
                    | (go_at_call 21; refine (KIF.out _ _ _ _ _ (by exact hnf.out.below hb7) (by exact hnr.out)).mono ?_; rintro e w8 ⟨rfl, hb8⟩; have hw8 : Below wr.heap.size wr w8 := hw7.trans (hb8.mono hw7.size); obtain ⟨r8a, r8b, r8c, r8d, r8e⟩ := HCE.out w8 hw8)
                    | (go_at_call 14; refine (KON.out _ (by exact hw8)).mono ?_; rintro e w9 ⟨fo, fco, rfl, hno, hb9⟩; have hw9 : Below wr.heap.size wr w9 := hw8.trans (hb9.mono hw8.size); obtain ⟨r9a, r9b, r9c, r9d, r9e⟩ := HCE.out w9 hw9)
                    | (go_at_call 16; refine (KSUM.out _ (by exact hw11)).mono ?_; rintro e w12 ⟨rfl, hb12⟩; have hw12 : Below wr.heap.size wr w12 := hw11.trans (hb12.mono hw11.size); obtain ⟨r12a, r12b, r12c, r12d, r12e⟩ := HCE.out w12 hw12)
                    | (go_at_call 23; refine (KRS.out _ (by exact hw12)).mono ?_; rintro e w13 ⟨rfl, hb13⟩; have hw13 : Below wr.heap.size wr w13 := hw12.trans (hb13.mono hw12.size); obtain ⟨r13a, r13b, r13c, r13d, r13e⟩ := HCE.out w13 hw13)
                    | (go_at_call 11; refine (KWORKS.out _).mono ?_; rintro e w14 ⟨rfl, hb14⟩; have hw14 : Below wr.heap.size wr w14 := hw13.trans (hb14.mono hw13.size); obtain ⟨r14a, r14b, r14c, r14d, r14e⟩ := HCE.out w14 hw14))
                go_wp2_with fail
                go_ret
                exact ⟨rfl, HEND.out _ hw14⟩
end Go.Proofs.Ytecgfghmmlpghaa.O
