/- FramesRoles, walked. -/
import Derived.Test.YtdckcbahfdcafaaRolesLaw
import Derived.Test.YtdckcbahfdcafaaNobody
set_option linter.unusedVariables false
set_option linter.unusedSimpArgs false
namespace Go.Proofs.Ytdckcbahfdcafaa.F
open Go.RowKit Go.Sort Go.Proofs.Ytdckcbahfdcafaa.Hp Go.Proofs.Ytdckcbahfdcafaa.Mp
set_option maxRecDepth 100000

theorem row_cell {w : World} {base : Nat} {e : TypeId} {v : Value} {xs : List Int} (h : w.ownsRow base e 1 v xs.length (xs.map (Value.int .i64))) : ∃ (xa : Option Addr) (g c : Nat), v = .slice xa xs.length c ∧ (0 < xs.length → xa = some ⟨g, 0, none⟩ ∧ base ≤ g ∧ g < w.heap.size) ∧ ∀ j (hj : j < xs.length), w.cell? ⟨g, 0 + j, none⟩ = some (.int .i64 xs[j]) := by
  rcases h.2 with ⟨rfl, h0⟩ | ⟨g, cap, cur, rfl, hb, hbk, h1, h2, h3, h4⟩
  · exact ⟨none, 0, 0, by rw [h0], fun hh => by omega, fun j hj => by omega⟩
  · refine ⟨_, g, cap, rfl, fun _ => ⟨rfl, hb, blk_lt hbk⟩, fun j hj => ?_⟩
    rw [Nat.zero_add, blk_cell hbk j, ← Array.getElem?_toList]
    have : (cur.toList.take (xs.length * 1))[j]? = (xs.map (Value.int .i64))[j]? := by rw [h4]
    rw [Nat.mul_one, List.getElem?_take_of_lt hj] at this
    rw [this]
    simp [hj]

theorem below_drewN {B : Nat} {a w : World} (h : Below B a w) (q : Nat) : Below B a (w.drewN q) := ⟨h.os, h.tape, h.output, h.size, h.block⟩
theorem sumc_nonneg (l : List (Int × Fr)) : ∀ rs, 0 ≤ sumc l rs
  | [] => Int.le_refl _
  | r :: rs => by have := sumc_nonneg l rs; have := cnt_nonneg l r; simp only [sumc]; omega
theorem sumc_bound (l : List (Int × Fr)) (rs : List Int) (k : Nat) : sumc l (rs.take k) ≤ sumc l rs := by
  have := sumc_append l (rs.take k) (rs.drop k)
  rw [List.take_append_drop] at this
  have := sumc_nonneg l (rs.drop k)
  omega
theorem sumc_take (l : List (Int × Fr)) (rs : List Int) (k : Nat) (h : k < rs.length) : sumc l (rs.take (k + 1)) = sumc l (rs.take k) + cnt l rs[k] := by
  rw [List.take_add_one, List.getElem?_eq_getElem h, sumc_append]
  simp [sumc]
set_option maxHeartbeats 8000000 in
theorem roles_walk (hS : SortC) (hD : DelC) (cap : Int) (xa : Option Addr) (xb xo xl xc : Nat) (L : Nat → A) (w : World) (hx : Acts w xa xl xb xo L) :
    Calls Try.prog 5 #[.int .i64 cap, .slice xa xl xc] w fun e w' => e = .returned (.bool true) ∧ Below w.heap.size w w' := by
  by_cases hbig : 100 < (xl : Int)
  · clear hx
    go_enter Try.func5, Try.ntmps5
    go_wp2
    go_ret
    exact ⟨rfl, Below.refl _ _⟩
  have q0 : decide (100 < (xl : Int)) = false := decide_eq_false hbig
  by_cases hcap : cap < 1
  · clear hx hbig
    go_enter Try.func5, Try.ntmps5
    go_wp2
    go_ret
    exact ⟨rfl, Below.refl _ _⟩
  have q1 : decide (cap < 1) = false := decide_eq_false hcap
  have HX := Lib.hid hx
  have HS100 := Lib.hid (show xl ≤ 100 by omega)
  have HCAP := Lib.hid (show 1 ≤ cap by omega)
  have HSO := Lib.hid hS
  have HDE := Lib.hid hD
  clear hx hbig hcap hS hD
  go_enter Try.func5, Try.ntmps5
  go_wp2_with fail
  refine (new_yes cap _ HCAP.out).mono ?_
  rintro e w1 ⟨rfl, hT, hB⟩
  have HS := Lib.hid (⟨hT, Inv.start HCAP.out, by simp, hB⟩ : St w w1 cap 0 [] (List.replicate 33 (0, 0)))
  clear hT hB
  go_wp2_with fail
  go_loopg [6] xl (fun g i wr => ∃ (j : Nat) (l : List (Int × Fr)) (R : List (Int × Int)), j ≤ xl ∧ g = xl - j ∧ i = .int .i64 j ∧ Hid (St w wr cap j l R))
  case atStart => exact ⟨0, _, _, by omega, rfl, rfl, HS⟩
  case round =>
    obtain ⟨j, l, R, hj, rfl, rfl, H⟩ := hrel
    clear HS
    by_cases hlt : j < xl
    · obtain rfl := HX.out.1 (by omega)
      obtain ⟨hb, c0, c1, c2, c3, c4⟩ := HX.out.2 j hlt
      have d0 := below_cell H.out.chg (by exact hb) c0
      have d1 := below_cell H.out.chg (by exact hb) c1
      have d2 := below_cell H.out.chg (by exact hb) c2
      have d3 := below_cell H.out.chg (by exact hb) c3
      have d4 := below_cell H.out.chg (by exact hb) c4
      clear c0 c1 c2 c3 c4 hb
      have hlt' : (j : Int) < (xl : Int) := by omega
      have hj0 : (0 : Int) ≤ (j : Int) := by omega
      have hw : IntKind.i64.wrap ((j : Int) + 1) = (j : Int) + 1 := IntWalk.i64_in _ (by have := HS100.out; omega)
      have HD := Lib.hid (do_calls (L j) _ H.out.tab H.out.inv (by have := H.out.len; have := HS100.out; omega))
      unfold encA at HD
      go_wp2_with fail
      refine HD.out.mono ?_
      rintro e w2 ⟨rfl, e2, e3⟩
      have hI := do_inv H.out.inv (L j)
      have H2 := Lib.hid (⟨e2, hI.1, by have := hI.2; have := H.out.len; omega, H.out.chgd e3⟩ : St w w2 cap (j + 1) _ _)
      clear hI e2 e3 HD d0 d1 d2 d3 d4
      go_wp2
      go_roundg (xl - (j + 1))
      case measure => omega
      case rel => exact ⟨j + 1, _, _, by omega, rfl, by go_num, H2⟩
    · have hlt' : decide ((j : Int) < (xl : Int)) = false := decide_eq_false (by omega)
      have HT := Lib.hid H.out.tab
      have HI := Lib.hid H.out.inv
      have HB := Lib.hid H.out.chg
      have HL := Lib.hid (show l.length ≤ 900 by have := H.out.len; have := HS100.out; omega)
      clear H HX
      generalize w.heap.size + 1 = b at *
      generalize hm0 : w.heap.size = m at HT
      clear hm0
      have K1 := Lib.hid (roles_calls _ HT.out)
      go_wp2_with fail
      refine K1.out.mono ?_
      rintro e w2 ⟨v, rfl, hrow, hb2⟩
      obtain ⟨ra, rg, rc, rfl, hra, hrc⟩ := row_cell hrow
      have HR := Lib.hid (And.intro hra hrc)
      have HT2 := Lib.hid (HT.out.below hb2)
      have HB2 := Lib.hid (HB.out.trans (hb2.mono HB.out.size))
      have HRL := Lib.hid (rolesF_length R 32)
      have HRM := Lib.hid (roles_mem R 32)
      have HRP := Lib.hid (roles_lt R 32)
      have HSA := Lib.hid (sum_all HI.out)
      clear hrow hra hrc hb2 HT HB K1
      generalize rolesF R 32 = rs at *
      go_wp2_with fail
      go_loopg [7, 9] rs.length (fun g n i wr => ∃ (k : Nat), k ≤ rs.length ∧ g = rs.length - k ∧ i = .int .i64 k ∧ n = .int .i64 (sumc l (rs.take k)) ∧ Hid (Below w2.heap.size w2 wr))
      case atStart => exact ⟨0, by omega, rfl, rfl, by simp [sumc], Lib.hid (Below.refl _ _)⟩
      case round =>
        obtain ⟨k, hk, rfl, rfl, rfl, HBr⟩ := hrel
        have HTr := Lib.hid (HT2.out.below HBr.out)
        by_cases hlt : k < rs.length
        · have hrv : rs[k] ∈ rs := List.getElem_mem hlt
          obtain ⟨r, er, hr1, hr2, hr3⟩ := HRM.out _ hrv
          obtain ⟨hra1, hra2, hra3⟩ := HR.out.1 (by omega)
          subst hra1
          have c0 := below_cell HBr.out (show rg < w2.heap.size from hra3) (HR.out.2 k hlt)
          rw [er, Nat.zero_add] at c0
          have hltR : r < R.length := by rw [HI.out.len]; omega
          have hRr := List.getElem?_eq_getElem hltR
          rcases hp : R[r] with ⟨mr, wt⟩
          rw [hp] at hRr
          rw [hRr, Option.getD_some] at hr3
          have hmr : mr = cnt l r := HI.out.many r _ hRr
          have hne : l ≠ [] := fun e => by rw [e] at hmr; simp [cnt] at hmr; simp only at hr3; omega
          have K1 := Lib.hid (of_calls HSO.out HDE.out (r : Int) wr HTr.out HI.out.nodup HL.out hne)
          have hki : (k : Int) < (rs.length : Int) := by omega
          have hki0 : (0 : Int) ≤ (k : Int) := by omega
          have HE := Lib.hid (And.intro er (And.intro hr1 (And.intro hr2 (And.intro hRr (And.intro hr3 (And.intro hmr hra3))))))
          have HLT := Lib.hid hlt
          clear hrv er hr1 hr2 hr3 hltR hRr hp hmr hne hra2 hra3 hk
          go_wp2_with fail
          refine K1.out.mono ?_
          rintro e w3 ⟨v, ss, rfl, hp1, hp2, hrow, hb3⟩
          obtain ⟨oa, og, oc, rfl, hoa, hoc⟩ := row_cell hrow
          have HO := Lib.hid (And.intro hoa hoc)
          have HOL := Lib.hid (own_length HI.out.nodup hp1 (r : Int))
          have HOM := Lib.hid (fun x hx => own_mem hp1 (number := (r : Int)) (x := x) hx)
          have HT3 := Lib.hid (HTr.out.below hb3)
          have HB3 := Lib.hid (HBr.out.trans (hb3.mono HBr.out.size))
          have c1 := below_cell HB3.out (show rg < w2.heap.size from HE.out.2.2.2.2.2.2) (HR.out.2 k hlt)
          rw [HE.out.1, Nat.zero_add] at c1
          have hz : ((ownF l (r : Int) ss).length : Int) ≠ 0 := by
            rw [HOL.out, ← HE.out.2.2.2.2.2.1]; have := HE.out.2.2.2.2.1; omega
          generalize ownF l (r : Int) ss = own at *
          have hz' : ((own.length : Int) == 0) = false := by rw [beq_eq_false_iff_ne]; exact hz
          clear hp1 hp2 hrow hoa hoc hb3 K1 c0 HTr
          have K2 := Lib.hid (weight_calls r ⟨HE.out.2.1, HE.out.2.2.1⟩ mr wt w3 HT3.out HE.out.2.2.2.1 (by have := HE.out.2.2.2.2.1; omega))
          go_wp2_with fail
          refine K2.out.mono ?_
          rintro e w' ⟨rfl, rfl⟩
          go_wp2_with fail
          have hprev : decide (0 < k) = false ∨ decide (0 < k) = true ∧ ∃ (k' : Nat) (pv : Int), IntKind.i64.wrap ((k : Int) - 1) = (k' : Int) ∧ 0 ≤ (k' : Int) ∧ (k' : Int) < (rs.length : Int) ∧ w3.cell? ⟨rg, k', none⟩ = some (.int .i64 pv) ∧ decide ((r : Int) ≤ pv) = false := by
            have hkl := HLT.out
            have hrl := HRL.out
            rcases Nat.eq_zero_or_pos k with h0 | h0
            · exact .inl (decide_eq_false (by omega))
            · obtain ⟨k', rfl⟩ : ∃ k', k = k' + 1 := ⟨k - 1, by omega⟩
              have hk' : k' < rs.length := by omega
              refine .inr ⟨decide_eq_true (by omega), k', rs[k'], ?_, by omega, by omega, ?_, ?_⟩
              · rw [show (((k' + 1 : Nat) : Int) - 1) = (k' : Int) from by omega]
                exact IntWalk.i64_in _ (by omega)
              · have := below_cell HB3.out (show rg < w2.heap.size from HE.out.2.2.2.2.2.2) (HR.out.2 k' hk')
                rw [Nat.zero_add] at this
                exact this
              · have := List.pairwise_iff_getElem.1 HRP.out k' (k' + 1) hk' hkl (by omega)
                rw [HE.out.1] at this
                exact decide_eq_false (by omega)
          have HPV := Lib.hid hprev
          clear hprev
          rcases HPV.out with hq | ⟨hq, k', pv, hwk, hk0, hk1, ck, hpv⟩
          all_goals
            go_quiet (fail)
            clear HPV
            try clear hwk hk0 hk1 ck hpv
            clear hq
            have HT4 := Lib.hid (HT3.out.drewN nq)
            have HB4 := Lib.hid (below_drewN HB3.out nq)
            have HO4 : Hid ((0 < own.length → oa = some ⟨og, 0, none⟩ ∧ wr.heap.size ≤ og ∧ og < (w3.drewN nq).heap.size) ∧ ∀ j (hj : j < own.length), (w3.drewN nq).cell? ⟨og, 0 + j, none⟩ = some (.int .i64 own[j])) := HO
            have HC4 : Hid ((w3.drewN nq).cell? ⟨rg, k, none⟩ = some (.int .i64 (r : Int))) := Lib.hid c1
            have HSK := Lib.hid (sumc_take l rs k HLT.out)
            rw [HE.out.1, ← HOL.out] at HSK
            have hsb := sumc_bound l rs (k + 1)
            have hsb0 := sumc_nonneg l (rs.take k)
            have hwn : IntKind.i64.wrap (sumc l (rs.take k) + (own.length : Int)) = sumc l (rs.take (k + 1)) := by
              rw [HSK.out]
              rw [HSA.out, HSK.out] at hsb
              exact IntWalk.i64_in _ (by have := HL.out; omega)
            have hwk1 : IntKind.i64.wrap ((k : Int) + 1) = (k : Int) + 1 := IntWalk.i64_in _ (by have := HRL.out; have := HLT.out; omega)
            clear HT3 HB3 HO c1 K2 hsb hsb0 HSK
            generalize w3.drewN nq = wq at *
            go_wp2_with fail
            go_loopg [13] own.length (fun g i wx => ∃ (q : Nat), q ≤ own.length ∧ g = own.length - q ∧ i = .int .i64 q ∧ Hid (Below wq.heap.size wq wx))
            case atStart => exact ⟨0, by omega, rfl, rfl, Lib.hid (Below.refl _ _)⟩
            case round =>
              obtain ⟨q, hq, rfl, rfl, HBx⟩ := hrel
              by_cases hqlt : q < own.length
              · obtain ⟨ho1, ho2, ho3⟩ := HO4.out.1 (by omega)
                subst ho1
                have e0 := below_cell HBx.out (show og < wq.heap.size from ho3) (HO4.out.2 q hqlt)
                rw [Nat.zero_add] at e0
                have e1 := below_cell HBx.out (show rg < wq.heap.size from World.block_lt_of_cell? _ _ HC4.out) HC4.out
                obtain ⟨f, hf1, hf2⟩ := HOM.out own[q] (List.getElem_mem hqlt)
                have hgood := (HI.out.each _ f hf1).till
                have hwt := HI.out.weight _ f (mr, wt) hf1 (by rw [hf2, Int.toNat_natCast]; exact HE.out.2.2.2.1)
                have K3 := get_calls own[q] _ (HT4.out.below HBx.out)
                simp only [got, hf1, Option.getD_some, Option.isSome_some, encF_agg] at K3
                clear hf1
                generalize own[q] = x at *
                obtain ⟨fid, frole, fw, fu, fq, ft, fl⟩ := f
                simp only at hf2 hwt hgood K3
                subst hf2 hwt
                have K3 := Lib.hid K3
                have HQL := Lib.hid hqlt
                have E1 := Lib.hid e1
                have HG := Lib.hid hgood
                have hqi : (q : Int) < (own.length : Int) := by omega
                have hqi0 : (0 : Int) ≤ (q : Int) := by omega
                have hwq : IntKind.i64.wrap ((q : Int) + 1) = (q : Int) + 1 := IntWalk.i64_in _ (by have := HOL.out; have := cnt_le l (r : Int); have := HL.out; omega)
                clear ho2 ho3 hgood
                go_wp2_with fail
                refine K3.out.mono ?_
                rintro e w6 ⟨rfl, h6⟩
                have hb6 := h6.alloc h6.size (.cells #[.int .i64 fid, .int .i64 r, .int .i64 wt, .bool fu, .bool fq, .int .i64 ft, .int .i64 fl] 30)
                have e2 := below_cell hb6 (show rg < _ from World.block_lt_of_cell? _ _ E1.out) E1.out
                have HB6 := Lib.hid hb6
                obtain ⟨d0, d1, d2, d3, d4, d5, d6⟩ := cellF ⟨fid, r, wt, fu, fq, ft, fl⟩ (blk_new w6 (.cells #[.int .i64 fid, .int .i64 r, .int .i64 wt, .bool fu, .bool fq, .int .i64 ft, .int .i64 fl] 30))
                clear h6 hb6 K3 e0 e1
                cases fu with
                | false =>
                  go_wp2_with fail
                  go_quiet (fail)
                  go_wp2
                  go_roundg (own.length - (q + 1))
                  case measure => have := HQL.out; omega
                  case rel => exact ⟨q + 1, HQL.out, rfl, by go_num, Lib.hid (below_drewN (HBx.out.trans (HB6.out.mono HBx.out.size)) _)⟩
                | true =>
                  obtain rfl := HG.out rfl
                  go_wp2_with fail
                  go_quiet (fail)
                  go_wp2
                  go_roundg (own.length - (q + 1))
                  case measure => have := HQL.out; omega
                  case rel => exact ⟨q + 1, HQL.out, rfl, by go_num, Lib.hid (below_drewN (HBx.out.trans (HB6.out.mono HBx.out.size)) _)⟩
              · have hqi : decide ((q : Int) < (own.length : Int)) = false := decide_eq_false (by omega)
                go_wp2
                go_roundg (rs.length - (k + 1))
                case measure => have := HLT.out; omega
                case rel => exact ⟨k + 1, HLT.out, rfl, by go_num, by rw [← hwn], Lib.hid (HB4.out.trans (HBx.out.mono HB4.out.size))⟩
        · have hd : decide ((k : Int) < (rs.length : Int)) = false := decide_eq_false (by omega)
          have HN := Lib.hid (show sumc l (rs.take k) = l.length by rw [List.take_of_length_le (by omega)]; exact HSA.out)
          have HLe := Lib.hid (show (l.length : Int) ≤ cap from HI.out.cap)
          have hn1 : (sumc l (rs.take k) == (l.length : Int)) = true := by rw [HN.out]; exact beq_self_eq_true _
          have hn2 : decide (sumc l (rs.take k) ≤ cap) = true := decide_eq_true (by rw [HN.out]; exact HLe.out)
          have hz := zero62
          obtain ⟨Z, hZ⟩ : ∃ Z, Z = roleCells (List.replicate 33 (0, 0)) := ⟨_, rfl⟩
          rw [← hZ] at hz
          clear hZ
          have HP := Lib.hid (blk_new wr (.cells (.int .i64 0 :: .map none :: Z).toArray 62))
          have HBa := Lib.hid ((Below.refl wr.heap.size wr).alloc (Nat.le_refl _) (.cells (.int .i64 0 :: .map none :: Z).toArray 62))
          have HTa := Lib.hid (HTr.out.alloc (.cells (.int .i64 0 :: .map none :: Z).toArray 62))
          generalize sumc l (rs.take k) = N at *
          clear HN HSA
          go_wp2_with fail
          refine (sub_nil _ _ _ _ _).mono ?_
          rintro e w4 ⟨rfl, h4⟩
          have HT4 := Lib.hid (HTa.out.below h4)
          have HP4 := Lib.hid ((h4.block wr.heap.size (blk_lt HP.out)).trans HP.out)
          have HB4 := Lib.hid (HBa.out.trans (h4.mono HBa.out.size))
          clear HTa HP HBa h4 hz
          go_wp2_with fail
          refine (long_calls _ HT4.out).mono ?_
          rintro e w' ⟨rfl, rfl⟩
          go_wp2_with fail
          refine (disc_plain wr.heap.size 1 0 _ (blk_cell HP4.out 1) (blk_lt HP4.out)).mono ?_
          rintro e w5 ⟨rfl, h5⟩
          have HP5 := Lib.hid ((h5.block wr.heap.size (blk_lt HP4.out)).trans HP4.out)
          have HB5 := Lib.hid (HB4.out.trans (h5.mono HB4.out.size))
          clear HP4 HB4 h5
          go_wp2_with fail
          refine (drop_nil _ _).mono ?_
          rintro e w6 ⟨rfl, h6⟩
          have HP6 := Lib.hid ((h6.block wr.heap.size (blk_lt HP5.out)).trans HP5.out)
          have HB6 := Lib.hid (HB5.out.trans (h6.mono HB5.out.size))
          clear HP5 HB5 h6
          go_wp2_with fail
          refine (all_plain HSO.out wr.heap.size _ (blk_cell HP6.out 1)).mono ?_
          rintro e w' ⟨rfl, rfl⟩
          go_wp2_with fail
          refine (works_calls _).mono ?_
          rintro e w7 ⟨rfl, h7⟩
          have HB7 := Lib.hid (HB6.out.trans (h7.mono HB6.out.size))
          clear h7
          go_wp2
          go_ret
          refine ⟨rfl, ?_⟩
          exact HB2.out.trans ((HBr.out.trans (HB7.out.mono HBr.out.size)).mono HB2.out.size)
end Go.Proofs.Ytdckcbahfdcafaa.F
