/- Walks: OffersShared. -/
import Derived.Test.YtecgfghmmlpghaaShared0
import Derived.Test.YtecgfghmmlpghaaWorks
set_option linter.unusedVariables false
set_option linter.unusedSimpArgs false
namespace Go.Proofs.Ytecgfghmmlpghaa.O
open Go.RowKit Go.Proofs.Ytecgfghmmlpghaa.Hp Go.Proofs.Ytecgfghmmlpghaa.Mp
set_option maxRecDepth 100000
attribute [local irreducible] Go.wpQuiet
theorem w50z (d : Nat) (w : World) : (Op.equalIn (d + 2) 50 (.agg #[.int .i64 0, .int .i64 0, .int .i64 0, .int .i64 0]) (.agg #[.int .i64 0, .int .i64 0, .int .i64 0, .int .i64 0])).run Try.prog w = .ok true w := by
  kernel_rfl
set_option maxHeartbeats 4000000 in
theorem shared_walk (hS : SortC) (fa : Option Addr) (g o fc : Nat) (ls : List Ac) (w : World) (h : AAt (Lt w.heap.size) w fa g o ls) (hn : ls.length ≤ 4611686018427387903) (ht : ls.length ≤ 100 → totA ls ≤ 4611686018427387903) :
    Calls Try.prog 4 #[.slice fa ls.length fc] w fun e w' => e = .returned (.bool true) ∧ Below w.heap.size w w' := by
  have KF := Lib.hid (few_calls _ fa g o fc ls w h hn ht)
  have HA := Lib.hid h
  clear h hn ht
  cases hf : fewA ls with
  | false =>
    rw [hf] at KF
    go_enter Try.func4, Try.ntmps4
    go_wp2_with (first | (go_at_call 6; refine KF.out.mono ?_; rintro e w' ⟨rfl, rfl⟩) | fail)
    go_ret
    exact ⟨rfl, Below.refl _ _⟩
  | true =>
    rw [hf] at KF
    obtain ⟨h100, h400⟩ := few_len hf
    have KN := Lib.hid (new_yes 9007199254740992 w (by omega))
    have HL := Lib.hid h100
    have HV := Lib.hid (fun (k : Nat) (hk : k < ls.length) => show ls[k].vec.length ≤ 700 by have := totA_mem (List.getElem_mem hk); omega)
    clear hf h100 h400
    go_enter Try.func4, Try.ntmps4
    go_wp2_with (first | (go_at_call 6; refine KF.out.mono ?_; rintro e w' ⟨rfl, rfl⟩) | (go_at_call 7; refine KN.out.mono ?_; rintro e w1 ⟨rfl, ht, hb⟩; have HO := Lib.hid (Ons.start ht hb); clear ht hb KN) | fail)
    clear KF
    have HI := Lib.hid (show ∃ (b mo mf ma : Nat), b = w.heap.size + 3 ∧ Ons w b mo mf ma 9007199254740992 0 [] [] [] w1 from ⟨_, _, _, _, rfl, HO.out⟩)
    clear HO
    obtain ⟨b, mo, mf, ma, eb, ho⟩ := HI.out
    have HO := Lib.hid ho
    rw [← eb]
    clear ho eb HI
    go_loopg [4] ls.length (fun n i wr => ∃ (k : Nat) (last : Int) (lo : List (Int × Ox)) (lf la : List (Int × Nat)), k ≤ ls.length ∧ n = ls.length - k ∧ i = .int .i64 k ∧ Hid (lo.length ≤ k) ∧ Hid (Ons w b mo mf ma 9007199254740992 last lo lf la wr))
    case atStart => exact ⟨0, 0, [], [], [], by omega, rfl, rfl, Lib.hid (Nat.le_refl _), HO⟩
    case round =>
      obtain ⟨k, last, lo, lf, la, hk, rfl, rfl, HLN, HW⟩ := hrel
      clear HO
      by_cases hlt : k < ls.length
      · obtain ⟨rfl, hg⟩ := HA.out.lt (by omega)
        obtain ⟨va, vc, hat⟩ := HA.out.at' k hlt
        have HG := Lib.hid hg
        have HAT := Lib.hid hat
        have hat1 := hat.keep (HW.out.b.block g hg) (fun i hi => HW.out.b.block i hi) (fun _ h => h)
        have HP1 := Lib.hid hat1.vec
        have HVK := Lib.hid (HV.out k hlt)
        have hki : (k : Int) < (ls.length : Int) := by omega
        have hk0 : (0 : Int) ≤ (k : Int) := by omega
        have hw : IntKind.i64.wrap ((k : Int) + 1) = (k : Int) + 1 := IntWalk.i64_in _ (by have := HL.out; omega)
        have HLT := Lib.hid hlt
        have y0 := hat1.c0
        have y1 := hat1.c1
        have y2 := hat1.c2
        have y3 := hat1.c3
        have y4 := hat1.c4
        have y5 := hat1.c5
        clear hat hat1 hg hk
        generalize ls[k] = a at *
        cases hcl : a.close with
        | true =>
          rw [hcl] at y0
          have KC := Lib.hid (closeAny_calls a.id HW.out)
          go_wp2_with (first | (go_at_call 8; refine KC.out.mono ?_; rintro e w2 ⟨v, lf', la', rfl, ho⟩; have HW2 := Lib.hid ho; clear ho) | fail)
          go_roundg (ls.length - (k + 1))
          case measure => have := HLT.out; omega
          case rel => exact ⟨k + 1, last, _, _, _, HLT.out, rfl, by go_num, Lib.hid (by have := (mdel_sub lo a.id).length_le; have := HLN.out; omega), HW2⟩
        | false =>
          rw [hcl] at y0
          have KI := Lib.hid (fun W' (hb : Below wr.heap.size wr W') => issueAny_calls a.frame a.agent a.till va vc a.vec (HW.out.below hb) (HP1.out.keep (T' := Lt w.heap.size) (fun i hi => hb.block i (Nat.lt_of_lt_of_le hi HW.out.b.size)) (fun _ h => h)) (fun _ h => h) HVK.out (by omega))
          go_wp2_with fail
          go_region_held3 (fun w' => w'.cell? ⟨g, o + k * 6 + 2, none⟩ = some (.int .i64 a.frame) ∧ w'.cell? ⟨g, o + k * 6 + 3, none⟩ = some (.int .i64 a.agent) ∧ w'.cell? ⟨g, o + k * 6 + 4, none⟩ = some (.slice va a.vec.length vc) ∧ w'.cell? ⟨g, o + k * 6 + 5, none⟩ = some (.int .i64 a.till)) (go_keep)
            ((go_at_call 9; refine (KI.out _ (by exact below_drew (Below.refl _ _))).mono ?_; rintro e w2 ⟨n, f, rfl, hb2, HQ⟩; have hat2 := HAT.out.keep (hb2.block g HG.out) (fun i hi => hb2.block i hi) (fun _ h => h); have z2 := hat2.c2; have z3 := hat2.c3; have z4 := hat2.c4; have z5 := hat2.c5; clear hat2))
          clear y0 y1 y2 y3 y4 y5 z2 z3 z4 z5 hb2 KI
          have HE : Hid (∃ last' lo' lf' la', lo'.length ≤ k + 1 ∧ Ons w b mo mf ma 9007199254740992 last' lo' lf' la' w2) := Lib.hid (by
            rcases HQ.out with ⟨rfl, rfl, _, hlm, va', lf', la', ho⟩ | ⟨rfl, hff, ho⟩
            · exact ⟨_, _, _, _, by rw [List.length_append]; simpa using HLN.out, ho⟩
            · exact ⟨_, _, _, _, Nat.le_succ_of_le HLN.out, ho⟩)
          clear HQ HW HLN
          obtain ⟨last', lo', lf', la', hln, ho⟩ := HE.out
          have HLN2 := Lib.hid hln
          have HW2 := Lib.hid ho
          clear hln ho HE
          go_wp2_with fail
          go_roundg (ls.length - (k + 1))
          case measure => have := HLT.out; omega
          case rel => exact ⟨k + 1, _, _, _, _, HLT.out, rfl, by go_num, HLN2, HW2⟩
      · have hki : decide ((k : Int) < (ls.length : Int)) = false := decide_eq_false (by omega)
        have HLO : Hid (lo.length ≤ 100) := Lib.hid (by have := HL.out; have := HLN.out; omega)
        have KA := Lib.hid (all_calls hS wr HW.out.t (by have := HLO.out; omega) HW.out.short)
        clear hk HLN HA HL HV
        go_wp2_with fail
        refine KA.out.mono ?_
        rintro e wA ⟨vA, xs, rfl, hxs, hor, hbA⟩
        obtain ⟨xa, gx, xc, rfl, hoat⟩ := hor.form
        have HX := Lib.hid (hoat.keep (T' := fun i => i < wA.heap.size) (fun _ _ => rfl) (fun i hi => hi.2))
        have HXS := Lib.hid hxs
        have HW2 := Lib.hid (HW.out.below hbA)
        clear hxs hor hbA hoat KA HW
        go_wp2_with fail
        go_loopg [6] xs.length (fun n i wr => ∃ (j : Nat), j ≤ xs.length ∧ n = xs.length - j ∧ i = .int .i64 j ∧ Hid (Below wA.heap.size wA wr))
        case atStart => exact ⟨0, by omega, rfl, rfl, Lib.hid (Below.refl _ _)⟩
        case round =>
          obtain ⟨j, hj, rfl, rfl, HB⟩ := hrel
          have hxl : xs.length = lo.length := by have := congrArg List.length HXS.out; simpa using this
          have HXL := Lib.hid hxl
          by_cases hltj : j < xs.length
          · obtain ⟨rfl, hgx⟩ := HX.out.lt (by omega)
            have hjl : j < lo.length := by omega
            have hxj : xs[j].1 = lo[j].2.1 := by
              have := congrArg (fun l : List Of => l[j]?) HXS.out
              simpa [List.getElem?_map, List.getElem?_eq_getElem hltj, List.getElem?_eq_getElem hjl] using this
            have hid : lo[j].1 = xs[j].1.id := by rw [hxj]; exact (HW2.out.t.ids _ (List.getElem_mem hjl)).1.symm
            have HGX := Lib.hid hgx
            have HCF := Lib.hid (idsP_count HW2.out.t (p := fun o => o.frame == xs[j].1.frame) hjl (by rw [hxj]; simp))
            have HCA := Lib.hid (idsP_count HW2.out.t (p := fun o => o.agent == xs[j].1.agent) hjl (by rw [hxj]; simp))
            rw [hid] at HCF HCA
            have HRA := Lib.hid (idsP_rise (lo := lo) (fun o => o.agent == xs[j].1.agent) HW2.out.t.rise)
            have HGA := Lib.hid (fun (k : Nat) (hk : k < (idsP (fun o => o.agent == xs[j].1.agent) lo).length) => idsP_got HW2.out.t hk)
            have HLF := Lib.hid (show (idsP (fun o => o.frame == xs[j].1.frame) lo).length ≤ 100 from Nat.le_trans (idsP_len _) HLO.out)
            have HLA := Lib.hid (show (idsP (fun o => o.agent == xs[j].1.agent) lo).length ≤ 100 from Nat.le_trans (idsP_len _) HLO.out)
            have KF := Lib.hid (fun W (hb : Below wA.heap.size wA W) => (of_calls2 hS xs[j].1.frame W (HW2.out.t.below hb) (by have := HLO.out; omega)).mono fun e w' h => h.nums)
            have KO := Lib.hid (fun W (hb : Below wA.heap.size wA W) => (on_calls hS xs[j].1.agent W (HW2.out.t.below hb) (by have := HLO.out; omega)).mono fun e w' h => h.nums)
            have HC := Lib.hid (fun W (hb : Below wA.heap.size wA W) => by simpa only [Nat.zero_add] using (HX.out.keep (w' := W) (T' := fun i => i < wA.heap.size) (fun i hi => hb.block i hi) (fun _ h => h)).cells hltj)
            obtain ⟨y0, y1, y2, y3, y4⟩ := HC.out wr HB.out
            have hki : (j : Int) < (xs.length : Int) := by omega
            have hk0 : (0 : Int) ≤ (j : Int) := by omega
            have hw : IntKind.i64.wrap ((j : Int) + 1) = (j : Int) + 1 := IntWalk.i64_in _ (by have := HLO.out; omega)
            have HLTJ := Lib.hid hltj
            clear hjl hxj hid hj hgx hxl
            generalize xs[j] = x at *
            generalize idsP (fun o => o.frame == x.1.frame) lo = idf at *
            generalize idsP (fun o => o.agent == x.1.agent) lo = ida at *
            go_wp2_with fail
            go_region_held3 (fun w' => w'.cell? ⟨gx, j * 5 + 1, none⟩ = some (.int .i64 x.1.frame) ∧ w'.cell? ⟨gx, j * 5 + 2, none⟩ = some (.int .i64 x.1.agent)) (go_keep)
              (first
                | (go_at_call 13; refine (KF.out _ (by exact below_drew HB.out)).mono ?_; rintro e w3 ⟨ff, fcf, rfl, HN3, hb3⟩; have HB3 := Lib.hid ((below_drew HB.out).trans (hb3.mono HB.out.size)); obtain ⟨z0, z1, z2, z3, z4⟩ := HC.out w3 HB3.out)
                | (go_at_call 14; refine (KO.out _ (by exact HB3.out)).mono ?_; rintro e w4 ⟨fo, fco, rfl, HN4, hb4⟩; have HB4 := Lib.hid (HB3.out.trans (hb4.mono HB3.out.size)); obtain ⟨t0, t1, t2, t3, t4⟩ := HC.out w4 HB4.out))
            have HNF := Lib.hid (HN3.out.below hb4)
            have HNO := HN4
            clear y0 y1 y2 y3 y4 z0 z1 z2 z3 z4 t0 t1 t2 t3 t4 HN3 hb3 hb4 HB3 HB KF KO
            go_wp2_with fail
            go_loopg [7, 11] idf.length (fun n a i wr => ∃ (k : Nat), k ≤ idf.length ∧ n = idf.length - k ∧ a = .int .i64 ((idf.take k).count x.1.id : Nat) ∧ i = .int .i64 k ∧ Hid (Below w4.heap.size w4 wr))
            case atStart => exact ⟨0, by omega, rfl, rfl, rfl, Lib.hid (Below.refl _ _)⟩
            case round =>
              obtain ⟨k, hk, rfl, rfl, rfl, HB5⟩ := hrel
              by_cases hlt2 : k < idf.length
              · obtain ⟨gf, rfl, hgf, y⟩ := (HNF.out.below HB5.out) k hlt2
                obtain ⟨y0, y1, y2, y3, y4⟩ := HC.out _ (HB4.out.trans (HB5.out.mono HB4.out.size))
                have hct := count_take (a := x.1.id) hlt2
                have hcl := List.count_le_length (a := x.1.id) (l := idf.take k)
                rw [List.length_take] at hcl
                have hkk : (k : Int) < (idf.length : Int) := by omega
                have hkk0 : (0 : Int) ≤ (k : Int) := by omega
                have hw1 : IntKind.i64.wrap ((k : Int) + 1) = (k : Int) + 1 := IntWalk.i64_in _ (by have := HLF.out; omega)
                have hw2 : IntKind.i64.wrap (((idf.take k).count x.1.id : Nat) + 1 : Int) = ((idf.take k).count x.1.id : Nat) + 1 := IntWalk.i64_in _ (by have := HLF.out; omega)
                have HLT2 := Lib.hid hlt2
                have HCT := Lib.hid hct
                by_cases he : idf[k]'hlt2 = x.1.id
                · have y9 : wr.cell? ⟨gf, k, none⟩ = some (.int .i64 x.1.id) := by rw [← he]; exact y
                  clear y
                  rw [if_pos he] at HCT
                  have e1 : (x.1.id == x.1.id) = true := by simp
                  clear he hct hcl hk hgf
                  go_wp2_with fail
                  (refine wp_region_quietC (fun w' => w' = wr.drew) (by kernel_rfl) (by kernel_rfl) ?hc0 ?_
                   case hc0 => (rfl)
                   repeat ((first
                             | go_big_quiet_skip
                             | (refine wpQuiet_ex (by kernel_rfl) ?_
                                apply Exists.intro
                                refine ⟨fun w' hC => ?_, ?_⟩
                                · skip
                                  (subst hC)
                                  go_simp
                                  first
                                    | done
                                    | (with_reducible rfl)
                                    | (fail)
                                try simp only [Act.put, List.setIfInBounds_toArray, List.set_cons_zero, List.set_cons_succ])))
                   refine wpQuiet_nil ?_
                   intro w' hC)
                  subst hC
                  go_wp2_with fail
                  go_roundg (idf.length - (k + 1))
                  case measure => have := HLT2.out; omega
                  case rel => exact ⟨k + 1, HLT2.out, rfl, by rw [HCT.out]; go_num, by go_num, Lib.hid (below_drew HB5.out)⟩
                · have e1 : (idf[k]'hlt2 == x.1.id) = false := by simpa using he
                  have e2 : decide (idf[k]'hlt2 = x.1.id) = false := decide_eq_false he
                  rw [if_neg he] at HCT
                  clear hct hcl hk hgf
                  go_wp2_with fail
                  (refine wp_region_quietC (fun w' => w' = wr.drew) (by kernel_rfl) (by kernel_rfl) ?hc0 ?_
                   case hc0 => (rfl)
                   repeat ((first
                             | go_big_quiet_skip
                             | (refine wpQuiet_ex (by kernel_rfl) ?_
                                apply Exists.intro
                                refine ⟨fun w' hC => ?_, ?_⟩
                                · skip
                                  (subst hC)
                                  go_simp
                                  first
                                    | done
                                    | (with_reducible rfl)
                                    | (fail)
                                try simp only [Act.put, List.setIfInBounds_toArray, List.set_cons_zero, List.set_cons_succ])))
                   refine wpQuiet_nil ?_
                   intro w' hC)
                  subst hC
                  go_wp2_with fail
                  go_roundg (idf.length - (k + 1))
                  case measure => have := HLT2.out; omega
                  case rel => exact ⟨k + 1, HLT2.out, rfl, by rw [HCT.out]; go_num, by go_num, Lib.hid (below_drew HB5.out)⟩
              · have hkk : decide ((k : Int) < (idf.length : Int)) = false := decide_eq_false (by omega)
                obtain rfl : k = idf.length := by omega
                rw [List.take_length, HCF.out]
                have HB6 := Lib.hid (HB4.out.trans (HB5.out.mono HB4.out.size))
                have HNO6 := Lib.hid (HNO.out.below HB5.out)
                clear hk HB5 HB4 HNO HNF HCF HLF
                go_wp2_with fail
                go_loopg [8, 12] ida.length (fun n a i w' => ∃ (k : Nat), k ≤ ida.length ∧ n = ida.length - k ∧ a = .int .i64 ((ida.take k).count x.1.id : Nat) ∧ i = .int .i64 k ∧ Hid (Below wA.heap.size wA w') ∧ Hid (NAt w' fo ida))
                case atStart => exact ⟨0, by omega, rfl, rfl, rfl, HB6, HNO6⟩
                case round =>
                  clear HB6 HNO6
                  obtain ⟨k, hk, rfl, rfl, rfl, HB7, HN7⟩ := hrel
                  by_cases hlt3 : k < ida.length
                  · obtain ⟨gf, rfl, hgf, y⟩ := HN7.out k hlt3
                    obtain ⟨q, hq, hqa⟩ := HGA.out k hlt3
                    have hqa : q.1.agent = x.1.agent := by simpa using hqa
                    have KG := Lib.hid (get_some (ida[k]'hlt3) _ (HW2.out.t.below HB7.out) q hq (HW2.out.short _ (mget_some_mem hq)))
                    have hct := count_take (a := x.1.id) hlt3
                    have hcl := List.count_le_length (a := x.1.id) (l := ida.take k)
                    rw [List.length_take] at hcl
                    have hkk : (k : Int) < (ida.length : Int) := by omega
                    have hkk0 : (0 : Int) ≤ (k : Int) := by omega
                    have hw1 : IntKind.i64.wrap ((k : Int) + 1) = (k : Int) + 1 := IntWalk.i64_in _ (by have := HLA.out; omega)
                    have hw2 : IntKind.i64.wrap (((ida.take k).count x.1.id : Nat) + 1 : Int) = ((ida.take k).count x.1.id : Nat) + 1 := IntWalk.i64_in _ (by have := HLA.out; omega)
                    have HK1 : Hid (0 < k → (0 : Int) ≤ ((k - 1 : Nat) : Int) ∧ ((k - 1 : Nat) : Int) < (ida.length : Int) ∧ IntKind.i64.wrap ((k : Int) - 1) = ((k - 1 : Nat) : Int)) := Lib.hid (fun h0 => ⟨by omega, by omega, by rw [IntWalk.i64_in _ (by have := HLA.out; omega)]; omega⟩)
                    have HPRE : Hid (0 < k → ∀ W, Below wr.heap.size wr W → ∃ z, W.cell? ⟨gf, k - 1, none⟩ = some (.int .i64 z) ∧ z < ida[k]'hlt3) := Lib.hid (fun h0 W hb => by
                      obtain ⟨g2, e2, _, y2⟩ := (HN7.out.below hb) (k - 1) (by omega)
                      injection e2 with e2; injection e2 with e2; subst e2
                      refine ⟨_, y2, ?_⟩
                      have := rise_at HRA.out (k := k - 1) (by omega)
                      have e : k - 1 + 1 = k := by omega
                      simp only [e] at this
                      exact this)
                    have HGF := Lib.hid hgf
                    have HCT := Lib.hid hct
                    obtain ⟨⟨oid, ofr, oag, ovec, otill⟩, qa, qc⟩ := q
                    simp only at hqa
                    subst hqa
                    have KG : Hid (Calls Try.prog 15 #[.pointer (some ⟨b, 0, none⟩), .int .i64 (ida[k]'hlt3)] wr fun e w' => ∃ va vc, e = .returned (.tuple #[.agg #[.int .i64 oid, .int .i64 ofr, .int .i64 x.1.agent, .slice va ovec.length vc, .int .i64 otill], .bool true]) ∧ PAt (New wr w') w' va ovec ∧ Below wr.heap.size wr w') := KG
                    have HLT3 : Hid (k < ida.length) := Lib.hid hlt3
                    have HE : Hid (∃ id', ida[k]'hlt3 = id') := Lib.hid ⟨_, rfl⟩
                    clear hq hct hcl hk hgf
                    generalize ida[k]'hlt3 = idk at *
                    clear hlt3 HE
                    go_wp2_with fail
                    refine KG.out.mono ?_
                    rintro e w8 ⟨va', vc', rfl, _, hb8⟩
                    have hba := (Below.refl _ w8).alloc (Nat.le_refl _) (.cells #[.int .i64 oid, .int .i64 ofr, .int .i64 x.1.agent, .slice va' ovec.length vc', .int .i64 otill] 30)
                    have HN := Lib.hid (blk_new w8 (.cells #[.int .i64 oid, .int .i64 ofr, .int .i64 x.1.agent, .slice va' ovec.length vc', .int .i64 otill] 30))
                    have HB9r := Lib.hid (hb8.trans (hba.mono hb8.size))
                    clear hba hb8 KG
                    generalize hWW : w8.alloc (.cells #[.int .i64 oid, .int .i64 ofr, .int .i64 x.1.agent, .slice va' ovec.length vc', .int .i64 otill] 30) = W9 at HN HB9r
                    have HB9 := Lib.hid (HB7.out.trans (HB9r.out.mono HB7.out.size))
                    have HN9 := Lib.hid (HN7.out.below HB9r.out)
                    have hHWW := Lib.hid hWW
                    clear hWW HB7 HN7
                    go_wp2_with fail
                    rw [hHWW.out]
                    generalize w8.heap.size = N8 at *
                    have hn := blk_cell HN.out
                    have n2 := hn 2
                    have yk : W9.cell? ⟨gf, k, none⟩ = some (.int .i64 idk) := (cell_same (HB9r.out.block gf HGF.out) k).trans y
                    obtain ⟨y0, y1, y2, y3, y4⟩ := HC.out W9 HB9.out
                    clear hn y hHWW HN
                    rcases Nat.eq_zero_or_pos k with h0 | h0
                    · subst h0
                      have hk9 : (0 : Int) < (ida.length : Int) := by simpa using hkk
                      have hk8 : 0 < ida.length := HLT3.out
                      clear HPRE HK1 hkk0 hkk
                      by_cases he : idk = x.1.id
                      · subst he
                        have e1 : (x.1.id == x.1.id) = true := by simp
                        rw [if_pos rfl] at HCT
                        (refine wp_region_quietC (fun w' => w' = W9.drew) (by kernel_rfl) (by kernel_rfl) ?hc0 ?_
                         case hc0 => (rfl)
                         repeat ((first
                                   | go_big_quiet_skip
                                   | (refine wpQuiet_ex (by kernel_rfl) ?_
                                      apply Exists.intro
                                      refine ⟨fun w' hC => ?_, ?_⟩
                                      · skip
                                        (subst hC)
                                        go_simp
                                        first
                                          | done
                                          | (with_reducible rfl)
                                          | (fail)
                                      try simp only [Act.put, List.setIfInBounds_toArray, List.set_cons_zero, List.set_cons_succ])))
                         refine wpQuiet_nil ?_
                         intro w' hC)
                        subst hC
                        go_wp2_with fail
                        (refine wp_region_quietC (fun w' => w' = W9.drew.drew) (by kernel_rfl) (by kernel_rfl) ?hc0 ?_
                         case hc0 => (rfl)
                         repeat ((first
                                   | go_big_quiet_skip
                                   | (refine wpQuiet_ex (by kernel_rfl) ?_
                                      apply Exists.intro
                                      refine ⟨fun w' hC => ?_, ?_⟩
                                      · skip
                                        (subst hC)
                                        go_simp
                                        first
                                          | done
                                          | (with_reducible rfl)
                                          | (fail)
                                      try simp only [Act.put, List.setIfInBounds_toArray, List.set_cons_zero, List.set_cons_succ])))
                         refine wpQuiet_nil ?_
                         intro w' hC)
                        subst hC
                        go_wp2_with fail
                        go_roundg (ida.length - (0 + 1))
                        case measure => have := HLT3.out; omega
                        case rel => exact ⟨0 + 1, HLT3.out, rfl, by rw [HCT.out]; rfl, by go_num, Lib.hid (below_drew (below_drew HB9.out)), Lib.hid (HN9.out.below (below_drew (below_drew (Below.refl _ _))))⟩
                      · have e1 : (idk == x.1.id) = false := by simpa using he
                        have e2 : decide (idk = x.1.id) = false := decide_eq_false he
                        rw [if_neg he] at HCT
                        (refine wp_region_quietC (fun w' => w' = W9.drew) (by kernel_rfl) (by kernel_rfl) ?hc0 ?_
                         case hc0 => (rfl)
                         repeat ((first
                                   | go_big_quiet_skip
                                   | (refine wpQuiet_ex (by kernel_rfl) ?_
                                      apply Exists.intro
                                      refine ⟨fun w' hC => ?_, ?_⟩
                                      · skip
                                        (subst hC)
                                        go_simp
                                        first
                                          | done
                                          | (with_reducible rfl)
                                          | (fail)
                                      try simp only [Act.put, List.setIfInBounds_toArray, List.set_cons_zero, List.set_cons_succ])))
                         refine wpQuiet_nil ?_
                         intro w' hC)
                        subst hC
                        go_wp2_with fail
                        (refine wp_region_quietC (fun w' => w' = W9.drew.drew) (by kernel_rfl) (by kernel_rfl) ?hc0 ?_
                         case hc0 => (rfl)
                         repeat ((first
                                   | go_big_quiet_skip
                                   | (refine wpQuiet_ex (by kernel_rfl) ?_
                                      apply Exists.intro
                                      refine ⟨fun w' hC => ?_, ?_⟩
                                      · skip
                                        (subst hC)
                                        go_simp
                                        first
                                          | done
                                          | (with_reducible rfl)
                                          | (fail)
                                      try simp only [Act.put, List.setIfInBounds_toArray, List.set_cons_zero, List.set_cons_succ])))
                         refine wpQuiet_nil ?_
                         intro w' hC)
                        subst hC
                        go_wp2_with fail
                        go_roundg (ida.length - (0 + 1))
                        case measure => have := HLT3.out; omega
                        case rel => exact ⟨0 + 1, HLT3.out, rfl, by rw [HCT.out]; rfl, by go_num, Lib.hid (below_drew (below_drew HB9.out)), Lib.hid (HN9.out.below (below_drew (below_drew (Below.refl _ _))))⟩
                    · obtain ⟨z, yp, hz⟩ := HPRE.out h0 W9 HB9r.out
                      obtain ⟨i0, i1, i2⟩ := HK1.out h0
                      have c5 : (0 : Int) < (k : Int) := by omega
                      have d5 : decide ((0 : Int) < (k : Int)) = true := decide_eq_true c5
                      have d6 : decide (0 < k) = true := decide_eq_true h0
                      have d7 : decide (idk ≤ z) = false := decide_eq_false (by omega)
                      have d8 : ¬ idk ≤ z := by omega
                      clear hz HPRE HK1
                      generalize k - 1 = jj at *
                      by_cases he : idk = x.1.id
                      · subst he
                        have e1 : (x.1.id == x.1.id) = true := by simp
                        rw [if_pos rfl] at HCT
                        (refine wp_region_quietC (fun w' => w' = W9.drew) (by kernel_rfl) (by kernel_rfl) ?hc0 ?_
                         case hc0 => (rfl)
                         repeat ((first
                                   | go_big_quiet_skip
                                   | (refine wpQuiet_ex (by kernel_rfl) ?_
                                      apply Exists.intro
                                      refine ⟨fun w' hC => ?_, ?_⟩
                                      · skip
                                        (subst hC)
                                        go_simp
                                        first
                                          | done
                                          | (with_reducible rfl)
                                          | (fail)
                                      try simp only [Act.put, List.setIfInBounds_toArray, List.set_cons_zero, List.set_cons_succ])))
                         refine wpQuiet_nil ?_
                         intro w' hC)
                        subst hC
                        go_wp2_with fail
                        (refine wp_region_quietC (fun w' => w' = W9.drew.drew) (by kernel_rfl) (by kernel_rfl) ?hc0 ?_
                         case hc0 => (rfl)
                         repeat ((first
                                   | go_big_quiet_skip
                                   | (refine wpQuiet_ex (by kernel_rfl) ?_
                                      apply Exists.intro
                                      refine ⟨fun w' hC => ?_, ?_⟩
                                      · skip
                                        (subst hC)
                                        go_simp
                                        first
                                          | done
                                          | (with_reducible rfl)
                                          | (fail)
                                      try simp only [Act.put, List.setIfInBounds_toArray, List.set_cons_zero, List.set_cons_succ])))
                         refine wpQuiet_nil ?_
                         intro w' hC)
                        subst hC
                        go_wp2_with fail
                        go_roundg (ida.length - (k + 1))
                        case measure => have := HLT3.out; omega
                        case rel => exact ⟨k + 1, HLT3.out, rfl, by rw [HCT.out]; go_num, by go_num, Lib.hid (below_drew (below_drew HB9.out)), Lib.hid (HN9.out.below (below_drew (below_drew (Below.refl _ _))))⟩
                      · have e1 : (idk == x.1.id) = false := by simpa using he
                        have e2 : decide (idk = x.1.id) = false := decide_eq_false he
                        rw [if_neg he] at HCT
                        (refine wp_region_quietC (fun w' => w' = W9.drew) (by kernel_rfl) (by kernel_rfl) ?hc0 ?_
                         case hc0 => (rfl)
                         repeat ((first
                                   | go_big_quiet_skip
                                   | (refine wpQuiet_ex (by kernel_rfl) ?_
                                      apply Exists.intro
                                      refine ⟨fun w' hC => ?_, ?_⟩
                                      · skip
                                        (subst hC)
                                        go_simp
                                        first
                                          | done
                                          | (with_reducible rfl)
                                          | (fail)
                                      try simp only [Act.put, List.setIfInBounds_toArray, List.set_cons_zero, List.set_cons_succ])))
                         refine wpQuiet_nil ?_
                         intro w' hC)
                        subst hC
                        go_wp2_with fail
                        (refine wp_region_quietC (fun w' => w' = W9.drew.drew) (by kernel_rfl) (by kernel_rfl) ?hc0 ?_
                         case hc0 => (rfl)
                         repeat ((first
                                   | go_big_quiet_skip
                                   | (refine wpQuiet_ex (by kernel_rfl) ?_
                                      apply Exists.intro
                                      refine ⟨fun w' hC => ?_, ?_⟩
                                      · skip
                                        (subst hC)
                                        go_simp
                                        first
                                          | done
                                          | (with_reducible rfl)
                                          | (fail)
                                      try simp only [Act.put, List.setIfInBounds_toArray, List.set_cons_zero, List.set_cons_succ])))
                         refine wpQuiet_nil ?_
                         intro w' hC)
                        subst hC
                        go_wp2_with fail
                        go_roundg (ida.length - (k + 1))
                        case measure => have := HLT3.out; omega
                        case rel => exact ⟨k + 1, HLT3.out, rfl, by rw [HCT.out]; go_num, by go_num, Lib.hid (below_drew (below_drew HB9.out)), Lib.hid (HN9.out.below (below_drew (below_drew (Below.refl _ _))))⟩
                  · have hkk : decide ((k : Int) < (ida.length : Int)) = false := decide_eq_false (by omega)
                    obtain rfl : k = ida.length := by omega
                    rw [List.take_length, HCA.out]
                    clear hk
                    go_wp2_with fail
                    go_roundg (xs.length - (j + 1))
                    case measure => have := HLTJ.out; omega
                    case rel => exact ⟨j + 1, HLTJ.out, rfl, by go_num, HB7⟩
          · have hkz : True := trivial
            have hki : decide ((j : Int) < (xs.length : Int)) = false := decide_eq_false (by omega)
            have HBW := Lib.hid (HW2.out.b.trans (HB.out.mono HW2.out.b.size))
            clear hkz hj HW2 HB HX HXS HLO HXL
            have HP1 := Lib.hid (blk_alloc (o' := (.cells #[.int .i64 0, .int .i64 0, .int .i64 1] 48)) (blk_new wr (.cells #[.int .i64 0, .int .i64 0, .map none, .map none, .map none] 46)))
            have HB1 := Lib.hid ((HBW.out.alloc HBW.out.size (.cells #[.int .i64 0, .int .i64 0, .map none, .map none, .map none] 46)).alloc (by have := HBW.out.size; simp; omega) (.cells #[.int .i64 0, .int .i64 0, .int .i64 1] 48))
            clear HBW
            have h50 : ∀ W, (Op.equalIn 10000 50 (.agg #[.int .i64 0, .int .i64 0, .int .i64 0, .int .i64 0]) (.agg #[.int .i64 0, .int .i64 0, .int .i64 0, .int .i64 0])).run Try.prog W = .ok true W := fun W => w50z 9998 W
            have g50 : Try.prog.eqGuardType Try.prog.depth 50 = false := by kernel_rfl
            go_wp2_with fail
            refine (issue_nil _ _ _ _ _).mono ?_
            rintro e w' ⟨rfl, rfl⟩
            generalize (wr.alloc (.cells #[.int .i64 0, .int .i64 0, .map none, .map none, .map none] 46)).alloc (.cells #[.int .i64 0, .int .i64 0, .int .i64 1] 48) = W1 at *
            generalize wr.heap.size = P at *
            have HP2 := Lib.hid (blk_alloc (o' := (.cells #[.int .i64 0, .int .i64 0, .int .i64 1] 48)) HP1.out)
            have HB2 := Lib.hid (HB1.out.alloc HB1.out.size (.cells #[.int .i64 0, .int .i64 0, .int .i64 1] 48))
            clear HP1 HB1
            go_wp2_with fail
            generalize W1.alloc (.cells #[.int .i64 0, .int .i64 0, .int .i64 1] 48) = W2 at *
            generalize W1.heap.size = P1 at *
            refine (issue_plain P _ _ _ _ _ (blk_cell HP2.out 2)).mono ?_
            rintro e w' ⟨rfl, rfl⟩
            go_wp2_with fail
            refine (close_nil 1 W2).mono ?_
            rintro e w3 ⟨rfl, hb3⟩
            have HP3 := Lib.hid (blk_alloc (o' := (.cells #[.int .i64 0, .int .i64 0, .int .i64 0, .slice none 0 0, .int .i64 0] 30)) ((hb3.block _ (blk_lt HP2.out)).trans HP2.out))
            have HB3 := Lib.hid ((HB2.out.trans (hb3.mono HB2.out.size)).alloc (HB2.out.trans (hb3.mono HB2.out.size)).size (.cells #[.int .i64 0, .int .i64 0, .int .i64 0, .slice none 0 0, .int .i64 0] 30))
            clear hb3 HP2 HB2
            go_wp2_with fail
            generalize w3.alloc (.cells #[.int .i64 0, .int .i64 0, .int .i64 0, .slice none 0 0, .int .i64 0] 30) = W3 at *
            generalize w3.heap.size = P3 at *
            refine (all_plain P _ (blk_cell HP3.out 2)).mono ?_
            rintro e w' ⟨rfl, rfl⟩
            go_wp2_with fail
            refine (sum_nil 1 _).mono ?_
            rintro e w4 ⟨rfl, hb4⟩
            have HB4 := Lib.hid (HB3.out.trans (hb4.mono HB3.out.size))
            clear hb4 HB3 HP3
            simp only [S4.zero]
            go_wp2_with fail
            refine (works_calls hS _).mono ?_
            rintro e w5 ⟨rfl, hb5⟩
            have HB5 := Lib.hid (HB4.out.trans (hb5.mono HB4.out.size))
            clear hb5 HB4
            go_wp2_with fail
            go_ret
            exact ⟨rfl, HB5.out⟩
end Go.Proofs.Ytecgfghmmlpghaa.O
