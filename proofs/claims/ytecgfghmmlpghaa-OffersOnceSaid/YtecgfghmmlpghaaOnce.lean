/- Walks: OffersOnce. -/
import Derived.Test.YtecgfghmmlpghaaOnce0
import Derived.Test.YtecgfghmmlpghaaWorks
set_option linter.unusedVariables false
set_option linter.unusedSimpArgs false
namespace Go.Proofs.Ytecgfghmmlpghaa.O
open Go.RowKit Go.Proofs.Ytecgfghmmlpghaa.Hp Go.Proofs.Ytecgfghmmlpghaa.Mp
set_option maxRecDepth 100000
attribute [local irreducible] Go.wpQuiet
set_option maxHeartbeats 4000000 in
theorem once_walk (hS : SortC) (most : Int) (fa : Option Addr) (g o fc : Nat) (ls : List Ac) (w : World) (h : AAt (Lt w.heap.size) w fa g o ls) (hn : ls.length ≤ 4611686018427387903) (ht : ls.length ≤ 100 → totA ls ≤ 4611686018427387903) :
    Calls Try.prog 3 #[.int .i64 most, .slice fa ls.length fc] w fun e w' => e = .returned (.bool true) ∧ Below w.heap.size w w' := by
  have KF := Lib.hid (few_calls _ fa g o fc ls w h hn ht)
  have HA := Lib.hid h
  clear h hn ht
  cases hf : fewA ls with
  | false =>
    rw [hf] at KF
    go_enter Try.func3, Try.ntmps3
    go_wp2_with (first | (go_at_call 6; refine KF.out.mono ?_; rintro e w' ⟨rfl, rfl⟩) | fail)
    go_ret
    exact ⟨rfl, Below.refl _ _⟩
  | true =>
    rw [hf] at KF
    by_cases hm0 : most < 0
    · have d1 : decide (most < 0) = true := decide_eq_true hm0
      go_enter Try.func3, Try.ntmps3
      go_wp2_with (first | (go_at_call 6; refine KF.out.mono ?_; rintro e w' ⟨rfl, rfl⟩) | fail)
      go_ret
      exact ⟨rfl, Below.refl _ _⟩
    · have d1 : decide (most < 0) = false := decide_eq_false hm0
      by_cases hm1 : 9007199254740992 < most
      · have d2 : decide (9007199254740992 < most) = true := decide_eq_true hm1
        go_enter Try.func3, Try.ntmps3
        go_wp2_with (first | (go_at_call 6; refine KF.out.mono ?_; rintro e w' ⟨rfl, rfl⟩) | fail)
        go_ret
        exact ⟨rfl, Below.refl _ _⟩
      · have d2 : decide (9007199254740992 < most) = false := decide_eq_false hm1
        obtain ⟨h100, h400⟩ := few_len hf
        have KN := Lib.hid (new_yes most w (by omega))
        have HL := Lib.hid h100
        have HM := Lib.hid (show 0 ≤ most ∧ most ≤ 9007199254740992 by omega)
        have HV := Lib.hid (fun (k : Nat) (hk : k < ls.length) => show ls[k].vec.length ≤ 700 by have := totA_mem (List.getElem_mem hk); omega)
        clear hf h100 h400
        go_enter Try.func3, Try.ntmps3
        go_wp2_with (first | (go_at_call 6; refine KF.out.mono ?_; rintro e w' ⟨rfl, rfl⟩) | (go_at_call 7; refine KN.out.mono ?_; rintro e w1 ⟨rfl, ht, hb⟩; have HO := Lib.hid (Ons.start ht hb); clear ht hb KN) | fail)
        clear KF d1 d2
        have HI := Lib.hid (show ∃ (b mo mf ma : Nat), b = w.heap.size + 3 ∧ Ons w b mo mf ma most 0 [] [] [] w1 from ⟨_, _, _, _, rfl, HO.out⟩)
        clear HO
        obtain ⟨b, mo, mf, ma, eb, ho⟩ := HI.out
        have HO := Lib.hid ho
        rw [← eb]
        clear ho eb HI hm0 hm1
        go_loopg [6, 7] ls.length (fun n was i wr => ∃ (k : Nat) (last : Int) (lo : List (Int × Ox)) (lf la : List (Int × Nat)), k ≤ ls.length ∧ n = ls.length - k ∧ was = .int .i64 last ∧ i = .int .i64 k ∧ Hid (0 ≤ last ∧ last ≤ most) ∧ Hid (Ons w b mo mf ma most last lo lf la wr))
        case atStart => exact ⟨0, 0, [], [], [], by omega, rfl, rfl, rfl, Lib.hid ⟨by omega, HM.out.1⟩, HO⟩
        case round =>
          obtain ⟨k, last, lo, lf, la, hk, rfl, rfl, rfl, HLM, HW⟩ := hrel
          clear HO
          by_cases hlt : k < ls.length
          · obtain ⟨rfl, hg⟩ := HA.out.lt (by omega)
            obtain ⟨va, vc, hat⟩ := HA.out.at' k hlt
            have HG := Lib.hid hg
            have HAT := Lib.hid hat
            have hat1 := hat.keep (HW.out.b.block g hg) (fun i hi => HW.out.b.block i hi) (fun _ h => h)
            have HP1 := Lib.hid hat1.vec
            have HVK := Lib.hid (HV.out k hlt)
            have hki : (k : Int) < (ls.length : Int) := by omega
            have hk0 : (0 : Int) ≤ (k : Int) := by omega
            have hw : IntKind.i64.wrap ((k : Int) + 1) = (k : Int) + 1 := IntWalk.i64_in _ (by have := HL.out; omega)
            have HLT := Lib.hid hlt
            have y0 := hat1.c0
            have y1 := hat1.c1
            have y2 := hat1.c2
            have y3 := hat1.c3
            have y4 := hat1.c4
            have y5 := hat1.c5
            clear hat hat1 hg hk
            generalize ls[k] = a at *
            cases hcl : a.close with
            | true =>
              rw [hcl] at y0
              have KC := Lib.hid (closeAny_calls a.id HW.out)
              go_wp2_with (first | (go_at_call 8; refine KC.out.mono ?_; rintro e w2 ⟨v, lf', la', rfl, ho⟩; have HW2 := Lib.hid ho; clear ho) | fail)
              go_roundg (ls.length - (k + 1))
              case measure => have := HLT.out; omega
              case rel => exact ⟨k + 1, last, _, _, _, HLT.out, rfl, rfl, by go_num, HLM, HW2⟩
            | false =>
              rw [hcl] at y0
              have KI := Lib.hid (fun W' (hb : Below wr.heap.size wr W') => issueAny_calls a.frame a.agent a.till va vc a.vec (HW.out.below hb) (HP1.out.keep (T' := Lt w.heap.size) (fun i hi => hb.block i (Nat.lt_of_lt_of_le hi HW.out.b.size)) (fun _ h => h)) (fun _ h => h) HVK.out HM.out.2)
              go_wp2_with fail
              go_region_held3 (fun w' => w'.cell? ⟨g, o + k * 6 + 2, none⟩ = some (.int .i64 a.frame) ∧ w'.cell? ⟨g, o + k * 6 + 3, none⟩ = some (.int .i64 a.agent) ∧ w'.cell? ⟨g, o + k * 6 + 4, none⟩ = some (.slice va a.vec.length vc) ∧ w'.cell? ⟨g, o + k * 6 + 5, none⟩ = some (.int .i64 a.till)) (go_keep)
                ((go_at_call 9; refine (KI.out _ (by exact below_drew (Below.refl _ _))).mono ?_; rintro e w2 ⟨n, f, rfl, hb2, HQ⟩; have hat2 := HAT.out.keep (hb2.block g HG.out) (fun i hi => hb2.block i hi) (fun _ h => h); have z2 := hat2.c2; have z3 := hat2.c3; have z4 := hat2.c4; have z5 := hat2.c5; clear hat2))
              clear y0 y1 y2 y3 y4 y5 z2 z3 z4 z5 hb2 KI
              rcases HQ.out with ⟨rfl, rfl, _, hlm, va', lf', la', ho⟩ | ⟨rfl, hff, ho⟩
              · have HW2 := Lib.hid ho
                have hw2 : IntKind.i64.wrap (last + 1) = last + 1 := IntWalk.i64_in _ (by have := HM.out; have := HLM.out; omega)
                have d3 : decide (most < last + 1) = false := decide_eq_false (by omega)
                have HLM2 := Lib.hid (show 0 ≤ last + 1 ∧ last + 1 ≤ most by have := HLM.out; omega)
                clear ho HQ hlm HLM HW
                go_wp2_with fail
                go_roundg (ls.length - (k + 1))
                case measure => have := HLT.out; omega
                case rel => exact ⟨k + 1, last + 1, _, _, _, HLT.out, rfl, rfl, by go_num, HLM2, HW2⟩
              · have HW2 := Lib.hid ho
                have e1 : (f == 0) = false := by rcases hff with ⟨_, rfl⟩ | ⟨_, _, rfl⟩ <;> rfl
                have e2 : decide (f = 0) = false := by rcases hff with ⟨_, rfl⟩ | ⟨_, _, rfl⟩ <;> rfl
                have e3 : ¬ f = 0 := by rcases hff with ⟨_, rfl⟩ | ⟨_, _, rfl⟩ <;> omega
                clear ho HQ hff HW
                go_wp2_with fail
                go_roundg (ls.length - (k + 1))
                case measure => have := HLT.out; omega
                case rel => exact ⟨k + 1, last, _, _, _, HLT.out, rfl, rfl, by go_num, HLM, HW2⟩
          · have hki : decide ((k : Int) < (ls.length : Int)) = false := decide_eq_false (by omega)
            obtain rfl : k = ls.length := by omega
            clear hk hlt
            have KL := Lib.hid (last_calls wr HW.out.t)
            have KW := Lib.hid (works_calls hS wr)
            have HB := Lib.hid HW.out.b
            clear HW HLM
            go_wp2_with (first | (go_at_call 10; refine KL.out.mono ?_; rintro e w' ⟨rfl, rfl⟩) | (go_at_call 11; refine KW.out.mono ?_; rintro e w3 ⟨rfl, hb3⟩; have HB3 := Lib.hid (HB.out.trans (hb3.mono HB.out.size)); clear hb3) | fail)
            go_ret
            exact ⟨rfl, HB3.out⟩
