/- Walks: Table.Issue. -/
import Derived.Test.YtecgfghmmlpghaaTog
import Derived.Test.YtecgfghmmlpghaaRight1
import Derived.Deep.RegionHeld3
set_option linter.unusedVariables false
set_option linter.unusedSimpArgs false
namespace Go.Proofs.Ytecgfghmmlpghaa.O
open Go.RowKit Go.Proofs.Ytecgfghmmlpghaa.Hp Go.Proofs.Ytecgfghmmlpghaa.Mp
set_option maxRecDepth 100000
attribute [local irreducible] Go.wpQuiet
/-- What Issue leaves. -/
def IssS (b mo mf ma : Nat) (most last : Int) (lo : List (Int × Ox)) (lf la : List (Int × Nat)) (fr ag : Int) (vec : List Pt) (till : Int) (w : World) (e : Ending) (w' : World) : Prop :=
  e = .returned (.tuple #[.int .i64 (last + 1), .int .i64 0]) ∧ ∃ va' lf' la', Tof w' b mo mf ma most (last + 1) (lo ++ [(last + 1, ((⟨last + 1, fr, ag, vec, till⟩ : Of), va', vec.length))]) lf' la' ∧ (∀ i, Own b mo mf ma lf' la' i → Own b mo mf ma lf la i ∨ w.heap.size ≤ i) ∧ Chg (Own b mo mf ma lf la) w w'
section
variable {b mo mf ma : Nat} {most last : Int} {lo : List (Int × Ox)} {lf la : List (Int × Nat)}
set_option maxHeartbeats 4000000 in
theorem issue_yes (T : Nat → Prop) (fr ag till : Int) (va : Option Addr) (vc : Nat) (vec : List Pt) (w : World) (h : Tof w b mo mf ma most last lo lf la) (hp : PAt T w va vec) (hT : ∀ i, T i → i < w.heap.size ∧ ¬ Own b mo mf ma lf la i)
    (hfr : 1 ≤ fr) (hag : 1 ≤ ag) (htl : 0 ≤ till) (hvec : vec ≠ []) (hr : rightV vec = true) (hlen : vec.length ≤ 700) (hml : last < most) (hmost : most ≤ 9007199254740992) :
    Calls Try.prog 9 #[.pointer (some ⟨b, 0, none⟩), .int .i64 fr, .int .i64 ag, .slice va vec.length vc, .int .i64 till] w (IssS b mo mf ma most last lo lf la fr ag vec till w) := by
  have d1 : decide (fr < 1) = false := decide_eq_false (by omega)
  have d2 : decide (ag < 1) = false := decide_eq_false (by omega)
  have d3 : decide (till < 0) = false := decide_eq_false (by omega)
  have hl0 : 0 < vec.length := List.length_pos_iff.2 hvec
  have d4 : decide ((vec.length : Int) = 0) = false := decide_eq_false (by omega)
  have d5 : ((vec.length : Int) == 0) = false := by rw [beq_eq_false_iff_ne]; omega
  have d6 : ¬ vec.length = 0 := by omega
  have d7 : decide (most ≤ last) = false := decide_eq_false (by omega)
  have HT := Lib.hid h
  have hrc := right_calls T va vc vec w (fun i hi => (hT i hi).1) (by omega) hp
  rw [hr] at hrc
  have KR := Lib.hid hrc
  have HP := Lib.hid hp
  have HTT := Lib.hid hT
  have HN := Lib.hid (And.intro hml hmost)
  have HLN := Lib.hid hlen
  have HL0 := h.last0
  have HW : IntKind.i64.wrap (last + 1) = last + 1 := IntWalk.i64_in _ (by omega)
  clear h hp hT hrc hr hml hmost hlen hfr hag htl hvec hl0
  go_enter Try.func9, Try.ntmps9
  go_wp2_with (first | (go_at_call 25; refine (made_yes _ HT.out).mono ?_; rintro e w' ⟨rfl, rfl⟩) | fail)
  refine KR.out.mono ?_
  rintro e w1 ⟨rfl, hb1⟩
  have HT1 := Lib.hid (HT.out.below hb1)
  have HP1 := Lib.hid (HP.out.keep (T' := T) (w' := w1) (fun i hi => hb1.block i (HTT.out i hi).1) (fun _ hi => hi))
  have HC1 := Lib.hid (Chg.of_below hb1 (Own b mo mf ma lf la))
  clear hb1 KR
  obtain ⟨c0, c1, c2, c3, c4⟩ := HT1.out.cells
  have c5 := blk_frozen HT1.out.blk 1
  go_wp2_with fail
  (refine wp_region_quietC (fun w' => w' = w1.drew) (by kernel_rfl) (by kernel_rfl) ?hc0 ?_
   case hc0 => (rfl)
   repeat ((first
             | go_big_quiet_skip
             | (refine wpQuiet_ex (by kernel_rfl) ?_
                apply Exists.intro
                refine ⟨fun w' hC => ?_, ?_⟩
                · skip
                  (subst hC)
                  go_simp
                  first
                    | done
                    | (with_reducible rfl)
                    | (fail)
                try simp only [Act.put, List.setIfInBounds_toArray, List.set_cons_zero, List.set_cons_succ])))
   refine wpQuiet_nil ?_
   intro w' hC)
  subst hC
  go_wp2_with fail
  have HG3 := Lib.hid ((HT1.out.tog.bump (last + 1)).below (below_drew (Below.refl _ _)))
  have HC3 := Lib.hid ((HC1.out.setCell (p := ⟨b, 1, none⟩) (.inl (.inl rfl)) (.int .i64 (last + 1))).drew)
  have HP3 := Lib.hid (HP1.out.keep (T' := T) (w' := (w1.setCell ⟨b, 1, none⟩ (.int .i64 (last + 1))).drew) (fun i hi => Below.heap_setCell _ _ _ _ (fun e => (HTT.out i hi).2 (.inl e))) (fun _ hi => hi))
  clear c0 c1 c2 c3 c4 c5
  generalize (w1.setCell ⟨b, 1, none⟩ (.int .i64 (last + 1))).drew = W3 at *
  obtain ⟨c0, c1, c2, c3, c4⟩ := HG3.out.cells
  clear HP HP1 HC1
  have HS3 := Lib.hid HC3.out.size
  have HG4 := Lib.hid (HG3.out.below (below_drew (Below.refl _ W3)))
  have HC4 := Lib.hid HC3.out.drew
  have HP4 := Lib.hid (HP3.out.keep (T' := T) (w' := W3.drew) (fun _ _ => rfl) (fun _ h => h))
  have HNEW : Hid (mget lo (last + 1) = none) := Lib.hid (mget_none.2 (fun hm => by obtain ⟨p, hp, e⟩ := List.mem_map.1 hm; have := (HT.out.ids p hp).2.2; omega))
  go_region_held3 (fun w' => w'.cell? ⟨b, 1, none⟩ = some (.int .i64 (last + 1)) ∧ w'.cell? ⟨b, 2, none⟩ = some (.map (some mo))) (go_keep)
    ((go_at_call 27; refine (copy_calls T va vc vec _ HP4.out (fun i hi => by have := (HTT.out i hi).1; have := HS3.out; exact Nat.lt_of_lt_of_le ‹i < _› ‹_ ≤ _›) HLN.out).mono ?_; rintro e w5 ⟨va', rfl, hv5, _, hb5⟩; have HG5 := Lib.hid (HG4.out.below (w' := w5) hb5); obtain ⟨o5, s5, m5⟩ := store43 HG5.out.offers (last + 1) ((⟨last + 1, fr, ag, vec, till⟩ : Of), va', vec.length); change (Instr.mapUpdate 43 (.map (some mo)) (.int .i64 (last + 1)) (.agg #[.int .i64 (last + 1), .int .i64 fr, .int .i64 ag, .slice va' vec.length vec.length, .int .i64 till])).run Try.prog w5 = _ at s5; rw [mput_none HNEW.out] at m5; have HG6 := Lib.hid (HG5.out.store m5 (fun p hp => by rcases List.mem_append.1 hp with hp | hp; exact HG5.out.vec p hp; rw [List.mem_singleton.1 hp]; exact hv5)); have HC6 := Lib.hid ((HC4.out.trans (Chg.of_below (w' := w5) hb5 _)).setB (.inl (.inr (.inl rfl))) o5); obtain ⟨x0, x1, x2, x3, x4⟩ := HG5.out.cells; obtain ⟨z0, z1, z2, z3, z4⟩ := HG6.out.cells; clear m5 hv5 hb5))
  clear s5 x0 x1 x2 x3 x4 z0 z1 z2 z3 z4 c0 c1 c2 c3 c4 HG5 HG3 HG4 HC3 HC4 HP3 HP4 HT1
  generalize setB w5 mo o5 = W6 at *
  have HNF : Hid (∀ p, last + 1 ∉ idsP p lo) := Lib.hid (fun p hm => by obtain ⟨x, hx, _⟩ := idsP_mem hm; have := (HT.out.ids _ hx).2.2; have h9 : last + 1 ≤ last := this; omega)
  have HG7 := Lib.hid (HG6.out.below (below_drew (Below.refl _ W6)))
  have HS6 := Lib.hid HC6.out.size
  obtain ⟨c0, c1, c2, c3, c4⟩ := HG6.out.cells
  go_wp2_with fail
  go_region_held3 (fun w' => w'.cell? ⟨b, 1, none⟩ = some (.int .i64 (last + 1)) ∧ w'.cell? ⟨b, 3, none⟩ = some (.map (some mf))) (go_keep)
    ((go_at_call 28; refine (put_calls mf lf _ fr (last + 1) _ HG7.out.of' (HNF.out _)).mono ?_; rintro e w7 ⟨rfl, lf', hs7, ho7, hc7⟩; have HO7 := Lib.hid ho7; have HG8 := Lib.hid (HG7.out.putF hs7 ho7 hc7); have HC8 := Lib.hid (HC6.out.drew.trans (hc7.mono (T := Own b mo mf ma lf la) (fun i hi => .inr (.inr (.inl hi))))); obtain ⟨z0, z1, z2, z3, z4⟩ := HG8.out.cells; clear hs7 ho7 hc7))
  clear c0 c1 c2 c3 c4 HG7 HG6
  have HG9 := Lib.hid (HG8.out.below (below_drew (Below.refl _ w7)))
  have HS7 := Lib.hid HC8.out.size
  go_wp2_with fail
  go_region_held3 (fun w' => w'.cell? ⟨b, 1, none⟩ = some (.int .i64 (last + 1)) ∧ w'.cell? ⟨b, 4, none⟩ = some (.map (some ma))) (go_keep)
    ((go_at_call 28; refine (put_calls ma la _ ag (last + 1) _ HG9.out.on' (HNF.out _)).mono ?_; rintro e w9 ⟨rfl, la', hs9, ho9, hc9⟩; have HO9 := Lib.hid ho9; have HG10 := Lib.hid (HG9.out.putA hs9 ho9 hc9); have HC10 := Lib.hid (HC8.out.drew.trans (hc9.mono (T := Own b mo mf ma lf la) (fun i hi => .inr (.inr (.inr hi))))); obtain ⟨y0, y1, y2, y3, y4⟩ := HG10.out.cells; clear hs9 ho9 hc9))
  clear z0 z1 z2 z3 z4 HG9 HG8
  go_wp2_with fail
  refine bodyPost_ret (v := .tuple #[.int .i64 (last + 1), .int .i64 0]) (by simp [results, Try.results9, go_sem]) rfl ?_
  refine ⟨rfl, va', lf', la', Tog.grown ((⟨last + 1, fr, ag, vec, till⟩ : Of), va', vec.length) HT.out.rise HT.out.ids HT.out.last0 rfl HG10.out, fun i hi => ?_, HC10.out⟩
  rcases hi with rfl | rfl | hi | hi
  · exact .inl (.inl rfl)
  · exact .inl (.inr (.inl rfl))
  · rcases HO7.out i hi with h1 | h1
    · exact .inl (.inr (.inr (.inl h1)))
    · exact .inr (Nat.le_trans HS6.out h1)
  · rcases HO9.out i hi with h1 | h1
    · exact .inl (.inr (.inr (.inr h1)))
    · exact .inr (Nat.le_trans HS7.out h1)
end
end Go.Proofs.Ytecgfghmmlpghaa.O
