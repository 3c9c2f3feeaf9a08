/- Walks: the reference's Issue. -/
import Derived.Test.YtecgfghmmlpghaaRefM0
import Derived.Test.YtecgfghmmlpghaaRefV
import Derived.StillTailTactics
set_option linter.unusedVariables false
set_option linter.unusedSimpArgs false
namespace Go.Proofs.Ytecgfghmmlpghaa.O
open Go.RowKit Go.Proofs.Ytecgfghmmlpghaa.Hp Go.Proofs.Ytecgfghmmlpghaa.Mp Go.Proofs.Ytecgfghmmlpghaa.Ap
set_option maxRecDepth 100000
/-- What the reference's Issue answers. -/
def IsR (most last : Int) (os : List Of) (fr ag : Int) (vec : List Pt) (till : Int) (n f last' : Int) (A : List Of) : Prop :=
  (n = last + 1 ∧ f = 0 ∧ last' = last + 1 ∧ issB fr ag till vec = true ∧ last < most ∧ A = os ++ [⟨last + 1, fr, ag, vec, till⟩]) ∨
  (n = 0 ∧ (issB fr ag till vec = false ∧ f = 41 ∨ issB fr ag till vec = true ∧ most ≤ last ∧ f = 34) ∧ last' = last ∧ A = os)
def IsA (T : Nat → Prop) (most last : Int) (os : List Of) (fr ag : Int) (vec : List Pt) (till : Int) (w : World) (e : Ending) (w' : World) : Prop :=
  ∃ sa sn sc n f last' A, e = .returned (.tuple #[.agg #[.int .i64 most, .int .i64 last', .slice sa sn sc], .int .i64 n, .int .i64 f]) ∧ Hid (MAns T w A (.slice sa sn sc) w') ∧ Below w.heap.size w w' ∧ Hid (IsR most last os fr ag vec till n f last' A)
theorem endM (w : World) (most last : Int) (sl : Value) : ((w.alloc (.cells #[.int .i64 most, .int .i64 last, sl] 54)).alloc (.cells #[.int .i64 most, .int .i64 last, sl] 54)).cell? ⟨w.heap.size + 1, 0, none⟩ = some (.int .i64 most) ∧ ((w.alloc (.cells #[.int .i64 most, .int .i64 last, sl] 54)).alloc (.cells #[.int .i64 most, .int .i64 last, sl] 54)).cell? ⟨w.heap.size + 1, 1, none⟩ = some (.int .i64 last) ∧ ((w.alloc (.cells #[.int .i64 most, .int .i64 last, sl] 54)).alloc (.cells #[.int .i64 most, .int .i64 last, sl] 54)).cell? ⟨w.heap.size + 1, 2, none⟩ = some sl ∧
    Below w.heap.size w ((w.alloc (.cells #[.int .i64 most, .int .i64 last, sl] 54)).alloc (.cells #[.int .i64 most, .int .i64 last, sl] 54)) := by
  have e := blk_new (w.alloc (.cells #[.int .i64 most, .int .i64 last, sl] 54)) (.cells #[.int .i64 most, .int .i64 last, sl] 54)
  rw [show (w.alloc (.cells #[.int .i64 most, .int .i64 last, sl] 54)).heap.size = w.heap.size + 1 by simp] at e
  exact ⟨blk_cell e 0, blk_cell e 1, blk_cell e 2, ((Below.refl _ w).alloc (Nat.le_refl _) _).alloc (by simp) _⟩
section
variable (T : Nat → Prop) (most last fr ag till : Int) (fa va : Option Addr) (g fc vc : Nat) (xs : List Ox) (vec : List Pt) (w : World) (hT : ∀ i, T i → i < w.heap.size) (h : OAt T w fa g 0 xs) (hp : PAt T w va vec) (hvl : vec.length ≤ 700) (hfc : xs.length ≤ fc)
set_option maxHeartbeats 4000000 in
include hT h hp hvl hfc in
theorem refIssue_bad (hb : issB fr ag till vec = false) :
    Calls Try.prog 20 #[.agg #[.int .i64 most, .int .i64 last, .slice fa xs.length fc], .int .i64 fr, .int .i64 ag, .slice va vec.length vc, .int .i64 till] w (IsA T most last (xs.map (·.1)) fr ag vec till w) := by
  have hs := BSt.start w most last (.slice fa xs.length fc)
  obtain ⟨⟨b0, b1, b2⟩, ⟨r0, r1, r2⟩, f0, f1, f2⟩ := hs.facts
  have HE := Lib.hid hs
  have HA := Lib.hid h
  have HT := Lib.hid hT
  have HFC := Lib.hid hfc
  have HR : Hid (IsR most last (xs.map (·.1)) fr ag vec till 0 41 last (xs.map (·.1))) := Lib.hid (.inr ⟨rfl, .inl ⟨hb, rfl⟩, rfl, rfl⟩)
  have hrc := refV_calls T va vc vec _ (fun i hi => Nat.lt_of_lt_of_le (hT i hi) hs.chg.size) (by omega) (hp.keep (w' := (w.alloc (.cells #[.int .i64 most, .int .i64 last, .slice fa xs.length fc] 54)).alloc (.cells #[.int .i64 0, .int .i64 0, .slice none 0 0] 54)) (T' := T) (fun i hi => hs.chg.block i (hT i hi)) (fun _ h => h))
  have KB := Lib.hid hb
  unfold issB at hb
  clear h hp hT hs
  by_cases h1 : fr < 1
  · have d1 : decide (fr < 1) = true := decide_eq_true h1
    clear hb hrc h1
    go_enter Try.func20, Try.ntmps20
    go_wp2_with fail
    (obtain ⟨s1, s2, s3, s4⟩ := endM w most last (.slice fa xs.length fc)
     generalize (w.alloc (.cells #[.int .i64 most, .int .i64 last, .slice fa xs.length fc] 54)).alloc (.cells #[.int .i64 most, .int .i64 last, .slice fa xs.length fc] 54) = W9 at *
     have HMA := Lib.hid (MAns.same (fc := fc) HA.out HFC.out HT.out s4)
     have HB9 := Lib.hid s4
     clear s4
     refine bodyPost_ret (v := .tuple #[.agg #[.int .i64 most, .int .i64 last, .slice fa xs.length fc], .int .i64 0, .int .i64 41]) (by simp [results, Try.results20, go_sem, s1, s2, s3]) rfl ⟨_, _, _, _, _, _, _, rfl, HMA, HB9.out, HR⟩)
  · have d1 : decide (fr < 1) = false := decide_eq_false h1
    by_cases h2 : ag < 1
    · have d2 : decide (ag < 1) = true := decide_eq_true h2
      clear hb hrc h1 h2
      go_enter Try.func20, Try.ntmps20
      go_wp2_with fail
      (obtain ⟨s1, s2, s3, s4⟩ := endM w most last (.slice fa xs.length fc)
       generalize (w.alloc (.cells #[.int .i64 most, .int .i64 last, .slice fa xs.length fc] 54)).alloc (.cells #[.int .i64 most, .int .i64 last, .slice fa xs.length fc] 54) = W9 at *
       have HMA := Lib.hid (MAns.same (fc := fc) HA.out HFC.out HT.out s4)
       have HB9 := Lib.hid s4
       clear s4
       refine bodyPost_ret (v := .tuple #[.agg #[.int .i64 most, .int .i64 last, .slice fa xs.length fc], .int .i64 0, .int .i64 41]) (by simp [results, Try.results20, go_sem, s1, s2, s3]) rfl ⟨_, _, _, _, _, _, _, rfl, HMA, HB9.out, HR⟩)
    · have d2 : decide (ag < 1) = false := decide_eq_false h2
      by_cases h3 : till < 0
      · have d3 : decide (till < 0) = true := decide_eq_true h3
        clear hb hrc h1 h2 h3
        go_enter Try.func20, Try.ntmps20
        go_wp2_with fail
        (obtain ⟨s1, s2, s3, s4⟩ := endM w most last (.slice fa xs.length fc)
         generalize (w.alloc (.cells #[.int .i64 most, .int .i64 last, .slice fa xs.length fc] 54)).alloc (.cells #[.int .i64 most, .int .i64 last, .slice fa xs.length fc] 54) = W9 at *
         have HMA := Lib.hid (MAns.same (fc := fc) HA.out HFC.out HT.out s4)
         have HB9 := Lib.hid s4
         clear s4
         refine bodyPost_ret (v := .tuple #[.agg #[.int .i64 most, .int .i64 last, .slice fa xs.length fc], .int .i64 0, .int .i64 41]) (by simp [results, Try.results20, go_sem, s1, s2, s3]) rfl ⟨_, _, _, _, _, _, _, rfl, HMA, HB9.out, HR⟩)
      · have d3 : decide (till < 0) = false := decide_eq_false h3
        by_cases h4 : vec.length = 0
        · have d4 : decide ((vec.length : Int) = 0) = true := decide_eq_true (by omega)
          have d5 : ((vec.length : Int) == 0) = true := by rw [beq_iff_eq]; omega
          clear hb hrc h1 h2 h3
          go_enter Try.func20, Try.ntmps20
          go_wp2_with fail
          (obtain ⟨s1, s2, s3, s4⟩ := endM w most last (.slice fa xs.length fc)
           generalize (w.alloc (.cells #[.int .i64 most, .int .i64 last, .slice fa xs.length fc] 54)).alloc (.cells #[.int .i64 most, .int .i64 last, .slice fa xs.length fc] 54) = W9 at *
           have HMA := Lib.hid (MAns.same (fc := fc) HA.out HFC.out HT.out s4)
           have HB9 := Lib.hid s4
           clear s4
           refine bodyPost_ret (v := .tuple #[.agg #[.int .i64 most, .int .i64 last, .slice fa xs.length fc], .int .i64 0, .int .i64 41]) (by simp [results, Try.results20, go_sem, s1, s2, s3]) rfl ⟨_, _, _, _, _, _, _, rfl, HMA, HB9.out, HR⟩)
        · have d4 : decide ((vec.length : Int) = 0) = false := decide_eq_false (by omega)
          have d5 : ((vec.length : Int) == 0) = false := by rw [beq_eq_false_iff_ne]; omega
          have hr : rightV vec = false := by
            rw [decide_eq_true (show 1 ≤ fr by omega), decide_eq_true (show 1 ≤ ag by omega), decide_eq_true (show 0 ≤ till by omega), show vec.isEmpty = false by cases vec; simp at h4; rfl] at hb
            simpa using hb
          rw [hr] at hrc
          have KR := Lib.hid hrc
          clear hb hrc h1 h2 h3 hr
          go_enter Try.func20, Try.ntmps20
          go_wp2_with (first | (go_at_call 34; refine KR.out.mono ?_; rintro e w1 ⟨rfl, hb1⟩; have HE1 := Lib.hid (HE.out.below hb1 HE.out.lt); clear hb1 KR b0 b1 b2 r0 r1 r2 f0 f1 f2; obtain ⟨⟨b0, b1, b2⟩, ⟨r0, r1, r2⟩, f0, f1, f2⟩ := HE1.out.facts) | fail)
          clear HE
          have HE := HE1
          (obtain ⟨s1, s2, s3, s4⟩ := HE.out.stop (.int .i64 most) (.int .i64 last) (.slice fa xs.length fc)
           change bodyPost _ _ _ _ _ (set3 w1 (w.heap.size + 1) (.int .i64 most) (.int .i64 last) (.slice fa xs.length fc))
           generalize set3 w1 (w.heap.size + 1) (.int .i64 most) (.int .i64 last) (.slice fa xs.length fc) = W9 at *
           have HMA := Lib.hid (MAns.same (fc := fc) HA.out HFC.out HT.out s4)
           have HB9 := Lib.hid s4
           clear s4
           refine bodyPost_ret (v := .tuple #[.agg #[.int .i64 most, .int .i64 last, .slice fa xs.length fc], .int .i64 0, .int .i64 41]) (by simp [results, Try.results20, go_sem, s1, s2, s3]) rfl ⟨_, _, _, _, _, _, _, rfl, HMA, HB9.out, HR⟩)
set_option maxHeartbeats 4000000 in
include hT h hp hvl hfc in
theorem refIssue_full (hb : issB fr ag till vec = true) (hml : most ≤ last) :
    Calls Try.prog 20 #[.agg #[.int .i64 most, .int .i64 last, .slice fa xs.length fc], .int .i64 fr, .int .i64 ag, .slice va vec.length vc, .int .i64 till] w (IsA T most last (xs.map (·.1)) fr ag vec till w) := by
  have hs := BSt.start w most last (.slice fa xs.length fc)
  have HE := Lib.hid hs
  have HA := Lib.hid h
  have HT := Lib.hid hT
  have HFC := Lib.hid hfc
  have HR : Hid (IsR most last (xs.map (·.1)) fr ag vec till 0 34 last (xs.map (·.1))) := Lib.hid (.inr ⟨rfl, .inr ⟨hb, hml, rfl⟩, rfl, rfl⟩)
  have hrc := refV_calls T va vc vec _ (fun i hi => Nat.lt_of_lt_of_le (hT i hi) hs.chg.size) (by omega) (hp.keep (w' := (w.alloc (.cells #[.int .i64 most, .int .i64 last, .slice fa xs.length fc] 54)).alloc (.cells #[.int .i64 0, .int .i64 0, .slice none 0 0] 54)) (T' := T) (fun i hi => hs.chg.block i (hT i hi)) (fun _ h => h))
  unfold issB at hb
  simp only [Bool.and_eq_true, decide_eq_true_eq, Bool.not_eq_true'] at hb
  obtain ⟨⟨⟨⟨hfr, hag⟩, htl⟩, hvec⟩, hr⟩ := hb
  rw [hr] at hrc
  have KR := Lib.hid hrc
  have hl0 : 0 < vec.length := List.length_pos_iff.2 (List.isEmpty_eq_false_iff.1 hvec)
  have d1 : decide (fr < 1) = false := decide_eq_false (by omega)
  have d2 : decide (ag < 1) = false := decide_eq_false (by omega)
  have d3 : decide (till < 0) = false := decide_eq_false (by omega)
  have d4 : decide ((vec.length : Int) = 0) = false := decide_eq_false (by omega)
  have d5 : ((vec.length : Int) == 0) = false := by rw [beq_eq_false_iff_ne]; omega
  have d6 : decide (most ≤ last) = true := decide_eq_true hml
  have d7 : ¬ vec.length = 0 := by omega
  clear h hp hT hs hrc hr hvec hfr hag htl hml hl0
  go_enter Try.func20, Try.ntmps20
  go_wp2_with (first | (go_at_call 34; refine KR.out.mono ?_; rintro e w1 ⟨rfl, hb1⟩; have HE1 := Lib.hid (HE.out.below hb1 HE.out.lt); clear hb1 KR; obtain ⟨⟨b0, b1, b2⟩, ⟨r0, r1, r2⟩, f0, f1, f2⟩ := HE1.out.facts) | fail)
  clear HE
  have HE := HE1
  (obtain ⟨s1, s2, s3, s4⟩ := HE.out.stop (.int .i64 most) (.int .i64 last) (.slice fa xs.length fc)
   change bodyPost _ _ _ _ _ (set3 w1 (w.heap.size + 1) (.int .i64 most) (.int .i64 last) (.slice fa xs.length fc))
   generalize set3 w1 (w.heap.size + 1) (.int .i64 most) (.int .i64 last) (.slice fa xs.length fc) = W9 at *
   have HMA := Lib.hid (MAns.same (fc := fc) HA.out HFC.out HT.out s4)
   have HB9 := Lib.hid s4
   clear s4
   refine bodyPost_ret (v := .tuple #[.agg #[.int .i64 most, .int .i64 last, .slice fa xs.length fc], .int .i64 0, .int .i64 34]) (by simp [results, Try.results20, go_sem, s1, s2, s3]) rfl ⟨_, _, _, _, _, _, _, rfl, HMA, HB9.out, HR⟩)
set_option maxHeartbeats 4000000 in
include hT h hp hvl in
theorem refIssue_yes (hlen : xs.length ≤ 900) (hb : issB fr ag till vec = true) (hml : last < most) (hmost : most ≤ 9007199254740992) (hl0' : 0 ≤ last) :
    Calls Try.prog 20 #[.agg #[.int .i64 most, .int .i64 last, .slice fa xs.length fc], .int .i64 fr, .int .i64 ag, .slice va vec.length vc, .int .i64 till] w (IsA T most last (xs.map (·.1)) fr ag vec till w) := by
  obtain ⟨i0, hi, hz0, hz1, hz2⟩ := info_parts info30
  have hs := BSt.start w most last (.slice fa xs.length fc)
  have HE := Lib.hid hs
  have HA := Lib.hid h
  have HT := Lib.hid hT
  have HP := Lib.hid hp
  have HL := Lib.hid hlen
  have HR : Hid (IsR most last (xs.map (·.1)) fr ag vec till (last + 1) 0 (last + 1) (xs.map (·.1) ++ [⟨last + 1, fr, ag, vec, till⟩])) := Lib.hid (.inl ⟨rfl, rfl, rfl, hb, hml, rfl⟩)
  have hrc := refV_calls T va vc vec _ (fun i hi => Nat.lt_of_lt_of_le (hT i hi) hs.chg.size) (by omega) (hp.keep (w' := (w.alloc (.cells #[.int .i64 most, .int .i64 last, .slice fa xs.length fc] 54)).alloc (.cells #[.int .i64 0, .int .i64 0, .slice none 0 0] 54)) (T' := T) (fun i hi => hs.chg.block i (hT i hi)) (fun _ h => h))
  unfold issB at hb
  simp only [Bool.and_eq_true, decide_eq_true_eq, Bool.not_eq_true'] at hb
  obtain ⟨⟨⟨⟨hfr, hag⟩, htl⟩, hvec⟩, hr⟩ := hb
  rw [hr] at hrc
  have KR := Lib.hid hrc
  have hl0 : 0 < vec.length := List.length_pos_iff.2 (List.isEmpty_eq_false_iff.1 hvec)
  have d1 : decide (fr < 1) = false := decide_eq_false (by omega)
  have d2 : decide (ag < 1) = false := decide_eq_false (by omega)
  have d3 : decide (till < 0) = false := decide_eq_false (by omega)
  have d4 : decide ((vec.length : Int) = 0) = false := decide_eq_false (by omega)
  have d5 : ((vec.length : Int) == 0) = false := by rw [beq_eq_false_iff_ne]; omega
  have d6 : decide (most ≤ last) = false := decide_eq_false (by omega)
  have d7 : ¬ vec.length = 0 := by omega
  have d8 : IntKind.i64.wrap (last + 1) = last + 1 := IntWalk.i64_in _ (by omega)
  clear h hp hT hs hrc hr hvec hfr hag htl hml hl0 hlen
  go_enter Try.func20, Try.ntmps20
  go_wp2_with (first
    | (go_at_call 34; refine KR.out.mono ?_; rintro e w1 ⟨rfl, hb1⟩; have HE1 := Lib.hid (HE.out.below hb1 HE.out.lt); clear hb1 KR; obtain ⟨⟨b0, b1, b2⟩, ⟨r0, r1, r2⟩, f0, f1, f2⟩ := HE1.out.facts; have H5 := Lib.hid (PSt.start HE1.out (last + 1)); obtain ⟨o0, o1, o2, o3⟩ := H5.out.atOut; obtain ⟨⟨c0, c1, c2⟩, ⟨q0, q1, q2⟩, p0, p1, p2⟩ := H5.out.b.facts; have HSRC : Hid (0 < xs.length → ∃ ad, fa = some ad ∧ ∀ j u, (flatO xs)[j]? = some u → (w1.alloc (.cells #[.int .i64 most, .int .i64 (last + 1), .slice none 0 0] 54)).cell? (ad.add j) = some u) := Lib.hid (OAt.src HA.out HT.out H5.out.b.chg))
    | (at_builtin; refine wpList_append_rows _ rfl _ _ 39 rfl (w1.heap.size + 1) 30 i0 _ 5 56 Try.underlying39 hi hz0 hz1 hz2 rfl (by decide) _ 0 (flatO []) rfl H5.out.own fa xs.length fc (flatO xs) rfl (flatO_length xs) HSRC.out (flatO_one xs) (by have := HL.out; unfold maxLen; omega) (by have := HL.out; omega) (by have := H5.out.lt; omega) ?_; intro fs6 fc6 w6 hown6 hg6 hat6; rw [Nat.zero_add] at hown6 hat6 ⊢; obtain ⟨k1, k2⟩ := H5.out.after hg6; have H6 : Hid (PSt w (w6.setCell ⟨w1.heap.size, 2, none⟩ (.slice fs6 xs.length fc6)) w.heap.size w1.heap.size most last (last + 1) (.slice fa xs.length fc) xs (.slice fs6 xs.length fc6)) := Lib.hid (H5.out.appends hg6 (by rw [List.length_nil, Nat.zero_add]; exact hown6)); clear o0 o1 o2 o3 c0 c1 c2 q0 q1 q2 p0 p1 p2; obtain ⟨o0, o1, o2, o3⟩ := H6.out.atOut; obtain ⟨⟨c0, c1, c2⟩, ⟨q0, q1, q2⟩, p0, p1, p2⟩ := H6.out.b.facts; have HCN : Hid (∀ j u, (flatO [((⟨last + 1, fr, ag, vec, till⟩ : Of), va, vc)])[j]? = some u → ((w6.setCell ⟨w1.heap.size, 2, none⟩ (.slice fs6 xs.length fc6)).alloc (.cells #[.int .i64 (last + 1), .int .i64 fr, .int .i64 ag, .slice va vec.length vc, .int .i64 till] 30)).cell? ((⟨w6.heap.size, 0, none⟩ : Addr).add j) = some u) := Lib.hid (by
        have h9 := cells_new (w6.setCell ⟨w1.heap.size, 2, none⟩ (.slice fs6 xs.length fc6)) (cellsO (⟨last + 1, fr, ag, vec, till⟩, va, vc)) 30 (flatO [((⟨last + 1, fr, ag, vec, till⟩ : Of), va, vc)]) (by simp [flatO])
        rw [show (w6.setCell ⟨w1.heap.size, 2, none⟩ (.slice fs6 xs.length fc6)).heap.size = w6.heap.size by simp [World.setCell]] at h9
        exact h9))
    | (at_builtin; refine wpList_append_rows _ rfl _ _ 39 rfl (w1.heap.size + 1) 30 i0 _ 5 56 Try.underlying39 hi hz0 hz1 hz2 rfl (by decide) _ xs.length (flatO xs) rfl (H6.out.alloc _).own (some ⟨w6.heap.size, 0, none⟩) 1 1 (flatO [((⟨last + 1, fr, ag, vec, till⟩ : Of), va, vc)]) rfl rfl (fun _ => ⟨_, rfl, HCN.out⟩) (flatO_one _) (by have := HL.out; unfold maxLen; omega) (by have := HL.out; omega) (by have := (H6.out.alloc (.cells #[.int .i64 (last + 1), .int .i64 fr, .int .i64 ag, .slice va vec.length vc, .int .i64 till] 30)).lt; omega) ?_; intro fs7 fc7 w7 hown7 hg7 hat7; obtain ⟨k3, k4⟩ := (H6.out.alloc _).after hg7; have H7 := Lib.hid ((H6.out.alloc _).append hg7 hown7); clear o0 o1 o2 o3 c0 c1 c2 q0 q1 q2 p0 p1 p2; obtain ⟨o0, o1, o2, o3⟩ := H7.out.atOut; obtain ⟨⟨c0, c1, c2⟩, ⟨q0, q1, q2⟩, p0, p1, p2⟩ := H7.out.b.facts)
    | fail)
  have ne1 : ¬ w1.heap.size = w.heap.size + 1 := by have := H7.out.le; omega
  have ne2 : ¬ w.heap.size + 1 = w1.heap.size := by have := H7.out.le; omega
  have HLE := Lib.hid H7.out.le
  clear H5 H6 HCN HSRC k1 k2 k3 k4 hat6 hat7 hg6 hg7 hown6 hown7
  generalize w7.setCell ⟨w1.heap.size, 2, none⟩ (.slice fs7 (xs.length + 1) fc7) = W7 at *
  generalize w1.heap.size = O at *
  go_region
  obtain ⟨s1, s2, s3, s4⟩ := H7.out.b.stop (.int .i64 most) (.int .i64 (last + 1)) (.slice fs7 (xs.length + 1) fc7)
  have hown : (set3 W7 (w.heap.size + 1) (.int .i64 most) (.int .i64 (last + 1)) (.slice fs7 (xs.length + 1) fc7)).ownsRow (O + 1) 30 5 (.slice fs7 (xs.length + 1) fc7) (xs ++ [((⟨last + 1, fr, ag, vec, till⟩ : Of), va, vc)]).length (flatO (xs ++ [((⟨last + 1, fr, ag, vec, till⟩ : Of), va, vc)])) := row_far (row_far (row_far H7.out.own (p := ⟨w.heap.size + 1, 0, none⟩) (by show w.heap.size + 1 < _; have := HLE.out; omega) (.int .i64 most)) (p := ⟨w.heap.size + 1, 1, none⟩) (by show w.heap.size + 1 < _; have := HLE.out; omega) (.int .i64 (last + 1))) (p := ⟨w.heap.size + 1, 2, none⟩) (by show w.heap.size + 1 < _; have := HLE.out; omega) (.slice fs7 (xs.length + 1) fc7)
  have HMA := Lib.hid (MAns.of_row (T := T) (w := w) (w' := (set3 W7 (w.heap.size + 1) (.int .i64 most) (.int .i64 (last + 1)) (.slice fs7 (xs.length + 1) fc7)).drew) hown (by have := HLE.out; omega) (fun y hy => by
    rcases List.mem_append.1 hy with hy | hy
    · exact HA.out.vec y hy
    · rw [List.mem_singleton] at hy; subst hy; exact HP.out) HT.out (below_drew s4))
  rw [List.map_append] at HMA
  have HB9 := Lib.hid (below_drew s4)
  have t1 : (set3 W7 (w.heap.size + 1) (.int .i64 most) (.int .i64 (last + 1)) (.slice fs7 (xs.length + 1) fc7)).drew.cell? ⟨w.heap.size + 1, 0, none⟩ = some (.int .i64 most) := s1
  have t2 : (set3 W7 (w.heap.size + 1) (.int .i64 most) (.int .i64 (last + 1)) (.slice fs7 (xs.length + 1) fc7)).drew.cell? ⟨w.heap.size + 1, 1, none⟩ = some (.int .i64 (last + 1)) := s2
  have t3 : (set3 W7 (w.heap.size + 1) (.int .i64 most) (.int .i64 (last + 1)) (.slice fs7 (xs.length + 1) fc7)).drew.cell? ⟨w.heap.size + 1, 2, none⟩ = some (.slice fs7 (xs.length + 1) fc7) := s3
  clear s1 s2 s3 s4 hown o0 o1 o2 o3 c0 c1 c2 q0 q1 q2 p0 p1 p2
  change Exit.then _ _ _ _ (set3 W7 (w.heap.size + 1) (.int .i64 most) (.int .i64 (last + 1)) (.slice fs7 (xs.length + 1) fc7)).drew
  generalize (set3 W7 (w.heap.size + 1) (.int .i64 most) (.int .i64 (last + 1)) (.slice fs7 (xs.length + 1) fc7)).drew = W9 at *
  go_wp2
  refine bodyPost_ret (v := .tuple #[.agg #[.int .i64 most, .int .i64 (last + 1), .slice fs7 (xs.length + 1) fc7], .int .i64 (last + 1), .int .i64 0]) (by simp [results, Try.results20, go_sem, t1, t2, t3]) rfl ⟨_, _, _, _, _, _, _, rfl, HMA, HB9.out, HR⟩
include hT h hp hvl hfc in
theorem refIssue_calls (hlen : xs.length ≤ 900) (hmost : most ≤ 9007199254740992) (hl0' : 0 ≤ last) :
    Calls Try.prog 20 #[.agg #[.int .i64 most, .int .i64 last, .slice fa xs.length fc], .int .i64 fr, .int .i64 ag, .slice va vec.length vc, .int .i64 till] w (IsA T most last (xs.map (·.1)) fr ag vec till w) := by
  cases hb : issB fr ag till vec with
  | false => exact refIssue_bad T most last fr ag till fa va g fc vc xs vec w hT h hp hvl hfc hb
  | true =>
    by_cases hml : last < most
    · exact refIssue_yes T most last fr ag till fa va g fc vc xs vec w hT h hp hvl hlen hb hml hmost hl0'
    · exact refIssue_full T most last fr ag till fa va g fc vc xs vec w hT h hp hvl hfc hb (by omega)
end
end Go.Proofs.Ytecgfghmmlpghaa.O
