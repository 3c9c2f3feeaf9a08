/- Walks: Table.Issue where it refuses. -/
import Derived.Test.YtecgfghmmlpghaaIssue
set_option linter.unusedVariables false
set_option linter.unusedSimpArgs false
namespace Go.Proofs.Ytecgfghmmlpghaa.O
open Go.RowKit Go.Proofs.Ytecgfghmmlpghaa.Hp Go.Proofs.Ytecgfghmmlpghaa.Mp
set_option maxRecDepth 100000
attribute [local irreducible] Go.wpQuiet
/-- May these be an offer? -/
def issB (fr ag till : Int) (vec : List Pt) : Bool := decide (1 ≤ fr) && decide (1 ≤ ag) && decide (0 ≤ till) && !vec.isEmpty && rightV vec
section
variable {b mo mf ma : Nat} {most last : Int} {lo : List (Int × Ox)} {lf la : List (Int × Nat)}
set_option maxHeartbeats 4000000 in
theorem issue_bad (T : Nat → Prop) (fr ag till : Int) (va : Option Addr) (vc : Nat) (vec : List Pt) (w : World) (h : Tof w b mo mf ma most last lo lf la) (hp : PAt T w va vec) (hT : ∀ i, T i → i < w.heap.size)
    (hlen : vec.length ≤ 700) (hb : issB fr ag till vec = false) :
    Calls Try.prog 9 #[.pointer (some ⟨b, 0, none⟩), .int .i64 fr, .int .i64 ag, .slice va vec.length vc, .int .i64 till] w fun e w' => e = .returned (.tuple #[.int .i64 0, .int .i64 41]) ∧ Below w.heap.size w w' := by
  have HT := Lib.hid h
  have hrc := right_calls T va vc vec w hT (by omega) hp
  have KB := Lib.hid hb
  unfold issB at hb
  clear h hp hT hlen
  by_cases h1 : fr < 1
  · have d1 : decide (fr < 1) = true := decide_eq_true h1
    clear hb hrc h1
    (go_enter Try.func9, Try.ntmps9
     go_wp2_with (first | (go_at_call 25; refine (made_yes _ HT.out).mono ?_; rintro e w' ⟨rfl, rfl⟩) | (go_at_call 26; refine KR.out.mono ?_; rintro e w1 ⟨rfl, hb1⟩; have HB1 := Lib.hid hb1; clear hb1) | fail))
    exact bodyPost_ret (v := .tuple #[.int .i64 0, .int .i64 41]) (by simp [results, Try.results9, go_sem]) rfl ⟨rfl, Below.refl _ _⟩
  have d1 : decide (fr < 1) = false := decide_eq_false h1
  rw [decide_eq_true (show 1 ≤ fr by omega)] at hb
  clear h1
  by_cases h1 : ag < 1
  · have d2 : decide (ag < 1) = true := decide_eq_true h1
    clear hb hrc h1
    (go_enter Try.func9, Try.ntmps9
     go_wp2_with (first | (go_at_call 25; refine (made_yes _ HT.out).mono ?_; rintro e w' ⟨rfl, rfl⟩) | (go_at_call 26; refine KR.out.mono ?_; rintro e w1 ⟨rfl, hb1⟩; have HB1 := Lib.hid hb1; clear hb1) | fail))
    exact bodyPost_ret (v := .tuple #[.int .i64 0, .int .i64 41]) (by simp [results, Try.results9, go_sem]) rfl ⟨rfl, Below.refl _ _⟩
  have d2 : decide (ag < 1) = false := decide_eq_false h1
  rw [decide_eq_true (show 1 ≤ ag by omega)] at hb
  clear h1
  by_cases h1 : till < 0
  · have d3 : decide (till < 0) = true := decide_eq_true h1
    clear hb hrc h1
    (go_enter Try.func9, Try.ntmps9
     go_wp2_with (first | (go_at_call 25; refine (made_yes _ HT.out).mono ?_; rintro e w' ⟨rfl, rfl⟩) | (go_at_call 26; refine KR.out.mono ?_; rintro e w1 ⟨rfl, hb1⟩; have HB1 := Lib.hid hb1; clear hb1) | fail))
    exact bodyPost_ret (v := .tuple #[.int .i64 0, .int .i64 41]) (by simp [results, Try.results9, go_sem]) rfl ⟨rfl, Below.refl _ _⟩
  have d3 : decide (till < 0) = false := decide_eq_false h1
  rw [decide_eq_true (show 0 ≤ till by omega)] at hb
  clear h1
  by_cases h1 : vec = []
  · subst h1
    clear hb hrc
    have d4 : decide ((([] : List Pt).length : Int) = 0) = true := rfl
    (go_enter Try.func9, Try.ntmps9
     go_wp2_with (first | (go_at_call 25; refine (made_yes _ HT.out).mono ?_; rintro e w' ⟨rfl, rfl⟩) | (go_at_call 26; refine KR.out.mono ?_; rintro e w1 ⟨rfl, hb1⟩; have HB1 := Lib.hid hb1; clear hb1) | fail))
    exact bodyPost_ret (v := .tuple #[.int .i64 0, .int .i64 41]) (by simp [results, Try.results9, go_sem]) rfl ⟨rfl, Below.refl _ _⟩
  have hl0 : 0 < vec.length := List.length_pos_iff.2 h1
  have d4 : decide ((vec.length : Int) = 0) = false := decide_eq_false (by omega)
  have d5 : ((vec.length : Int) == 0) = false := by rw [beq_eq_false_iff_ne]; omega
  have d6 : ¬ vec.length = 0 := by omega
  have d7 : rightV vec = false := by
    rw [List.isEmpty_eq_false_iff.2 h1] at hb
    simpa using hb
  rw [d7] at hrc
  have KR := Lib.hid hrc
  clear hb hrc h1 hl0 d7
  (go_enter Try.func9, Try.ntmps9
   go_wp2_with (first | (go_at_call 25; refine (made_yes _ HT.out).mono ?_; rintro e w' ⟨rfl, rfl⟩) | (go_at_call 26; refine KR.out.mono ?_; rintro e w1 ⟨rfl, hb1⟩; have HB1 := Lib.hid hb1; clear hb1) | fail))
  exact bodyPost_ret (v := .tuple #[.int .i64 0, .int .i64 41]) (by simp [results, Try.results9, go_sem]) rfl ⟨rfl, HB1.out⟩
set_option maxHeartbeats 4000000 in
theorem issue_full (T : Nat → Prop) (fr ag till : Int) (va : Option Addr) (vc : Nat) (vec : List Pt) (w : World) (h : Tof w b mo mf ma most last lo lf la) (hp : PAt T w va vec) (hT : ∀ i, T i → i < w.heap.size)
    (hb : issB fr ag till vec = true) (hlen : vec.length ≤ 700) (hml : most ≤ last) :
    Calls Try.prog 9 #[.pointer (some ⟨b, 0, none⟩), .int .i64 fr, .int .i64 ag, .slice va vec.length vc, .int .i64 till] w fun e w' => e = .returned (.tuple #[.int .i64 0, .int .i64 34]) ∧ Below w.heap.size w w' := by
  unfold issB at hb
  simp only [Bool.and_eq_true, decide_eq_true_eq, Bool.not_eq_true'] at hb
  obtain ⟨⟨⟨⟨hfr, hag⟩, htl⟩, hvec⟩, hr⟩ := hb
  have d1 : decide (fr < 1) = false := decide_eq_false (by omega)
  have d2 : decide (ag < 1) = false := decide_eq_false (by omega)
  have d3 : decide (till < 0) = false := decide_eq_false (by omega)
  have hl0 : 0 < vec.length := List.length_pos_iff.2 (List.isEmpty_eq_false_iff.1 hvec)
  have d4 : decide ((vec.length : Int) = 0) = false := decide_eq_false (by omega)
  have d5 : ((vec.length : Int) == 0) = false := by rw [beq_eq_false_iff_ne]; omega
  have d6 : ¬ vec.length = 0 := by omega
  have d7 : decide (most ≤ last) = true := decide_eq_true hml
  have HT := Lib.hid h
  have hrc := right_calls T va vc vec w hT (by omega) hp
  rw [hr] at hrc
  have KR := Lib.hid hrc
  clear h hp hT hrc hr hml hlen hfr hag htl hvec hl0
  (go_enter Try.func9, Try.ntmps9
   go_wp2_with (first | (go_at_call 25; refine (made_yes _ HT.out).mono ?_; rintro e w' ⟨rfl, rfl⟩) | (go_at_call 26; refine KR.out.mono ?_; rintro e w1 ⟨rfl, hb1⟩; have HB1 := Lib.hid hb1; clear hb1) | fail))
  have HT1 := Lib.hid (HT.out.below HB1.out)
  clear KR
  obtain ⟨c0, c1, c2, c3, c4⟩ := HT1.out.cells
  (refine wp_region_quietC (fun w' => w' = w1.drew) (by kernel_rfl) (by kernel_rfl) ?hc0 ?_
   case hc0 => (rfl)
   repeat ((first
             | go_big_quiet_skip
             | (refine wpQuiet_ex (by kernel_rfl) ?_
                apply Exists.intro
                refine ⟨fun w' hC => ?_, ?_⟩
                · skip
                  (subst hC)
                  go_simp
                  first
                    | done
                    | (with_reducible rfl)
                    | (fail)
                try simp only [Act.put, List.setIfInBounds_toArray, List.set_cons_zero, List.set_cons_succ])))
   refine wpQuiet_nil ?_
   intro w' hC)
  subst hC
  go_wp2_with fail
  exact bodyPost_ret (v := .tuple #[.int .i64 0, .int .i64 34]) (by simp [results, Try.results9, go_sem]) rfl ⟨rfl, below_drew HB1.out⟩
end
end Go.Proofs.Ytecgfghmmlpghaa.O
