/- Walks: Subscribe, where it is refused. -/
import Derived.Test.YtdckcbahfdcafaaDisc
set_option linter.unusedVariables false
set_option linter.unusedSimpArgs false
namespace Go.Proofs.Ytdckcbahfdcafaa.F
open Go.RowKit Go.Proofs.Ytdckcbahfdcafaa.Hp Go.Proofs.Ytdckcbahfdcafaa.Mp
set_option maxRecDepth 100000

set_option maxHeartbeats 400000 in
theorem sub_arg {b m : Nat} {cap : Int} {l : List (Int × Fr)} {R : List (Int × Int)} (id role weight time : Int) (w : World) (h : Tab w b m cap l R) (hm : ¬ (1 ≤ id ∧ 1 ≤ role ∧ role ≤ 32 ∧ 1 ≤ weight ∧ weight ≤ 1000 ∧ 0 ≤ time ∧ time ≤ 9007199254740992)) :
    Calls Try.prog 11 #[.pointer (some ⟨b, 0, none⟩), .int .i64 id, .int .i64 role, .int .i64 weight, .int .i64 time] w fun e w' => e = .returned (.tuple #[.bool false, .int .i64 41]) ∧ Below w.heap.size w w' := by
  have HG := Lib.hid (get_calls id w h)
  have HT := Lib.hid h
  have HM := Lib.hid (fun W => may_no id role weight time W hm)
  clear h hm
  generalize got l id = f at *
  generalize (mget l id).isSome = s at *
  obtain ⟨fid, frole, fw, fu, fq, ft, fl⟩ := f
  go_enter Try.func11, Try.ntmps11
  go_wp2_with fail
  refine HG.out.mono ?_
  rintro e w1 ⟨rfl, hb⟩
  simp only [encF_agg]
  have HT1 := Lib.hid ((HT.out.below hb).alloc (.cells #[.int .i64 fid, .int .i64 frole, .int .i64 fw, .bool fu, .bool fq, .int .i64 ft, .int .i64 fl] 30))
  have HB := Lib.hid hb
  clear hb HG
  go_wp2_with fail
  refine (made_yes _ HT1.out).mono ?_
  rintro e w' ⟨rfl, rfl⟩
  go_wp2_with fail
  refine (HM.out _).mono ?_
  rintro e w' ⟨rfl, rfl⟩
  go_wp2
  go_ret2
  exact ⟨rfl, (HB.out.trans ((Below.refl w1.heap.size w1).alloc (Nat.le_refl _) _ |>.mono HB.out.size))⟩

set_option maxHeartbeats 400000 in
theorem sub_role {b m : Nat} {cap : Int} {l : List (Int × Fr)} {R : List (Int × Int)} (id role weight time : Int) (w : World) (h : Tab w b m cap l R) (hm : 1 ≤ id ∧ 1 ≤ role ∧ role ≤ 32 ∧ 1 ≤ weight ∧ weight ≤ 1000 ∧ 0 ≤ time ∧ time ≤ 9007199254740992) (f : Fr) (hf : mget l id = some f) (hr : f.role ≠ role) :
    Calls Try.prog 11 #[.pointer (some ⟨b, 0, none⟩), .int .i64 id, .int .i64 role, .int .i64 weight, .int .i64 time] w fun e w' => e = .returned (.tuple #[.bool false, .int .i64 21]) ∧ Below w.heap.size w w' := by
  have HG := get_calls id w h
  simp only [got, hf, Option.getD_some, Option.isSome_some] at HG
  have HG := Lib.hid HG
  have HT := Lib.hid h
  have HM := Lib.hid (fun W => may_yes id role weight time W hm)
  clear h hm hf
  obtain ⟨fid, frole, fw, fu, fq, ft, fl⟩ := f
  have hne : (frole == role) = false := by rw [beq_eq_false_iff_ne]; exact hr
  clear hr
  go_enter Try.func11, Try.ntmps11
  go_wp2_with fail
  refine HG.out.mono ?_
  rintro e w1 ⟨rfl, hb⟩
  simp only [encF_agg]
  have HT1 := Lib.hid ((HT.out.below hb).alloc (.cells #[.int .i64 fid, .int .i64 frole, .int .i64 fw, .bool fu, .bool fq, .int .i64 ft, .int .i64 fl] 30))
  have HB := Lib.hid hb
  clear hb HG
  go_wp2_with fail
  refine (made_yes _ HT1.out).mono ?_
  rintro e w' ⟨rfl, rfl⟩
  go_wp2_with fail
  refine (HM.out _).mono ?_
  rintro e w' ⟨rfl, rfl⟩
  go_wp2
  go_ret2
  exact ⟨rfl, (HB.out.trans ((Below.refl w1.heap.size w1).alloc (Nat.le_refl _) _ |>.mono HB.out.size))⟩

set_option maxHeartbeats 1000000 in
/-- The first part, where nothing refuses: up to the role's address. -/
theorem sub_weight {b m : Nat} {cap : Int} {l : List (Int × Fr)} {R : List (Int × Int)} (id weight time : Int) (r : Nat) (w : World) (h : Tab w b m cap l R) (hm : 1 ≤ id ∧ 1 ≤ (r : Int) ∧ (r : Int) ≤ 32 ∧ 1 ≤ weight ∧ weight ≤ 1000 ∧ 0 ≤ time ∧ time ≤ 9007199254740992)
    (hf : ∀ f, mget l id = some f → f.role = r) (mr wr : Int) (hR : R[r]? = some (mr, wr)) (hmr : 0 < mr) (hw : wr ≠ weight) :
    Calls Try.prog 11 #[.pointer (some ⟨b, 0, none⟩), .int .i64 id, .int .i64 r, .int .i64 weight, .int .i64 time] w fun e w' => e = .returned (.tuple #[.bool false, .int .i64 22]) ∧ Below w.heap.size w w' := by
  have HG := Lib.hid (get_calls id w h)
  have HT := Lib.hid h
  have HM := Lib.hid (fun W => may_yes id r weight time W hm)
  have hi1 : (0 : Int) ≤ (r : Int) := by omega
  have hi2 : (r : Int) < 33 := by omega
  have HR := Lib.hid hR
  have hne : (wr == weight) = false := by rw [beq_eq_false_iff_ne]; exact hw
  have hpos : decide (0 < mr) = true := decide_eq_true hmr
  have hfr : ((mget l id).isSome = false) ∨ ((got l id).role = r ∧ (mget l id).isSome = true) := by
    unfold got
    cases e : mget l id with
    | none => exact .inl rfl
    | some f => exact .inr ⟨hf f e, rfl⟩
  have HF := Lib.hid hfr
  clear h hm hf hw hR hfr hmr
  generalize got l id = f at *
  generalize (mget l id).isSome = s at *
  obtain ⟨fid, frole, fw, fu, fq, ft, fl⟩ := f
  rcases HF.out with rfl | ⟨hro, rfl⟩
  all_goals
    try (simp only at hro; have hq : (frole == (r : Int)) = true := (by rw [hro]; exact beq_self_eq_true _); clear hro)
    clear HF
    go_enter Try.func11, Try.ntmps11
    go_wp2_with fail
    refine HG.out.mono ?_
    rintro e w1 ⟨rfl, hb⟩
    simp only [encF_agg]
    have HT1 := Lib.hid ((HT.out.below hb).alloc (.cells #[.int .i64 fid, .int .i64 frole, .int .i64 fw, .bool fu, .bool fq, .int .i64 ft, .int .i64 fl] 30))
    have HB := Lib.hid hb
    have h2 := HT1.out.many' HR.out
    have h3 := HT1.out.weight' HR.out
    clear hb HG
    go_wp2_with fail
    refine (made_yes _ HT1.out).mono ?_
    rintro e w' ⟨rfl, rfl⟩
    go_wp2_with fail
    refine (HM.out _).mono ?_
    rintro e w' ⟨rfl, rfl⟩
    go_wp2
    go_ret2
    exact ⟨rfl, (HB.out.trans ((Below.refl w1.heap.size w1).alloc (Nat.le_refl _) _ |>.mono HB.out.size))⟩
end Go.Proofs.Ytdckcbahfdcafaa.F
