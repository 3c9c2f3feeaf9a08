/- Do: one act. -/
import Derived.Test.YtdckcbahfdcafaaInv
set_option linter.unusedVariables false
set_option linter.unusedSimpArgs false
namespace Go.Proofs.Ytdckcbahfdcafaa.F
open Go.RowKit Go.Proofs.Ytdckcbahfdcafaa.Hp Go.Proofs.Ytdckcbahfdcafaa.Mp
set_option maxRecDepth 100000

/-- An act. -/
structure A where
  kind : Int
  id : Int
  role : Int
  weight : Int
  time : Int
def encA (a : A) : Value := .agg #[.int .i64 a.kind, .int .i64 a.id, .int .i64 a.role, .int .i64 a.weight, .int .i64 a.time]
def dropR (R : List (Int × Int)) (role : Int) : List (Int × Int) := R.set role.toNat ((R[role.toNat]?.getD (0, 0)).1 - 1, (R[role.toNat]?.getD (0, 0)).2)
/-- What Do answers, and the table behind it. -/
def doF (cap : Int) (l : List (Int × Fr)) (R : List (Int × Int)) (a : A) : (Bool × Int) × List (Int × Fr) × List (Int × Int) :=
  if a.kind = 0 then subF cap l R a.id a.role a.weight a.time
  else if a.kind = 1 then ((false, (discF l a.id a.time).1), (discF l a.id a.time).2, R)
  else if a.kind = 2 then match mget l a.id with
    | none => ((false, 0), l, R)
    | some f => ((true, 0), mdel l a.id, dropR R f.role)
  else ((false, (quietF l a.id (a.kind == 3)).1), (quietF l a.id (a.kind == 3)).2, R)

theorem sub_inv {cap : Int} {l : List (Int × Fr)} {R : List (Int × Int)} (h : Inv cap l R) (id role weight time : Int) :
    Inv cap (subF cap l R id role weight time).2.1 (subF cap l R id role weight time).2.2 ∧ (subF cap l R id role weight time).2.1.length ≤ l.length + 1 := by
  unfold subF
  by_cases hm : 1 ≤ id ∧ 1 ≤ role ∧ role ≤ 32 ∧ 1 ≤ weight ∧ weight ≤ 1000 ∧ 0 ≤ time ∧ time ≤ 9007199254740992
  · rw [if_neg (fun hh => hh hm)]
    obtain ⟨r, hr⟩ := Int.eq_ofNat_of_zero_le (show 0 ≤ role from by omega)
    subst hr
    have hlt : r < R.length := by rw [h.len]; omega
    have hR := List.getElem?_eq_getElem hlt
    rcases hp : R[r] with ⟨mr, wr⟩
    rw [hp] at hR
    cases hf : mget l id with
    | some f =>
      simp only
      split
      · exact ⟨h, by simp⟩
      · rename_i h1
        split
        · exact ⟨h, by simp⟩
        · rename_i h2
          refine ⟨h.put_old hf _ ⟨rfl, hm.1, hm.2.1, hm.2.2.1, hm.2.2.2.1, hm.2.2.2.2.1, hm.2.2.2.2.2.1, hm.2.2.2.2.2.2, fun _ => rfl⟩ (Classical.not_not.1 h1).symm (Classical.not_not.1 h2).symm, ?_⟩
          rw [length_mput, hf]
          simp
    | none =>
      simp only [Int.toNat_natCast, hR, Option.getD_some]
      split
      · exact ⟨h, by simp⟩
      · rename_i h1
        split
        · exact ⟨h, by simp⟩
        · rename_i h2
          refine ⟨h.put_new hf ⟨id, r, weight, true, false, time, 0⟩ ⟨rfl, hm.1, hm.2.1, hm.2.2.1, hm.2.2.2.1, hm.2.2.2.2.1, hm.2.2.2.2.2.1, hm.2.2.2.2.2.2, fun _ => rfl⟩ r rfl mr wr hR (fun h0 => Classical.not_not.1 fun hne => h1 ⟨h0, hne⟩) (by omega), ?_⟩
          rw [length_mput, hf]
          simp
  · rw [if_pos hm]
    exact ⟨h, by simp⟩
theorem disc_inv {cap : Int} {l : List (Int × Fr)} {R : List (Int × Int)} (h : Inv cap l R) (id now : Int) : Inv cap (discF l id now).2 R ∧ (discF l id now).2.length ≤ l.length + 1 := by
  unfold discF
  cases hf : mget l id with
  | none => exact ⟨h, by simp⟩
  | some f =>
    simp only
    split
    · rename_i h0
      have g := h.each id f hf
      refine ⟨h.put_old hf _ ?_ ?_ ?_, by rw [length_mput, hf]; simp⟩
      all_goals unfold awayF at h0 ⊢
      · split at h0
        · simp at h0
        · split at h0
          · simp at h0
          · rename_i h1 h2
            rw [if_neg h1, if_neg h2]
            exact ⟨g.id, g.id1, g.role1, g.role2, g.weight1, g.weight2, g.time1, g.time2, fun hh => by simp at hh⟩
      · split
        · rfl
        · split <;> rfl
      · split
        · rfl
        · split <;> rfl
    · exact ⟨h, by simp⟩
theorem quiet_inv {cap : Int} {l : List (Int × Fr)} {R : List (Int × Int)} (h : Inv cap l R) (id : Int) (on : Bool) : Inv cap (quietF l id on).2 R ∧ (quietF l id on).2.length ≤ l.length + 1 := by
  unfold quietF
  cases hf : mget l id with
  | none => exact ⟨h, by simp⟩
  | some f =>
    have g := h.each id f hf
    exact ⟨h.put_old hf _ ⟨g.id, g.id1, g.role1, g.role2, g.weight1, g.weight2, g.time1, g.time2, g.till⟩ rfl rfl, by rw [length_mput, hf]; simp⟩
theorem do_inv {cap : Int} {l : List (Int × Fr)} {R : List (Int × Int)} (h : Inv cap l R) (a : A) : Inv cap (doF cap l R a).2.1 (doF cap l R a).2.2 ∧ (doF cap l R a).2.1.length ≤ l.length + 1 := by
  unfold doF
  split
  · exact sub_inv h _ _ _ _
  · split
    · exact disc_inv h _ _
    · split
      · cases hf : mget l a.id with
        | none => exact ⟨h, by simp⟩
        | some f =>
          obtain ⟨r, h1, h2, h3, h4⟩ := h.role hf
          simp only [dropR, h1, Int.toNat_natCast, h4, Option.getD_some]
          refine ⟨h.del hf r h1 _ _ h4, ?_⟩
          have := length_mdel (l := l) (k := a.id) (by rw [hf]; rfl)
          omega
      · exact quiet_inv h _ _

theorem drop_calls {b m : Nat} {cap : Int} {l : List (Int × Fr)} {R : List (Int × Int)} (id : Int) (w : World) (h : Tab w b m cap l R) (hI : Inv cap l R) (hn : l.length ≤ 900) :
    Calls Try.prog 24 #[.pointer (some ⟨b, 0, none⟩), .int .i64 id] w fun e w' => e = .returned (.bool (mget l id).isSome) ∧
      Tab w' b m cap (match mget l id with | none => l | some f => mdel l id) (match mget l id with | none => R | some f => dropR R f.role) ∧ Chg (Own b m) w w' := by
  cases hf : mget l id with
  | none => exact (drop_no id w h hf).mono fun e w' ⟨e1, e2⟩ => ⟨e1, h.below e2, Chg.of_below e2 _⟩
  | some f =>
    obtain ⟨r, h1, h2, h3, h4⟩ := hI.role hf
    have hpos := cnt_pos hf
    rw [h1] at hpos
    have hle := cnt_le l r
    refine (drop_yes id w h f hf r h1 h3 _ _ h4 ⟨hpos, by omega⟩).mono fun e w' ⟨e1, e2, e3⟩ => ⟨e1, ?_, e3⟩
    simp only [dropR, h1, Int.toNat_natCast, h4, Option.getD_some]
    exact e2

set_option maxHeartbeats 2000000 in
theorem do_calls {b m : Nat} {cap : Int} {l : List (Int × Fr)} {R : List (Int × Int)} (a : A) (w : World) (h : Tab w b m cap l R) (hI : Inv cap l R) (hn : l.length ≤ 900) :
    Calls Try.prog 7 #[.pointer (some ⟨b, 0, none⟩), encA a] w fun e w' => e = .returned (.tuple #[.bool (doF cap l R a).1.1, .int .i64 (doF cap l R a).1.2]) ∧
      Tab w' b m cap (doF cap l R a).2.1 (doF cap l R a).2.2 ∧ Chg (Own b m) w w' := by
  obtain ⟨kind, id, role, weight, time⟩ := a
  have HT := Lib.hid (h.alloc (.cells #[.int .i64 kind, .int .i64 id, .int .i64 role, .int .i64 weight, .int .i64 time] 28))
  have HC := Lib.hid ((Chg.refl (Own b m) w).alloc (.cells #[.int .i64 kind, .int .i64 id, .int .i64 role, .int .i64 weight, .int .i64 time] 28))
  unfold doF encA
  simp only
  by_cases h0 : kind = 0
  · have HS := Lib.hid (sub_calls id role weight time _ HT.out hI hn)
    subst h0
    simp only [if_true]
    generalize subF cap l R id role weight time = s at *
    obtain ⟨⟨x, y⟩, l', R'⟩ := s
    clear h hI hn
    go_enter Try.func7, Try.ntmps7
    go_wp2_with fail
    refine HS.out.mono ?_
    rintro e w' ⟨rfl, e2, e3⟩
    have HQ := Lib.hid e2
    have HC2 := Lib.hid (HC.out.trans e3)
    clear e2 e3 HS HC
    go_wp2
    go_ret2
    exact ⟨rfl, HQ.out, HC2.out⟩
  · rw [if_neg h0]
    have k0 : (kind == 0) = false := by rw [beq_eq_false_iff_ne]; exact h0
    by_cases h1 : kind = 1
    · have HS := Lib.hid (disc_calls id time _ HT.out (fun k f hf => ⟨(hI.each k f hf).time1, (hI.each k f hf).time2⟩))
      subst h1
      simp only [if_true]
      generalize discF l id time = s at *
      obtain ⟨y, l'⟩ := s
      clear h hI hn h0 k0
      go_enter Try.func7, Try.ntmps7
      go_wp2_with fail
      refine HS.out.mono ?_
      rintro e w' ⟨rfl, e2, e3⟩
      have HQ := Lib.hid e2
      have HC2 := Lib.hid (HC.out.trans e3)
      clear e2 e3 HS HC
      go_wp2
      go_ret2
      exact ⟨rfl, HQ.out, HC2.out⟩
    · rw [if_neg h1]
      have k1 : (kind == 1) = false := by rw [beq_eq_false_iff_ne]; exact h1
      by_cases h2 : kind = 2
      · have HS := Lib.hid (drop_calls id _ HT.out hI hn)
        subst h2
        simp only [if_true]
        have hs : (match mget l id with | none => ((false, (0 : Int)), l, R) | some f => ((true, 0), mdel l id, dropR R f.role)) = (((mget l id).isSome, 0), (match mget l id with | none => l | some f => mdel l id), (match mget l id with | none => R | some f => dropR R f.role)) := by cases mget l id <;> rfl
        rw [hs]
        generalize (match mget l id with | none => l | some f => mdel l id) = l' at *
        generalize (match mget l id with | none => R | some f => dropR R f.role) = R' at *
        generalize (mget l id).isSome = s at *
        clear h hI hn h0 k0 h1 k1 hs
        go_enter Try.func7, Try.ntmps7
        go_wp2_with fail
        refine HS.out.mono ?_
        rintro e w' ⟨rfl, e2, e3⟩
        have HQ := Lib.hid e2
        have HC2 := Lib.hid (HC.out.trans e3)
        clear e2 e3 HS HC
        go_wp2
        go_ret2
        exact ⟨rfl, HQ.out, HC2.out⟩
      · rw [if_neg h2]
        have k2 : (kind == 2) = false := by rw [beq_eq_false_iff_ne]; exact h2
        have HS := Lib.hid (quiet_calls id (kind == 3) _ HT.out)
        generalize quietF l id (kind == 3) = s at *
        obtain ⟨y, l'⟩ := s
        cases k3 : kind == 3
        all_goals
          rw [k3] at HS
          clear h hI hn h0 h1 h2
          go_enter Try.func7, Try.ntmps7
          go_wp2_with fail
          refine HS.out.mono ?_
          rintro e w' ⟨rfl, e2, e3⟩
          have HQ := Lib.hid e2
          have HC2 := Lib.hid (HC.out.trans e3)
          clear e2 e3 HS HC
          go_wp2
          go_ret2
          exact ⟨rfl, HQ.out, HC2.out⟩
end Go.Proofs.Ytdckcbahfdcafaa.F
