/- What a frames table keeps to; what its functions do to it. -/
import Derived.Test.YtdckcbahfdcafaaSub3
set_option linter.unusedVariables false
set_option linter.unusedSimpArgs false
namespace Go.Proofs.Ytdckcbahfdcafaa.F
open Go.RowKit Go.Proofs.Ytdckcbahfdcafaa.Hp Go.Proofs.Ytdckcbahfdcafaa.Mp

/-- How many frameworks of a role. -/
def cnt : List (Int × Fr) → Int → Int
  | [], _ => 0
  | p :: l, r => (if p.2.role = r then 1 else 0) + cnt l r
theorem cnt_nonneg : ∀ (l : List (Int × Fr)) (r : Int), 0 ≤ cnt l r
  | [], _ => Int.le_refl _
  | p :: l, r => by have := cnt_nonneg l r; simp only [cnt]; split <;> omega
theorem cnt_le : ∀ (l : List (Int × Fr)) (r : Int), cnt l r ≤ l.length
  | [], _ => Int.le_refl _
  | p :: l, r => by have := cnt_le l r; simp only [cnt, List.length_cons]; split <;> omega
theorem cnt_pos : ∀ {l : List (Int × Fr)} {k : Int} {f : Fr}, mget l k = some f → 1 ≤ cnt l f.role
  | p :: l, k, f, h => by
    simp only [mget] at h
    have h0 := cnt_nonneg l f.role
    simp only [cnt]
    split at h
    · injection h with h
      rw [h, if_pos rfl]; omega
    · have := cnt_pos h
      split <;> omega
theorem cnt_put_new : ∀ {l : List (Int × Fr)} {k : Int} (v : Fr) (r : Int), mget l k = none → cnt (mput l k v) r = cnt l r + (if v.role = r then 1 else 0)
  | [], k, v, r, _ => by simp [mput, cnt]
  | p :: l, k, v, r, h => by
    simp only [mget] at h
    split at h
    · simp at h
    · rename_i hp
      simp only [mput, if_neg hp, cnt, cnt_put_new v r h]
      omega
theorem cnt_put_old {l : List (Int × Fr)} {k : Int} {f : Fr} (v : Fr) (r : Int) (h : mget l k = some f) (e : v.role = f.role) : cnt (mput l k v) r = cnt l r := by
  induction l with
  | nil => simp [mget] at h
  | cons p l ih =>
    simp only [mget] at h
    by_cases hp : p.1 = k
    · rw [if_pos hp] at h
      injection h with h
      simp only [mput, if_pos hp, cnt]
      rw [e, h]
    · rw [if_neg hp] at h
      simp only [mput, if_neg hp, cnt]
      rw [ih h]
theorem cnt_del : ∀ {l : List (Int × Fr)} {k : Int} {f : Fr} (r : Int), mget l k = some f → cnt (mdel l k) r = cnt l r - (if f.role = r then 1 else 0)
  | p :: l, k, f, r, h => by
    simp only [mget] at h
    simp only [mdel]
    split at h
    · rename_i hp
      injection h with h
      rw [if_pos hp]
      simp only [cnt, h]
      omega
    · rename_i hp
      rw [if_neg hp]
      simp only [cnt, cnt_del r h]
      omega

structure Good (k : Int) (f : Fr) : Prop where
  id : f.id = k
  id1 : 1 ≤ f.id
  role1 : 1 ≤ f.role
  role2 : f.role ≤ 32
  weight1 : 1 ≤ f.weight
  weight2 : f.weight ≤ 1000
  time1 : 0 ≤ f.time
  time2 : f.time ≤ 9007199254740992
  till : f.up = true → f.till = 0
/-- What a table keeps to. -/
structure Inv (cap : Int) (l : List (Int × Fr)) (R : List (Int × Int)) : Prop where
  nodup : (l.map (·.1)).Nodup
  each : ∀ k f, mget l k = some f → Good k f
  len : R.length = 33
  many : ∀ (r : Nat) p, R[r]? = some p → p.1 = cnt l r
  weight : ∀ k f p, mget l k = some f → R[f.role.toNat]? = some p → p.2 = f.weight
  cap : (l.length : Int) ≤ cap

theorem Inv.start {cap : Int} (h : 1 ≤ cap) : Inv cap [] (List.replicate 33 (0, 0)) := by
  refine ⟨by simp, by simp [mget], by simp, ?_, by simp [mget], by simp; omega⟩
  intro r p hp
  rw [List.getElem?_replicate] at hp
  split at hp
  · injection hp with hp; rw [← hp]; rfl
  · simp at hp
theorem Inv.role {cap : Int} {l : List (Int × Fr)} {R : List (Int × Int)} (h : Inv cap l R) {k : Int} {f : Fr} (hf : mget l k = some f) : ∃ r : Nat, f.role = r ∧ 1 ≤ r ∧ r ≤ 32 ∧ R[r]? = some (cnt l r, f.weight) := by
  have g := h.each k f hf
  obtain ⟨r, hr⟩ := Int.eq_ofNat_of_zero_le (show 0 ≤ f.role from by have := g.role1; omega)
  have h1 := g.role1
  have h2 := g.role2
  have hlt : r < R.length := by rw [h.len]; omega
  refine ⟨r, hr, by omega, by omega, ?_⟩
  have e := List.getElem?_eq_getElem hlt
  rw [e]
  have m1 := h.many r _ e
  have m2 := h.weight k f R[r] hf (by rw [hr]; exact e)
  rw [← m1, ← m2]
/-- A framework is another one now, of the same role and weight. -/
theorem Inv.put_old {cap : Int} {l : List (Int × Fr)} {R : List (Int × Int)} (h : Inv cap l R) {k : Int} {f : Fr} (hf : mget l k = some f) (v : Fr) (hv : Good k v) (hr : v.role = f.role) (hw : v.weight = f.weight) : Inv cap (mput l k v) R := by
  refine ⟨nodup_mput h.nodup k v, ?_, h.len, ?_, ?_, ?_⟩
  · intro j u hu
    rw [mget_mput] at hu
    split at hu
    · rename_i e; injection hu with hu; rw [← hu, ← e]; exact hv
    · exact h.each j u hu
  · intro r p hp
    rw [cnt_put_old v r hf hr]
    exact h.many r p hp
  · intro j u p hu hp
    rw [mget_mput] at hu
    split at hu
    · injection hu with hu
      rw [← hu, hw]
      exact h.weight k f p hf (by rw [← hr, hu]; exact hp)
    · exact h.weight j u p hu hp
  · rw [length_mput, hf]
    exact h.cap
theorem Inv.put_new {cap : Int} {l : List (Int × Fr)} {R : List (Int × Int)} (h : Inv cap l R) {k : Int} (hf : mget l k = none) (v : Fr) (hv : Good k v) (r : Nat) (hr : v.role = r) (mr wr : Int) (hR : R[r]? = some (mr, wr)) (hok : 0 < mr → wr = v.weight) (hcap : (l.length : Int) < cap) :
    Inv cap (mput l k v) (R.set r (mr + 1, v.weight)) := by
  have hlt := (List.getElem?_eq_some_iff.1 hR).1
  refine ⟨nodup_mput h.nodup k v, ?_, by rw [List.length_set]; exact h.len, ?_, ?_, ?_⟩
  · intro j u hu
    rw [mget_mput] at hu
    split at hu
    · rename_i e; injection hu with hu; rw [← hu, ← e]; exact hv
    · exact h.each j u hu
  · intro s p hp
    rw [cnt_put_new v s hf, hr]
    rw [List.getElem?_set] at hp
    split at hp
    · rename_i e
      subst e
      injection hp with hp
      rw [← hp, if_pos rfl]
      have := h.many r _ hR
      simp only at this ⊢
      omega
    · rename_i e
      rw [if_neg (by omega)]
      have := h.many s p hp
      omega
  · intro j u p hu hp
    rw [mget_mput] at hu
    split at hu
    · injection hu with hu
      rw [← hu, hr] at hp
      rw [List.getElem?_set] at hp
      simp [hlt] at hp
      rw [← hp, ← hu]
    · rw [List.getElem?_set] at hp
      split at hp
      · rename_i e
        injection hp with hp
        rw [← hp]
        have g := h.each j u hu
        have e2 : u.role = (r : Int) := by have := g.role1; omega
        have hc := cnt_pos hu
        rw [e2, ← h.many r _ hR] at hc
        have := h.weight j u (mr, wr) hu (by rw [← e]; exact hR)
        simp only at this hc ⊢
        rw [← this, hok (by omega)]
      · exact h.weight j u p hu hp
  · rw [length_mput, hf]
    simp
    omega
theorem Inv.del {cap : Int} {l : List (Int × Fr)} {R : List (Int × Int)} (h : Inv cap l R) {k : Int} {f : Fr} (hf : mget l k = some f) (r : Nat) (hr : f.role = r) (mr wr : Int) (hR : R[r]? = some (mr, wr)) : Inv cap (mdel l k) (R.set r (mr - 1, wr)) := by
  have hlt := (List.getElem?_eq_some_iff.1 hR).1
  refine ⟨nodup_mdel h.nodup k, ?_, by rw [List.length_set]; exact h.len, ?_, ?_, ?_⟩
  · intro j u hu
    rw [mget_mdel h.nodup] at hu
    split at hu
    · simp at hu
    · exact h.each j u hu
  · intro s p hp
    rw [cnt_del s hf, hr]
    rw [List.getElem?_set] at hp
    split at hp
    · rename_i e
      subst e
      injection hp with hp
      rw [← hp, if_pos rfl]
      have := h.many r _ hR
      simp only at this ⊢
      omega
    · rename_i e
      rw [if_neg (by omega)]
      have := h.many s p hp
      omega
  · intro j u p hu hp
    rw [mget_mdel h.nodup] at hu
    split at hu
    · simp at hu
    · rw [List.getElem?_set] at hp
      split at hp
      · rename_i e
        injection hp with hp
        rw [← hp]
        exact h.weight j u (mr, wr) hu (by rw [← e]; exact hR)
      · exact h.weight j u p hu hp
  · have := length_mdel (l := l) (k := k) (by rw [hf]; rfl)
    have := h.cap
    omega

/-- What Subscribe answers, and the table behind it. -/
def subF (cap : Int) (l : List (Int × Fr)) (R : List (Int × Int)) (id role weight time : Int) : (Bool × Int) × List (Int × Fr) × List (Int × Int) :=
  if ¬ (1 ≤ id ∧ 1 ≤ role ∧ role ≤ 32 ∧ 1 ≤ weight ∧ weight ≤ 1000 ∧ 0 ≤ time ∧ time ≤ 9007199254740992) then ((false, 41), l, R)
  else match mget l id with
    | some f => if f.role ≠ role then ((false, 21), l, R) else if f.weight ≠ weight then ((false, 22), l, R) else ((false, 0), mput l id ⟨id, role, weight, true, f.quiet, time, 0⟩, R)
    | none => let p := R[role.toNat]?.getD (0, 0); if 0 < p.1 ∧ p.2 ≠ weight then ((false, 22), l, R) else if cap ≤ l.length then ((false, 32), l, R)
      else ((true, 0), mput l id ⟨id, role, weight, true, false, time, 0⟩, R.set role.toNat (p.1 + 1, weight))
theorem set_same {α : Type} {R : List α} {r : Nat} {p : α} (h : R[r]? = some p) : R.set r p = R := by
  apply List.ext_getElem?
  intro i
  rw [List.getElem?_set]
  split
  · rename_i e
    subst e
    rw [if_pos (List.getElem?_eq_some_iff.1 h).1, h]
  · rfl
theorem sub_calls {b m : Nat} {cap : Int} {l : List (Int × Fr)} {R : List (Int × Int)} (id role weight time : Int) (w : World) (h : Tab w b m cap l R) (hI : Inv cap l R) (hn : l.length ≤ 900) :
    Calls Try.prog 11 #[.pointer (some ⟨b, 0, none⟩), .int .i64 id, .int .i64 role, .int .i64 weight, .int .i64 time] w fun e w' =>
      e = .returned (.tuple #[.bool (subF cap l R id role weight time).1.1, .int .i64 (subF cap l R id role weight time).1.2]) ∧ Tab w' b m cap (subF cap l R id role weight time).2.1 (subF cap l R id role weight time).2.2 ∧ Chg (Own b m) w w' := by
  unfold subF
  by_cases hm : 1 ≤ id ∧ 1 ≤ role ∧ role ≤ 32 ∧ 1 ≤ weight ∧ weight ≤ 1000 ∧ 0 ≤ time ∧ time ≤ 9007199254740992
  · rw [if_neg (fun hh => hh hm)]
    obtain ⟨r, hr⟩ := Int.eq_ofNat_of_zero_le (show 0 ≤ role from by omega)
    subst hr
    have hlt : r < R.length := by rw [hI.len]; omega
    have hR := List.getElem?_eq_getElem hlt
    rcases hp : R[r] with ⟨mr, wr⟩
    rw [hp] at hR
    have hmr : mr = cnt l r := hI.many r _ hR
    have hc1 := cnt_nonneg l r
    have hc2 := cnt_le l r
    cases hf : mget l id with
    | some f =>
      simp only
      by_cases h1 : f.role = (r : Int)
      · rw [if_neg (fun hh => hh h1)]
        have hwr : wr = f.weight := hI.weight id f (mr, wr) hf (by rw [h1]; exact hR)
        have hpos := cnt_pos hf
        rw [h1] at hpos
        by_cases h2 : f.weight = weight
        · rw [if_neg (fun hh => hh h2)]
          refine (sub_old id weight time r w h hm f hf h1 mr wr hR (hwr.trans h2) (by omega)).mono fun e w' ⟨e1, e2, e3⟩ => ⟨e1, ?_, e3⟩
          rw [← h2, ← hwr, set_same hR] at e2
          rw [← h2, ← hwr]
          exact e2
        · rw [if_pos h2]
          exact (sub_weight id weight time r w h hm (fun g hg => by rw [hf] at hg; injection hg with hg; rw [← hg]; exact h1) mr wr hR (by omega) (by rw [hwr]; exact h2)).mono fun e w' ⟨e1, e2⟩ => ⟨e1, h.below e2, Chg.of_below e2 _⟩
      · rw [if_pos h1]
        exact (sub_role id r weight time w h hm f hf h1).mono fun e w' ⟨e1, e2⟩ => ⟨e1, h.below e2, Chg.of_below e2 _⟩
    | none =>
      simp only [Int.toNat_natCast, hR, Option.getD_some]
      by_cases h1 : 0 < mr ∧ wr ≠ weight
      · rw [if_pos h1]
        exact (sub_weight id weight time r w h hm (fun g hg => by rw [hf] at hg; simp at hg) mr wr hR h1.1 h1.2).mono fun e w' ⟨e1, e2⟩ => ⟨e1, h.below e2, Chg.of_below e2 _⟩
      · rw [if_neg h1]
        have hok : 0 < mr → wr = weight := fun h0 => Classical.not_not.1 fun hne => h1 ⟨h0, hne⟩
        by_cases h2 : cap ≤ (l.length : Int)
        · rw [if_pos h2]
          exact sub_cap id weight time r w h hm hf mr wr hR hok h2
        · rw [if_neg h2]
          exact sub_new id weight time r w h hm hf mr wr hR hok (by omega) (by omega)
  · rw [if_pos hm]
    exact (sub_arg id role weight time w h hm).mono fun e w' ⟨e1, e2⟩ => ⟨e1, h.below e2, Chg.of_below e2 _⟩
end Go.Proofs.Ytdckcbahfdcafaa.F
