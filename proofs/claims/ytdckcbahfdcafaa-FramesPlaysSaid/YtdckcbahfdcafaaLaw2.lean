/- The plain law: an act on the table and on the reference's list. -/
import Derived.Test.YtdckcbahfdcafaaLaw1
set_option linter.unusedVariables false
set_option linter.unusedSimpArgs false
namespace Go.Proofs.Ytdckcbahfdcafaa.F
open Go.RowKit Go.Sort Go.Proofs.Ytdckcbahfdcafaa.Hp Go.Proofs.Ytdckcbahfdcafaa.Mp

section
variable {l : List (Int × Fr)} {fs : List Fr} {cap : Int} {R : List (Int × Int)}
theorem Sim.put' (h : Sim l fs) {id : Int} (f : Fr) (hid : f.id = id) : Sim (mput l id f) (withF fs f) := hid ▸ h.put f
theorem sub_sim (h : Sim l fs) (hI : Inv cap l R) (a : A) : (rsubF cap fs a).1 = (subF cap l R a.id a.role a.weight a.time).1 ∧ Sim (subF cap l R a.id a.role a.weight a.time).2.1 (rsubF cap fs a).2 := by
  unfold rsubF subF
  by_cases hm : 1 ≤ a.id ∧ 1 ≤ a.role ∧ a.role ≤ 32 ∧ 1 ≤ a.weight ∧ a.weight ≤ 1000 ∧ 0 ≤ a.time ∧ a.time ≤ 9007199254740992
  · have hnm := fun (hh : ¬ (1 ≤ a.id ∧ 1 ≤ a.role ∧ a.role ≤ 32 ∧ 1 ≤ a.weight ∧ a.weight ≤ 1000 ∧ 0 ≤ a.time ∧ a.time ≤ 9007199254740992)) => hh hm
    rw [if_neg hnm, if_neg hnm, h.find]
    have hlen := h.length hI.nodup
    obtain ⟨r, hr⟩ := Int.eq_ofNat_of_zero_le (show 0 ≤ a.role by omega)
    obtain ⟨p, hp, hp1, hp2⟩ := h.weight hI r (by omega)
    rw [← hr] at hp2
    cases hf : mget l a.id with
    | some f =>
      simp only
      have g := hI.each _ f hf
      obtain ⟨hm1, hm2⟩ := h.of_get hf
      by_cases h1 : f.role = a.role
      · have hn1 := fun (hh : f.role ≠ a.role) => hh h1
        rw [if_neg hn1, if_neg hn1]
        have hpw := hI.weight _ f p hf (by rw [h1, hr]; exact hp)
        have hpos := cnt_pos hf
        rw [h1, hr, ← hp1] at hpos
        rcases hp2 with ⟨e, _⟩ | ⟨_, e2, e3⟩
        · omega
        · rw [e2, ← hpw]
          by_cases h2 : p.2 = a.weight
          · have hn2 := fun (hh : p.2 ≠ a.weight) => hh h2
            rw [if_neg (fun hh => hh.2 h2), if_neg hn2]
            exact ⟨rfl, h.put' _ rfl⟩
          · rw [if_pos ⟨by omega, h2⟩, if_pos h2]
            exact ⟨rfl, h⟩
      · rw [if_pos h1, if_pos h1]
        exact ⟨rfl, h⟩
    | none =>
      simp only
      rw [hr, Int.toNat_natCast, hp, Option.getD_some, ← hr]
      have hiff : (0 < weightF fs a.role ∧ weightF fs a.role ≠ a.weight) ↔ (0 < p.1 ∧ p.2 ≠ a.weight) := by
        rcases hp2 with ⟨e1, e2⟩ | ⟨e1, e2, e3⟩
        · rw [e1, e2]; omega
        · rw [e2]; exact ⟨fun hh => ⟨e1, hh.2⟩, fun hh => ⟨by omega, hh.2⟩⟩
      by_cases h1 : 0 < p.1 ∧ p.2 ≠ a.weight
      · rw [if_pos (hiff.2 h1), if_pos h1]
        exact ⟨rfl, h⟩
      · rw [if_neg (fun hh => h1 (hiff.1 hh)), if_neg h1, hlen]
        by_cases h2 : cap ≤ (l.length : Int)
        · rw [if_pos h2, if_pos h2]
          exact ⟨rfl, h⟩
        · rw [if_neg h2, if_neg h2]
          exact ⟨rfl, h.put' _ rfl⟩
  · rw [if_pos hm, if_pos hm]
    exact ⟨rfl, h⟩
theorem awayF_id (f : Fr) (now : Int) : (awayF f now).2.id = f.id := by
  unfold awayF
  split
  · rfl
  · split <;> rfl
theorem do_sim (h : Sim l fs) (hI : Inv cap l R) (a : A) : (rdoF cap fs a).1 = (doF cap l R a).1 ∧ Sim (doF cap l R a).2.1 (rdoF cap fs a).2 := by
  unfold rdoF doF
  by_cases h0 : a.kind = 0
  · rw [if_pos h0, if_pos h0]
    exact sub_sim h hI a
  rw [if_neg h0, if_neg h0]
  by_cases h2 : a.kind = 2
  · rw [if_pos h2, if_neg (by omega), if_pos h2, h.find]
    cases hf : mget l a.id with
    | none =>
      have := h.del hI.nodup a.id
      rw [mdel_none hf] at this
      exact ⟨rfl, this⟩
    | some f => exact ⟨rfl, h.del hI.nodup _⟩
  rw [if_neg h2, h.find]
  by_cases h1 : a.kind = 1
  · rw [if_pos h1]
    unfold discF
    cases hf : mget l a.id with
    | none => exact ⟨rfl, h⟩
    | some f =>
      simp only
      rw [if_pos h1]
      obtain ⟨hm1, hm2⟩ := h.of_get hf
      by_cases hz : (awayF f a.time).1 = 0
      · rw [if_pos hz, if_pos hz]
        exact ⟨by rw [hz], h.put' _ (by rw [awayF_id, hm2])⟩
      · rw [if_neg hz, if_neg hz]
        exact ⟨rfl, h⟩
  · rw [if_neg h1, if_neg h2]
    unfold quietF
    cases hf : mget l a.id with
    | none => exact ⟨rfl, h⟩
    | some f =>
      simp only
      rw [if_neg h1]
      obtain ⟨hm1, hm2⟩ := h.of_get hf
      exact ⟨rfl, h.put' _ hm2⟩
theorem times_good (h : Sim l fs) (hI : Inv cap l R) : ∀ f ∈ fs, 0 ≤ f.time ∧ f.time ≤ 9007199254740992 := fun f hf => by
  have g := hI.each _ f (h.mem hf)
  exact ⟨g.time1, g.time2⟩

theorem roles_eq (h : Sim l fs) (hI : Inv cap l R) : ∀ n, n ≤ 32 → refRolesF fs n = rolesF R n
  | 0, _ => rfl
  | n + 1, hn => by
    simp only [refRolesF, rolesF, roles_eq h hI n (by omega)]
    obtain ⟨p, hp, hp1, hp2⟩ := h.weight hI (n + 1) hn
    rw [hp, Option.getD_some]
    have e : ((n + 1 : Nat) : Int) = (n : Int) + 1 := by omega
    rw [e] at hp2 ⊢
    rcases hp2 with ⟨e1, e2⟩ | ⟨e1, e2, e3⟩
    · rw [e2, e1]
    · rw [if_pos (by omega), if_pos e1]
theorem sorted_eq : ∀ {a b : List Int}, a.Perm b → a.Pairwise (· ≤ ·) → b.Pairwise (· ≤ ·) → a = b := fun hp ha hb => hp.eq_of_pairwise (fun _ _ _ _ h1 h2 => by omega) ha hb
theorem ids_eq (h : Sim l fs) (hnd : (l.map (·.1)).Nodup) {ss : List Int} (hp : ss.Perm (l.map (·.1))) (hs : ss.Pairwise (· ≤ ·)) : ss = fs.map (·.id) :=
  sorted_eq (hp.trans (h.keys hnd).symm) hs (List.pairwise_map.2 (h.rise.imp fun h => by omega))
theorem got_of (h : Sim l fs) {f : Fr} (hf : f ∈ fs) : got l f.id = f := by
  unfold got
  rw [h.mem hf]
  rfl
theorem all_eq (h : Sim l fs) (hnd : (l.map (·.1)).Nodup) {ss : List Int} (hp : ss.Perm (l.map (·.1))) (hs : ss.Pairwise (· ≤ ·)) : ss.map (got l) = fs := by
  rw [ids_eq h hnd hp hs, List.map_map]
  have : fs.map (got l ∘ (·.id)) = fs.map id := List.map_congr_left fun f hf => got_of h hf
  rw [this, List.map_id]
theorem own_eq (h : Sim l fs) (hnd : (l.map (·.1)).Nodup) {ss : List Int} (hp : ss.Perm (l.map (·.1))) (hs : ss.Pairwise (· ≤ ·)) (role : Int) : ownF l role ss = refOfF fs role := by
  rw [ids_eq h hnd hp hs]
  unfold ownF refOfF
  rw [List.filter_map]
  congr 1
  apply List.filter_congr
  intro f hf
  simp only [Function.comp, got_of h hf]
  by_cases e : f.role = role <;> simp [e, bne]
end
end Go.Proofs.Ytdckcbahfdcafaa.F
