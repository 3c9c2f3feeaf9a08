/- FramesRoles, the plain law: roles, their members, how many. -/
import Derived.Test.YtdckcbahfdcafaaOf2
set_option linter.unusedVariables false
set_option linter.unusedSimpArgs false
namespace Go.Proofs.Ytdckcbahfdcafaa.F
open Go.RowKit Go.Sort Go.Proofs.Ytdckcbahfdcafaa.Hp Go.Proofs.Ytdckcbahfdcafaa.Mp

theorem own_cnt (l : List (Int × Fr)) (number : Int) : ∀ (l' : List (Int × Fr)), (∀ p ∈ l', got l p.1 = p.2) → ((l'.map (·.1)).filter fun x => !((got l x).role != number)).length = (cnt l' number).toNat
  | [], _ => rfl
  | p :: l', h => by
    have ih := own_cnt l number l' (fun q hq => h q (List.mem_cons_of_mem _ hq))
    have hp := h p List.mem_cons_self
    have h0 := cnt_nonneg l' number
    rw [List.map_cons, List.filter_cons, hp]
    by_cases e : p.2.role = number
    · simp only [e, bne_self_eq_false, Bool.not_false, if_true, List.length_cons, ih, cnt]
      omega
    · have : (p.2.role != number) = true := by simpa using e
      simp only [this, Bool.not_true, Bool.false_eq_true, if_false, ih, cnt, if_neg e]
      omega
theorem own_length {l : List (Int × Fr)} (hnd : (l.map (·.1)).Nodup) {ss : List Int} (hp : ss.Perm (l.map (·.1))) (number : Int) : ((ownF l number ss).length : Int) = cnt l number := by
  have h0 := cnt_nonneg l number
  unfold ownF
  rw [(hp.filter _).length_eq, own_cnt l number l (fun p hpm => by unfold got; rw [mem_mget hnd (k := p.1) (v := p.2) hpm]; rfl)]
  omega
/-- Each of them is there, and of the role. -/
theorem own_mem {l : List (Int × Fr)} {ss : List Int} (hp : ss.Perm (l.map (·.1))) {number x : Int} (hx : x ∈ ownF l number ss) : ∃ f, mget l x = some f ∧ f.role = number := by
  unfold ownF at hx
  rw [List.mem_filter] at hx
  have hk := hp.mem_iff.1 hx.1
  cases hf : mget l x with
  | none => exact absurd hk (mget_none.1 hf)
  | some f =>
    have h2 := hx.2
    simp only [got, hf, Option.getD_some] at h2
    exact ⟨f, rfl, by simpa using h2⟩
theorem roles_mem (R : List (Int × Int)) : ∀ n x, x ∈ rolesF R n → ∃ r : Nat, x = r ∧ 1 ≤ r ∧ r ≤ n ∧ 0 < (R[r]?.getD (0, 0)).1
  | 0, x, h => by simp [rolesF] at h
  | n + 1, x, h => by
    simp only [rolesF] at h
    rcases List.mem_append.1 h with h | h
    · obtain ⟨r, h1, h2, h3, h4⟩ := roles_mem R n x h
      exact ⟨r, h1, h2, by omega, h4⟩
    · split at h
      · rename_i h0
        have : x = ((n + 1 : Nat) : Int) := by simpa using h
        exact ⟨n + 1, this, by omega, Nat.le_refl _, h0⟩
      · simp at h
theorem roles_lt (R : List (Int × Int)) : ∀ n, (rolesF R n).Pairwise (· < ·)
  | 0 => List.Pairwise.nil
  | n + 1 => by
    simp only [rolesF]
    rw [List.pairwise_append]
    refine ⟨roles_lt R n, by split <;> simp, ?_⟩
    intro a ha b hb
    obtain ⟨r, h1, h2, h3, h4⟩ := roles_mem R n a ha
    split at hb
    · have : b = ((n + 1 : Nat) : Int) := by simpa using hb
      omega
    · simp at hb
def sumc (l : List (Int × Fr)) : List Int → Int
  | [] => 0
  | r :: rs => cnt l r + sumc l rs
theorem sumc_append (l : List (Int × Fr)) : ∀ a b, sumc l (a ++ b) = sumc l a + sumc l b
  | [], b => by simp [sumc]
  | x :: a, b => by simp only [List.cons_append, sumc, sumc_append l a b]; omega
/-- How many are of the roles up to n. -/
def upTo : List (Int × Fr) → Nat → Int
  | [], _ => 0
  | p :: l, n => (if 1 ≤ p.2.role ∧ p.2.role ≤ n then 1 else 0) + upTo l n
theorem upTo_zero : ∀ l, upTo l 0 = 0
  | [] => rfl
  | p :: l => by simp only [upTo, upTo_zero l]; rw [if_neg (by omega)]; rfl
theorem upTo_succ : ∀ (l : List (Int × Fr)) (n : Nat), upTo l (n + 1) = upTo l n + cnt l ((n + 1 : Nat) : Int)
  | [], n => rfl
  | p :: l, n => by
    simp only [upTo, cnt, upTo_succ l n]
    by_cases h1 : p.2.role = ((n + 1 : Nat) : Int)
    · rw [if_pos (by omega), if_neg (by omega), if_pos h1]; omega
    · rw [if_neg h1]
      by_cases h2 : 1 ≤ p.2.role ∧ p.2.role ≤ n
      · rw [if_pos (by omega), if_pos h2]; omega
      · rw [if_neg (by omega), if_neg h2]; omega
theorem upTo_all : ∀ (l : List (Int × Fr)), (∀ p ∈ l, 1 ≤ p.2.role ∧ p.2.role ≤ 32) → upTo l 32 = l.length
  | [], _ => rfl
  | p :: l, h => by
    simp only [upTo, upTo_all l (fun q hq => h q (List.mem_cons_of_mem _ hq)), List.length_cons]
    have h1 := h p List.mem_cons_self
    rw [if_pos (show 1 ≤ p.2.role ∧ p.2.role ≤ ((32 : Nat) : Int) from ⟨h1.1, by have := h1.2; omega⟩)]
    omega
theorem sum_roles {cap : Int} {l : List (Int × Fr)} {R : List (Int × Int)} (h : Inv cap l R) : ∀ n, n ≤ 32 → sumc l (rolesF R n) = upTo l n
  | 0, _ => by simp [rolesF, sumc, upTo_zero]
  | n + 1, hn => by
    simp only [rolesF]
    rw [sumc_append, sum_roles h n (by omega), upTo_succ]
    have hlt : n + 1 < R.length := by rw [h.len]; omega
    have e := List.getElem?_eq_getElem hlt
    have hm := h.many (n + 1) _ e
    have h0 := cnt_nonneg l ((n + 1 : Nat) : Int)
    rw [e, Option.getD_some, hm]
    split
    · simp [sumc]
    · simp only [sumc]; omega
theorem sum_all {cap : Int} {l : List (Int × Fr)} {R : List (Int × Int)} (h : Inv cap l R) : sumc l (rolesF R 32) = l.length := by
  rw [sum_roles h 32 (by omega), upTo_all l]
  intro p hp
  have g := h.each p.1 p.2 (mem_mget h.nodup hp)
  exact ⟨g.role1, g.role2⟩
end Go.Proofs.Ytdckcbahfdcafaa.F
