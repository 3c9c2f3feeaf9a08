/- The plain law: the reference's list is the table's frameworks, by rising numbers. -/
import Derived.Test.YtdckcbahfdcafaaRef12
set_option linter.unusedVariables false
set_option linter.unusedSimpArgs false
namespace Go.Proofs.Ytdckcbahfdcafaa.F
open Go.RowKit Go.Sort Go.Proofs.Ytdckcbahfdcafaa.Hp Go.Proofs.Ytdckcbahfdcafaa.Mp

/-- What with adds to what it has written. -/
def wGo (f : Fr) : List Fr → Bool → List Fr
  | [], d => if d = true then [] else [f]
  | x :: xs, d => (if d = false ∧ f.id ≤ x.id then [f] else []) ++ ((if x.id = f.id then [] else [x]) ++ wGo f xs (d || decide (f.id ≤ x.id)))
theorem wGo_fold (f : Fr) : ∀ (fs acc : List Fr) (d : Bool), (if (fs.foldl (wStep f) (acc, d)).2 = true then (fs.foldl (wStep f) (acc, d)).1 else (fs.foldl (wStep f) (acc, d)).1 ++ [f]) = acc ++ wGo f fs d
  | [], acc, d => by
    show (if d = true then acc else acc ++ [f]) = acc ++ (if d = true then [] else [f])
    split <;> simp
  | x :: fs, acc, d => by
    rw [List.foldl_cons]
    have hst : wStep f (acc, d) x = (acc ++ ((if d = false ∧ f.id ≤ x.id then [f] else []) ++ (if x.id = f.id then [] else [x])), d || decide (f.id ≤ x.id)) := by
      unfold wStep
      cases d
      · by_cases h1 : f.id ≤ x.id
        · by_cases h2 : x.id = f.id <;> simp [h1, h2]
        · by_cases h2 : x.id = f.id <;> simp [h1, h2] <;> omega
      · by_cases h2 : x.id = f.id <;> simp [h2]
    rw [hst, wGo_fold f fs]
    simp only [wGo, List.append_assoc]
theorem withF_go (fs : List Fr) (f : Fr) : withF fs f = wGo f fs false := by
  have := wGo_fold f fs [] false
  rw [List.nil_append] at this
  exact this
theorem find_wGo (f : Fr) (k : Int) : ∀ (fs : List Fr) (d : Bool), (wGo f fs d).find? (·.id == k) = if f.id = k then (if d = true then none else some f) else fs.find? (·.id == k)
  | [], d => by
    simp only [wGo]
    by_cases hk : f.id = k
    · subst hk
      cases d <;> simp
    · cases d <;> simp [hk]
  | x :: xs, d => by
    simp only [wGo, List.find?_append, find_wGo f k xs]
    by_cases hk : f.id = k
    · subst hk
      by_cases h2 : x.id = f.id
      · cases d <;> simp [h2]
      · by_cases h1 : f.id ≤ x.id
        · cases d <;> simp [h1, h2]
        · cases d <;> simp [h1, h2]
    · by_cases h2 : x.id = f.id
      · have h3 : x.id ≠ k := fun e => hk (h2.symm.trans e)
        by_cases h1 : f.id ≤ x.id
        · cases d <;> simp [h1, h2, hk, h3]
        · omega
      · by_cases h1 : f.id ≤ x.id
        · by_cases h3 : x.id = k
          · subst h3
            cases d <;> simp [h1, h2, hk]
          · cases d <;> simp [h1, h2, hk, h3]
        · by_cases h3 : x.id = k
          · subst h3
            cases d <;> simp [h1, h2, hk]
          · cases d <;> simp [h1, h2, hk, h3]
theorem find_withF (fs : List Fr) (f : Fr) (k : Int) : (withF fs f).find? (·.id == k) = if f.id = k then some f else fs.find? (·.id == k) := by
  rw [withF_go, find_wGo]
  simp
/-- Rising numbers. -/
def Rise (fs : List Fr) : Prop := fs.Pairwise fun a b => a.id < b.id
theorem mem_wGo {f x : Fr} : ∀ {fs : List Fr} {d : Bool}, x ∈ wGo f fs d → x = f ∧ d = false ∨ x ∈ fs ∧ x.id ≠ f.id
  | [], d, h => by
    simp only [wGo] at h
    cases d <;> simp at h
    exact .inl ⟨h, rfl⟩
  | y :: fs, d, h => by
    simp only [wGo, List.mem_append] at h
    rcases h with h | h | h
    · split at h
      · rename_i hd
        simp at h
        exact .inl ⟨h, hd.1⟩
      · simp at h
    · split at h
      · simp at h
      · rename_i hy
        simp at h
        subst h
        exact .inr ⟨List.mem_cons_self, hy⟩
    · rcases mem_wGo h with ⟨h1, h2⟩ | ⟨h1, h2⟩
      · left
        refine ⟨h1, ?_⟩
        cases d
        · rfl
        · simp at h2
      · exact .inr ⟨List.mem_cons_of_mem _ h1, h2⟩
theorem rise_wGo (f : Fr) : ∀ (fs : List Fr) (d : Bool), Rise fs → (d = true → ∀ x ∈ fs, f.id ≤ x.id) → Rise (wGo f fs d)
  | [], d, _, _ => by
    simp only [wGo, Rise]
    split <;> simp
  | x :: fs, d, h, hd => by
    have h1 := List.pairwise_cons.1 h
    have ih : Rise (wGo f fs (d || decide (f.id ≤ x.id))) := by
      refine rise_wGo f fs _ h1.2 (fun hq y hy => ?_)
      have := h1.1 y hy
      cases d
      · simp at hq; omega
      · have := hd rfl y (List.mem_cons_of_mem _ hy); omega
    have hrest : ∀ y ∈ wGo f fs (d || decide (f.id ≤ x.id)), x.id < y.id := by
      intro y hy
      rcases mem_wGo hy with ⟨h2, h3⟩ | ⟨h2, _⟩
      · subst h2
        cases d
        · simp at h3; omega
        · simp at h3
      · exact h1.1 y h2
    have htail : Rise ((if x.id = f.id then [] else [x]) ++ wGo f fs (d || decide (f.id ≤ x.id))) := by
      split
      · exact ih
      · exact List.pairwise_cons.2 ⟨hrest, ih⟩
    simp only [wGo]
    split
    · rename_i hq
      refine (List.pairwise_cons (l := (if x.id = f.id then [] else [x]) ++ wGo f fs (d || decide (f.id ≤ x.id)))).2 ⟨?_, htail⟩
      intro y hy
      rcases List.mem_append.1 hy with hy | hy
      · split at hy
        · simp at hy
        · simp at hy
          subst hy
          omega
      · have := hrest y hy; omega
    · exact htail
theorem rise_withF {fs : List Fr} (h : Rise fs) (f : Fr) : Rise (withF fs f) := by
  rw [withF_go]
  exact rise_wGo f fs false h (fun h => by simp at h)
theorem rise_eraseP {fs : List Fr} (h : Rise fs) (p : Fr → Bool) : Rise (fs.eraseP p) := List.Pairwise.sublist (List.eraseP_sublist) h
theorem find_eraseP {fs : List Fr} (h : Rise fs) (j k : Int) : (fs.eraseP (·.id == j)).find? (·.id == k) = if j = k then none else fs.find? (·.id == k) := by
  induction fs with
  | nil => simp
  | cons x fs ih =>
    have h1 := List.pairwise_cons.1 h
    by_cases hx : x.id = j
    · rw [List.eraseP_cons_of_pos (by simpa using hx)]
      by_cases hj : j = k
      · rw [if_pos hj, List.find?_eq_none]
        intro y hy
        have := h1.1 y hy
        simp
        omega
      · rw [if_neg hj, List.find?_cons_of_neg (by simp; omega)]
    · rw [List.eraseP_cons_of_neg (by simpa using hx)]
      by_cases hk : x.id = k
      · rw [List.find?_cons_of_pos (by simpa using hk), List.find?_cons_of_pos (by simpa using hk), if_neg (by omega)]
      · rw [List.find?_cons_of_neg (by simpa using hk), List.find?_cons_of_neg (by simpa using hk), ih h1.2]

/-- The reference's list tells what the table's map holds. -/
structure Sim (l : List (Int × Fr)) (fs : List Fr) : Prop where
  rise : Rise fs
  find : ∀ k, fs.find? (·.id == k) = mget l k
theorem Rise.nodup {fs : List Fr} (h : Rise fs) : (fs.map (·.id)).Nodup := by
  rw [List.nodup_iff_pairwise_ne, List.pairwise_map]
  exact h.imp fun h e => by omega
theorem Rise.find_mem {fs : List Fr} (h : Rise fs) {f : Fr} (hf : f ∈ fs) : fs.find? (·.id == f.id) = some f := by
  induction fs with
  | nil => simp at hf
  | cons x fs ih =>
    have h1 := List.pairwise_cons.1 h
    rcases List.mem_cons.1 hf with rfl | hf
    · simp
    · have := h1.1 f hf
      rw [List.find?_cons_of_neg (by simp; omega)]
      exact ih h1.2 hf
theorem Sim.start : Sim [] [] := ⟨List.Pairwise.nil, fun k => rfl⟩
section
variable {l : List (Int × Fr)} {fs : List Fr} {cap : Int} {R : List (Int × Int)}
theorem Sim.mem (h : Sim l fs) {f : Fr} (hf : f ∈ fs) : mget l f.id = some f := by rw [← h.find, h.rise.find_mem hf]
theorem Sim.of_get (h : Sim l fs) {k : Int} {f : Fr} (hf : mget l k = some f) : f ∈ fs ∧ f.id = k := by
  rw [← h.find] at hf
  exact ⟨List.mem_of_find?_eq_some hf, by have := List.find?_some hf; simpa using this⟩
theorem Sim.keys (h : Sim l fs) (hnd : (l.map (·.1)).Nodup) : (fs.map (·.id)).Perm (l.map (·.1)) := by
  rw [List.perm_ext_iff_of_nodup h.rise.nodup hnd]
  intro k
  constructor
  · intro hk
    obtain ⟨f, hf, rfl⟩ := List.mem_map.1 hk
    exact List.mem_map.2 ⟨_, mget_some_mem (h.mem hf), rfl⟩
  · intro hk
    cases hg : mget l k with
    | none => exact absurd hk (mget_none.1 hg)
    | some f =>
      obtain ⟨h1, h2⟩ := h.of_get hg
      exact List.mem_map.2 ⟨f, h1, h2⟩
theorem Sim.length (h : Sim l fs) (hnd : (l.map (·.1)).Nodup) : fs.length = l.length := by
  have := (h.keys hnd).length_eq
  simpa using this
theorem Sim.put (h : Sim l fs) (f : Fr) : Sim (mput l f.id f) (withF fs f) :=
  ⟨rise_withF h.rise f, fun k => by rw [find_withF, mget_mput, h.find]⟩
theorem Sim.del (h : Sim l fs) (hnd : (l.map (·.1)).Nodup) (k : Int) : Sim (mdel l k) (fs.eraseP (·.id == k)) :=
  ⟨rise_eraseP h.rise _, fun j => by rw [find_eraseP h.rise, mget_mdel hnd, h.find]⟩
/-- The weight of a role that somebody has. -/
theorem weightF_of {role : Int} {f : Fr} (hf : f ∈ fs) (hr : f.role = role) (hw : ∀ g ∈ fs, g.role = role → g.weight = f.weight) : weightF fs role = f.weight := by
  unfold weightF
  cases h : fs.find? (·.role == role) with
  | none =>
    rw [List.find?_eq_none] at h
    have := h f hf
    simp [hr] at this
  | some g =>
    have h1 := List.mem_of_find?_eq_some h
    have h2 := List.find?_some h
    exact hw g h1 (by simpa using h2)
theorem weightF_nobody {role : Int} (h : ∀ g ∈ fs, g.role ≠ role) : weightF fs role = 0 := by
  unfold weightF
  rw [List.find?_eq_none.2 (fun g hg => by simpa using h g hg)]
theorem cnt_zero : ∀ {l : List (Int × Fr)} {r : Int}, cnt l r = 0 → ∀ p ∈ l, p.2.role ≠ r
  | q :: l, r, h, p, hp => by
    have h0 := cnt_nonneg l r
    simp only [cnt] at h
    rcases List.mem_cons.1 hp with rfl | hp
    · intro e; rw [if_pos e] at h; omega
    · refine cnt_zero ?_ p hp
      split at h <;> omega
/-- What the table's roles say, the reference's list says. -/
theorem Sim.weight (h : Sim l fs) (hI : Inv cap l R) (r : Nat) (hr : r ≤ 32) : ∃ p, R[r]? = some p ∧ p.1 = cnt l r ∧ ((p.1 = 0 ∧ weightF fs r = 0) ∨ (0 < p.1 ∧ weightF fs r = p.2 ∧ 1 ≤ p.2)) := by
  have hlt : r < R.length := by rw [hI.len]; omega
  have hR := List.getElem?_eq_getElem hlt
  refine ⟨R[r], hR, hI.many r _ hR, ?_⟩
  have hm := hI.many r _ hR
  have h0 := cnt_nonneg l r
  rcases Nat.eq_zero_or_pos (cnt l r).toNat with hz | hz
  · left
    have hc : cnt l r = 0 := by omega
    refine ⟨by omega, weightF_nobody fun g hg => cnt_zero hc _ (mget_some_mem (h.mem hg))⟩
  · right
    have hex : ∃ g ∈ fs, g.role = (r : Int) := Classical.byContradiction fun hn => by
      have hall : ∀ p ∈ l, p.2.role ≠ (r : Int) := fun p hp e => hn ⟨p.2, (h.of_get (mem_mget hI.nodup (k := p.1) (v := p.2) hp)).1, e⟩
      have : ∀ l' : List (Int × Fr), (∀ p ∈ l', p.2.role ≠ (r : Int)) → cnt l' r = 0 := by
        intro l'
        induction l' with
        | nil => intro _; rfl
        | cons p l' ih => intro hh; simp only [cnt]; rw [if_neg (hh p List.mem_cons_self), ih (fun q hq => hh q (List.mem_cons_of_mem _ hq))]; rfl
      have := this l hall
      omega
    obtain ⟨g, hg, hgr⟩ := hex
    have hgw := hI.weight g.id g R[r] (h.mem hg) (by rw [hgr]; exact hR)
    have hw := weightF_of hg hgr (fun g' hg' hr' => by
      have := hI.weight g'.id g' R[r] (h.mem hg') (by rw [hr']; exact hR)
      rw [← this, hgw])
    refine ⟨by omega, by rw [hw, hgw], by rw [hgw]; exact (hI.each g.id g (h.mem hg)).weight1⟩
end
end Go.Proofs.Ytdckcbahfdcafaa.F
