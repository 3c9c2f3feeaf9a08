/- The plain law: the reference's list is the table's queues, by rising numbers. -/
import Derived.Test.YtchhpgnlfofdcaaRq6
set_option linter.unusedVariables false
set_option linter.unusedSimpArgs false
namespace Go.Proofs.Ytchhpgnlfofdcaa.Q
open Go.RowKit Go.Proofs.Ytchhpgnlfofdcaa.Hp Go.Proofs.Ytchhpgnlfofdcaa.Mp

/-- What with adds to what it has written. -/
def wGo (f : On) : List On → Bool → List On
  | [], d => if d = true then [] else [f]
  | x :: xs, d => (if d = false ∧ f.frame ≤ x.frame then [f] else []) ++ ((if x.frame = f.frame then [] else [x]) ++ wGo f xs (d || decide (f.frame ≤ x.frame)))
theorem wGo_fold (f : On) : ∀ (fs acc : List On) (d : Bool), (if (fs.foldl (wStep (fun x : On => x.frame) f) (acc, d)).2 = true then (fs.foldl (wStep (fun x : On => x.frame) f) (acc, d)).1 else (fs.foldl (wStep (fun x : On => x.frame) f) (acc, d)).1 ++ [f]) = acc ++ wGo f fs d
  | [], acc, d => by
    show (if d = true then acc else acc ++ [f]) = acc ++ (if d = true then [] else [f])
    split <;> simp
  | x :: fs, acc, d => by
    rw [List.foldl_cons]
    have hst : wStep (fun x : On => x.frame) f (acc, d) x = (acc ++ ((if d = false ∧ f.frame ≤ x.frame then [f] else []) ++ (if x.frame = f.frame then [] else [x])), d || decide (f.frame ≤ x.frame)) := by
      unfold wStep
      cases d
      · by_cases h1 : f.frame ≤ x.frame
        · by_cases h2 : x.frame = f.frame <;> simp [h1, h2]
        · by_cases h2 : x.frame = f.frame <;> simp [h1, h2] <;> omega
      · by_cases h2 : x.frame = f.frame <;> simp [h2]
    rw [hst, wGo_fold f fs]
    simp only [wGo, List.append_assoc]
theorem withF_go (fs : List On) (f : On) : withK (fun x : On => x.frame) fs f = wGo f fs false := by
  have := wGo_fold f fs [] false
  rw [List.nil_append] at this
  exact this
theorem find_wGo (f : On) (k : Int) : ∀ (fs : List On) (d : Bool), (wGo f fs d).find? (·.frame == k) = if f.frame = k then (if d = true then none else some f) else fs.find? (·.frame == k)
  | [], d => by
    simp only [wGo]
    by_cases hk : f.frame = k
    · subst hk
      cases d <;> simp
    · cases d <;> simp [hk]
  | x :: xs, d => by
    simp only [wGo, List.find?_append, find_wGo f k xs]
    by_cases hk : f.frame = k
    · subst hk
      by_cases h2 : x.frame = f.frame
      · cases d <;> simp [h2]
      · by_cases h1 : f.frame ≤ x.frame
        · cases d <;> simp [h1, h2]
        · cases d <;> simp [h1, h2]
    · by_cases h2 : x.frame = f.frame
      · have h3 : x.frame ≠ k := fun e => hk (h2.symm.trans e)
        by_cases h1 : f.frame ≤ x.frame
        · cases d <;> simp [h1, h2, hk, h3]
        · omega
      · by_cases h1 : f.frame ≤ x.frame
        · by_cases h3 : x.frame = k
          · subst h3
            cases d <;> simp [h1, h2, hk]
          · cases d <;> simp [h1, h2, hk, h3]
        · by_cases h3 : x.frame = k
          · subst h3
            cases d <;> simp [h1, h2, hk]
          · cases d <;> simp [h1, h2, hk, h3]
theorem find_withF (fs : List On) (f : On) (k : Int) : (withK (fun x : On => x.frame) fs f).find? (·.frame == k) = if f.frame = k then some f else fs.find? (·.frame == k) := by
  rw [withF_go, find_wGo]
  simp
/-- Rising numbers. -/
def Rise (fs : List On) : Prop := fs.Pairwise fun a b => a.frame < b.frame
theorem mem_wGo {f x : On} : ∀ {fs : List On} {d : Bool}, x ∈ wGo f fs d → x = f ∧ d = false ∨ x ∈ fs ∧ x.frame ≠ f.frame
  | [], d, h => by
    simp only [wGo] at h
    cases d <;> simp at h
    exact .inl ⟨h, rfl⟩
  | y :: fs, d, h => by
    simp only [wGo, List.mem_append] at h
    rcases h with h | h | h
    · split at h
      · rename_i hd
        simp at h
        exact .inl ⟨h, hd.1⟩
      · simp at h
    · split at h
      · simp at h
      · rename_i hy
        simp at h
        subst h
        exact .inr ⟨List.mem_cons_self, hy⟩
    · rcases mem_wGo h with ⟨h1, h2⟩ | ⟨h1, h2⟩
      · left
        refine ⟨h1, ?_⟩
        cases d
        · rfl
        · simp at h2
      · exact .inr ⟨List.mem_cons_of_mem _ h1, h2⟩
theorem rise_wGo (f : On) : ∀ (fs : List On) (d : Bool), Rise fs → (d = true → ∀ x ∈ fs, f.frame ≤ x.frame) → Rise (wGo f fs d)
  | [], d, _, _ => by
    simp only [wGo, Rise]
    split <;> simp
  | x :: fs, d, h, hd => by
    have h1 := List.pairwise_cons.1 h
    have ih : Rise (wGo f fs (d || decide (f.frame ≤ x.frame))) := by
      refine rise_wGo f fs _ h1.2 (fun hq y hy => ?_)
      have := h1.1 y hy
      cases d
      · simp at hq; omega
      · have := hd rfl y (List.mem_cons_of_mem _ hy); omega
    have hrest : ∀ y ∈ wGo f fs (d || decide (f.frame ≤ x.frame)), x.frame < y.frame := by
      intro y hy
      rcases mem_wGo hy with ⟨h2, h3⟩ | ⟨h2, _⟩
      · subst h2
        cases d
        · simp at h3; omega
        · simp at h3
      · exact h1.1 y h2
    have htail : Rise ((if x.frame = f.frame then [] else [x]) ++ wGo f fs (d || decide (f.frame ≤ x.frame))) := by
      split
      · exact ih
      · exact List.pairwise_cons.2 ⟨hrest, ih⟩
    simp only [wGo]
    split
    · rename_i hq
      refine (List.pairwise_cons (l := (if x.frame = f.frame then [] else [x]) ++ wGo f fs (d || decide (f.frame ≤ x.frame)))).2 ⟨?_, htail⟩
      intro y hy
      rcases List.mem_append.1 hy with hy | hy
      · split at hy
        · simp at hy
        · simp at hy
          subst hy
          omega
      · have := hrest y hy; omega
    · exact htail
theorem rise_withF {fs : List On} (h : Rise fs) (f : On) : Rise (withK (fun x : On => x.frame) fs f) := by
  rw [withF_go]
  exact rise_wGo f fs false h (fun h => by simp at h)
theorem find_filter {fs : List On} (j k : Int) : (fs.filter (fun x => x.frame != j)).find? (·.frame == k) = if j = k then none else fs.find? (·.frame == k) := by
  induction fs with
  | nil => simp
  | cons x fs ih =>
    by_cases hx : x.frame = j
    · rw [List.filter_cons_of_neg (by simpa using hx), ih]
      by_cases hj : j = k
      · rw [if_pos hj, if_pos hj]
      · rw [if_neg hj, if_neg hj, List.find?_cons_of_neg (by simp; omega)]
    · rw [List.filter_cons_of_pos (by simpa using hx)]
      by_cases hk : x.frame = k
      · rw [List.find?_cons_of_pos (by simpa using hk), List.find?_cons_of_pos (by simpa using hk), if_neg (by omega)]
      · rw [List.find?_cons_of_neg (by simpa using hk), List.find?_cons_of_neg (by simpa using hk), ih]
def plO (x : On) : Pl := (x.evs, x.lost)
/-- The reference's list tells what the table's map holds. -/
structure Sim (most : Int) (P : List (Int × Pl)) (A : List On) : Prop where
  rise : Rise A
  find : ∀ k, (A.find? (·.frame == k)).map plO = mget P k
  nd : (P.map (·.1)).Nodup
  le : ∀ x ∈ A, (x.evs.length : Int) ≤ most
theorem Rise.nodup {fs : List On} (h : Rise fs) : (fs.map (·.frame)).Nodup := by
  rw [List.nodup_iff_pairwise_ne, List.pairwise_map]
  exact h.imp fun h e => by omega
theorem Rise.find_mem {fs : List On} (h : Rise fs) {f : On} (hf : f ∈ fs) : fs.find? (·.frame == f.frame) = some f := by
  induction fs with
  | nil => simp at hf
  | cons x fs ih =>
    have h1 := List.pairwise_cons.1 h
    rcases List.mem_cons.1 hf with rfl | hf
    · simp
    · have := h1.1 f hf
      rw [List.find?_cons_of_neg (by simp; omega)]
      exact ih h1.2 hf
theorem Sim.start (most : Int) : Sim most [] [] := ⟨List.Pairwise.nil, fun k => rfl, by simp, by simp⟩
section
variable {most : Int} {P : List (Int × Pl)} {A : List On}
theorem Sim.mem (h : Sim most P A) {x : On} (hx : x ∈ A) : mget P x.frame = some (plO x) := by rw [← h.find, h.rise.find_mem hx]; rfl
theorem Sim.of_get (h : Sim most P A) {k : Int} {p : Pl} (hf : mget P k = some p) : ∃ x, A.find? (·.frame == k) = some x ∧ x ∈ A ∧ x.frame = k ∧ plO x = p := by
  rw [← h.find] at hf
  obtain ⟨x, h1, h2⟩ := Option.map_eq_some_iff.1 hf
  exact ⟨x, h1, List.mem_of_find?_eq_some h1, by have := List.find?_some h1; simpa using this, h2⟩
theorem Sim.gone (h : Sim most P A) {k : Int} (hf : mget P k = none) : A.find? (·.frame == k) = none := by
  rw [← h.find] at hf
  simpa using hf
theorem Sim.isSome (h : Sim most P A) (k : Int) : (A.find? (·.frame == k)).isSome = (mget P k).isSome := by rw [← h.find]; simp
theorem Sim.keys (h : Sim most P A) : (A.map (·.frame)).Perm (P.map (·.1)) := by
  rw [List.perm_ext_iff_of_nodup h.rise.nodup h.nd]
  intro k
  constructor
  · intro hk
    obtain ⟨f, hf, rfl⟩ := List.mem_map.1 hk
    exact List.mem_map.2 ⟨_, mget_some_mem (h.mem hf), rfl⟩
  · intro hk
    cases hg : mget P k with
    | none => exact absurd hk (mget_none.1 hg)
    | some f =>
      obtain ⟨x, _, h1, h2, _⟩ := h.of_get hg
      exact List.mem_map.2 ⟨x, h1, h2⟩
theorem Sim.length (h : Sim most P A) : A.length = P.length := by
  have := h.keys.length_eq
  simpa using this
theorem rise_sort {ss : List Int} (h : Sim most P A) (h1 : ss.Perm (P.map (·.1))) (h2 : ss.Pairwise (· ≤ ·)) : ss = A.map (·.frame) := by
  refine List.Perm.eq_of_pairwise (le := (· ≤ ·)) (fun a b _ _ h1 h2 => by omega) h2 ?_ (h1.trans h.keys.symm)
  rw [List.pairwise_map]
  exact h.rise.imp fun h => by omega
theorem Sim.with (h : Sim most P A) (x : On) (hx : (x.evs.length : Int) ≤ most) : Sim most (mput P x.frame (plO x)) (withK (fun x : On => x.frame) A x) :=
  ⟨rise_withF h.rise x, fun k => by rw [find_withF, mget_mput]; split; rfl; exact h.find k, nodup_mput h.nd _ _, fun y hy => by
    rcases withK_mem _ _ y hy with rfl | hy
    · exact hx
    · exact h.le y hy⟩
theorem Sim.open (h : Sim most P A) (hm : 0 ≤ most) (k : Int) : (openF A k).2 = (mget P k).isNone ∧ Sim most (if (mget P k).isNone then mput P k ([], 0) else P) (openF A k).1 := by
  unfold openF
  rcases atO_cases A k with ⟨h1, h2⟩ | ⟨j, x, hj, h1, h2, h3, h4⟩
  · have hg : mget P k = none := by rw [← h.find, h1]; rfl
    rw [h2, if_neg (by omega), hg]
    exact ⟨rfl, h.with ⟨k, [], 0⟩ (by simpa using hm)⟩
  · have hg : mget P k = some (plO x) := by rw [← h.find, h1]; rfl
    rw [h2, if_pos (by omega), hg]
    exact ⟨rfl, h⟩
theorem Sim.shut (h : Sim most P A) (k : Int) : Sim most (mdel P k) (shutF A k) ∧ decide ((shutF A k).length < A.length) = (mget P k).isSome := by
  have hs : Sim most (mdel P k) (shutF A k) := ⟨List.Pairwise.sublist List.filter_sublist h.rise, fun j => by
    unfold shutF
    rw [find_filter, mget_mdel h.nd]
    split
    · rfl
    · exact h.find j, nodup_mdel h.nd k, fun x hx => h.le x (List.mem_filter.1 hx).1⟩
  refine ⟨hs, ?_⟩
  rw [hs.length, h.length]
  cases hg : mget P k with
  | none => rw [mdel_none hg]; simp
  | some p =>
    have := length_mdel (l := P) (k := k) (by rw [hg]; rfl)
    simp; omega
theorem putN_plain {x : On} {e : Ev} (hm : 1 ≤ most) (hx : (x.evs.length : Int) ≤ most) : plO (putN most x e) = put1 most (plO x) e ∧ (putN most x e).frame = e.frame ∧ ((putN most x e).evs.length : Int) ≤ most := by
  unfold putN put1 plO
  by_cases h : (x.evs.length : Int) = most
  · rw [if_pos (by simp; omega), if_pos h]
    cases hev : x.evs with
    | nil => rw [hev] at h; simp at h; omega
    | cons y ys =>
      rw [hev] at h
      simp at h
      refine ⟨by simp, rfl, by simp; omega⟩
  · rw [if_neg (by simp; omega), if_neg h]
    exact ⟨rfl, rfl, by simp; omega⟩
theorem Sim.put (h : Sim most P A) (hm : 1 ≤ most) (e : Ev) : Sim most (putF most P e) (putO most A e) := by
  unfold putF putO
  cases hg : mget P e.frame with
  | none => rw [h.gone hg]; exact h
  | some p =>
    obtain ⟨x, h1, h2, h3, h4⟩ := h.of_get hg
    rw [h1]
    obtain ⟨k1, k2, k3⟩ := putN_plain (x := x) (e := e) hm (h.le x h2)
    have := h.with (putN most x e) k3
    rw [k1, k2, h4] at this
    exact this
theorem Sim.puts (hm : 1 ≤ most) : ∀ (es : List Ev) {P : List (Int × Pl)} {A : List On}, Sim most P A → Sim most (putsF most P es) (putsO most A es) ∧ hitsO most A es = hits P es
  | [], P, A, h => ⟨h, rfl⟩
  | e :: es, P, A, h => by
    obtain ⟨h1, h2⟩ := Sim.puts hm es (h.put hm e)
    refine ⟨h1, ?_⟩
    simp only [hitsO]
    rw [h2, h.isSome]
    unfold hits
    rw [List.filter_cons]
    have hsame : (es.filter fun e' => (mget (putF most P e) e'.frame).isSome) = es.filter fun e' => (mget P e'.frame).isSome := List.filter_congr fun e' _ => by rw [isSome_putF]
    rw [hsame]
    split <;> simp <;> omega
theorem Sim.takeNone (h : Sim most P A) {k : Int} (hg : mget P k = none) (n : Int) : takeF A k n = (A, []) := by unfold takeF; rw [h.gone hg]
theorem Sim.take (h : Sim most P A) {k : Int} {p : Pl} (hg : mget P k = some p) (n : Int) : (takeF A k n).2 = p.1.take (takeN p.1 n) ∧ Sim most (mput P k (p.1.drop (takeN p.1 n), p.2)) (takeF A k n).1 := by
  obtain ⟨x, h1, h2, h3, h4⟩ := h.of_get hg
  subst h4
  unfold takeF
  rw [h1]
  simp only
  by_cases hn : n < 1
  · rw [if_pos hn]
    have ht : takeN (plO x).1 n = 0 := by unfold takeN; omega
    rw [ht, List.take_zero, List.drop_zero]
    exact ⟨rfl, by rw [mput_same (v := plO x) hg]; exact h⟩
  · rw [if_neg hn]
    refine ⟨rfl, ?_⟩
    have := h.with ⟨k, x.evs.drop (min n.toNat x.evs.length), x.lost⟩ (by have := h.le x h2; simp only [List.length_drop]; omega)
    exact this
end
end Go.Proofs.Ytchhpgnlfofdcaa.Q
