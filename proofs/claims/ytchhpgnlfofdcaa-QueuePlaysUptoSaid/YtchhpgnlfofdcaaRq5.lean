/- The reference's Put: the plain words, and what lies where. -/
import Derived.Test.YtchhpgnlfofdcaaRq4
set_option linter.unusedVariables false
set_option linter.unusedSimpArgs false
namespace Go.Proofs.Ytchhpgnlfofdcaa.Q
open Go.RowKit Go.Proofs.Ytchhpgnlfofdcaa.Hp Go.Proofs.Ytchhpgnlfofdcaa.Mp
set_option maxRecDepth 100000

/-- What Take answers. -/
def TakeA (T : Nat → Prop) (most : Int) (R : List On × List Ev) (w : World) (e : Ending) (w' : World) : Prop :=
  ∃ sl ta tc, e = .returned (.tuple #[.agg #[.int .i64 most, sl], .slice ta R.2.length tc]) ∧ MAns T most w R.1 sl w' ∧ ERow T w' ta R.2 ∧ Below w.heap.size w w'
theorem mTake_calls (T : Nat → Prop) (most id n : Int) (fa : Option Addr) (g fc : Nat) (xs : List Oe) (w : World) (hlen : xs.length ≤ 900) (hT : ∀ i, T i → i < w.heap.size) (h : MAt T w fa g xs) :
    Calls Try.prog 28 #[.agg #[.int .i64 most, .slice fa xs.length fc], .int .i64 id, .int .i64 n] w (TakeA T most (takeF (xs.map (·.1)) id n) w) := by
  rcases atO_cases (xs.map (·.1)) id with ⟨h1, h2⟩ | ⟨k, x, hk, h1, h2, h3, h4⟩
  · have hR : takeF (xs.map (·.1)) id n = (xs.map (·.1), []) := by unfold takeF; rw [h1]
    rw [hR]
    exact (mTake_no T most id n fa g fc xs w hlen hT h (.inl h2)).mono fun e w' ⟨e1, hb⟩ => ⟨_, none, 0, e1, MAns.same h hT hb, ERow.nil _ _ _, hb⟩
  · by_cases hn : n < 1
    · have hR : takeF (xs.map (·.1)) id n = (xs.map (·.1), []) := by unfold takeF; rw [h1]; simp only; rw [if_pos hn]
      rw [hR]
      exact (mTake_no T most id n fa g fc xs w hlen hT h (.inr ⟨⟨k, h2⟩, hn⟩)).mono fun e w' ⟨e1, hb⟩ => ⟨_, none, 0, e1, MAns.same h hT hb, ERow.nil _ _ _, hb⟩
    · obtain ⟨m, rfl⟩ := Int.eq_ofNat_of_zero_le (show 0 ≤ n by omega)
      rw [List.length_map] at hk
      have hx : xs[k].1 = x := by rw [← h3]; simp
      have hR : takeF (xs.map (·.1)) id (m : Int) = (withK (·.frame) (xs.map (·.1)) ⟨id, xs[k].1.evs.drop (min m xs[k].1.evs.length), xs[k].1.lost⟩, xs[k].1.evs.take (min m xs[k].1.evs.length)) := by
        unfold takeF; rw [h1]; simp only; rw [if_neg hn, hx, Int.toNat_natCast]
      rw [hR]
      refine (mTake_yes T most id m fa g fc xs w hlen hT h k hk h2 (by omega)).mono fun e w' ⟨sl, ta, tc, e1, e2, e3, e4⟩ => ⟨sl, ta, tc, ?_, e2, e3, e4⟩
      rw [e1, List.length_take, Nat.min_eq_left (Nat.min_le_right _ _)]

/-- Events at a place, told cell by cell. -/
theorem ex_of {T : Nat → Prop} {w : World} {g : Nat} : ∀ (es : List Ev) (o : Nat), (∀ j (hj : j < es.length), ∃ va vc, EvAt T w g (o + j * 5) es[j] va vc) →
    ∃ ys : List Ex, ys.map (·.1) = es ∧ (∀ j u, (flatX ys)[j]? = some u → w.cell? ⟨g, o + j, none⟩ = some u) ∧ ∀ y ∈ ys, PAt T w y.2.1 y.1.vec
  | [], o, h => ⟨[], rfl, fun j u hu => by simp [flatX] at hu, by simp⟩
  | e :: es, o, h => by
    obtain ⟨va, vc, he⟩ := h 0 (by simp)
    obtain ⟨ys, h1, h2, h3⟩ := ex_of es (o + 5) (fun j hj => by
      obtain ⟨va, vc, h'⟩ := h (j + 1) (by simpa using hj)
      refine ⟨va, vc, ?_⟩
      rw [show o + 5 + j * 5 = o + (j + 1) * 5 by omega]
      simpa using h')
    simp only [List.getElem_cons_zero, Nat.zero_mul, Nat.add_zero] at he
    refine ⟨(e, va, vc) :: ys, by rw [List.map_cons, h1], fun j u hu => ?_, fun y hy => ?_⟩
    · simp only [flatX] at hu
      by_cases hj : j < 5
      · rw [List.getElem?_append_left (show j < 5 from hj)] at hu
        match j, hj, hu with
        | 0, _, hu => simp only [cellsE, List.getElem?_cons_zero, Option.some.injEq] at hu; rw [← hu]; exact he.c0
        | 1, _, hu => simp [cellsE] at hu; rw [← hu]; exact he.c1
        | 2, _, hu => simp [cellsE] at hu; rw [← hu]; exact he.c2
        | 3, _, hu => simp [cellsE] at hu; rw [← hu]; exact he.c3
        | 4, _, hu => simp [cellsE] at hu; rw [← hu]; exact he.c4
        | j + 5, hj, _ => omega
      · rw [List.getElem?_append_right (show 5 ≤ j by omega)] at hu
        have := h2 (j - 5) u hu
        rw [show o + 5 + (j - 5) = o + j by omega] at this
        exact this
    · rcases List.mem_cons.1 hy with rfl | hy
      · exact he.vec
      · exact h3 y hy
theorem ERow.ex {T : Nat → Prop} {w : World} {fa : Option Addr} {es : List Ev} (h : ERow T w fa es) :
    ∃ ys : List Ex, ys.map (·.1) = es ∧ (0 < ys.length → ∃ ad, fa = some ad ∧ T ad.block ∧ ∀ j u, (flatX ys)[j]? = some u → w.cell? (ad.add j) = some u) ∧ ∀ y ∈ ys, PAt T w y.2.1 y.1.vec := by
  obtain ⟨g, o, h1, h2⟩ := h
  obtain ⟨ys, e1, e2, e3⟩ := ex_of es o h2
  refine ⟨ys, e1, fun hl => ?_, e3⟩
  rw [← List.length_map (f := (·.1)), e1] at hl
  exact ⟨_, (h1 hl).1, (h1 hl).2, fun j u hu => by rw [add_flat]; exact e2 j u hu⟩
theorem EAt.of_cells {T : Nat → Prop} {w : World} {fa : Option Addr} {g o : Nat} {ys : List Ex} (h1 : 0 < ys.length → fa = some ⟨g, o, none⟩ ∧ T g) (h2 : ∀ j u, (flatX ys)[j]? = some u → w.cell? ⟨g, o + j, none⟩ = some u) (h3 : ∀ y ∈ ys, PAt T w y.2.1 y.1.vec) : EAt T w fa g o (ys.map (·.1)) := by
  refine ⟨fun hl => h1 (by simpa using hl), fun j hj => ?_⟩
  rw [List.length_map] at hj
  have key : ∀ i u, i < 5 → (cellsE ys[j].1 ys[j].2.1 ys[j].2.2)[i]? = some u → w.cell? ⟨g, o + j * 5 + i, none⟩ = some u := fun i u hi hu => by
    rw [show o + j * 5 + i = o + (j * 5 + i) by omega]
    exact h2 _ _ ((flatX_get ys j i hj hi).trans hu)
  rw [List.getElem_map]
  exact ⟨_, _, key 0 _ (by omega) rfl, key 1 _ (by omega) rfl, key 2 _ (by omega) rfl, key 3 _ (by omega) rfl, key 4 _ (by omega) rfl, h3 _ (List.getElem_mem hj)⟩
/-- An own row of events, from a place on. -/
theorem own_events {T : Nat → Prop} {w : World} {B : Nat} {v : Value} {ys : List Ex} (h : w.ownsRow B 28 5 v ys.length (flatX ys)) (hp : 0 < ys.length) (hT : ∀ g, v.ownBlock = some g → T g) (h3 : ∀ y ∈ ys, PAt T w y.2.1 y.1.vec) :
    ∃ g fc, v = .slice (some ⟨g, 0, none⟩) ys.length fc ∧ ys.length ≤ fc ∧ B ≤ g ∧ ERow T w (some ⟨g, 0, none⟩) (ys.map (·.1)) := by
  rcases h.2 with ⟨rfl, h0⟩ | ⟨g, cap, cur, rfl, hb, hbk, h1, h2, h4, h5⟩
  · omega
  · refine ⟨g, cap, rfl, h1, hb, g, 0, EAt.of_cells (fun _ => ⟨rfl, hT g rfl⟩) (fun j u hu => ?_) h3⟩
    have hj : j < ys.length * 5 := by have := (List.getElem?_eq_some_iff.1 hu).1; rwa [flatX_length] at this
    rw [Nat.zero_add, blk_cell hbk, ← Array.getElem?_toList, ← hu, ← h5, List.getElem?_take_of_lt hj]
/-- One more event, by the reference. -/
def putN (most : Int) (x : On) (e : Ev) : On := if most < ((x.evs ++ [e]).length : Int) then ⟨e.frame, (x.evs ++ [e]).drop 1, x.lost + 1⟩ else ⟨e.frame, x.evs ++ [e], x.lost⟩
def putO (most : Int) (A : List On) (e : Ev) : List On := match A.find? (·.frame == e.frame) with
  | none => A
  | some x => withK (·.frame) A (putN most x e)
def putsO (most : Int) (A : List On) (es : List Ev) : List On := es.foldl (putO most) A
def hitsO (most : Int) (A : List On) : List Ev → Nat
  | [] => 0
  | e :: es => (if (A.find? (·.frame == e.frame)).isSome then 1 else 0) + hitsO most (putO most A e) es
theorem putsO_take (most : Int) (A : List On) (es : List Ev) (k : Nat) (h : k < es.length) : putsO most A (es.take (k + 1)) = putO most (putsO most A (es.take k)) es[k] := by
  unfold putsO
  rw [List.take_add_one, List.getElem?_eq_getElem h, Option.toList_some, List.foldl_append]
  rfl
theorem hitsO_append (most : Int) : ∀ (es fs : List Ev) (A : List On), hitsO most A (es ++ fs) = hitsO most A es + hitsO most (putsO most A es) fs
  | [], fs, A => by simp [hitsO, putsO]
  | e :: es, fs, A => by
    simp only [List.cons_append, hitsO, hitsO_append most es fs, Nat.add_assoc]
    rfl
theorem hitsO_take (most : Int) (A : List On) (es : List Ev) (k : Nat) (h : k < es.length) : hitsO most A (es.take (k + 1)) = hitsO most A (es.take k) + (if ((putsO most A (es.take k)).find? (·.frame == es[k].frame)).isSome then 1 else 0) := by
  rw [List.take_add_one, List.getElem?_eq_getElem h, Option.toList_some, hitsO_append]
  rfl
theorem hitsO_le (most : Int) : ∀ (es : List Ev) (A : List On), hitsO most A es ≤ es.length
  | [], A => Nat.le_refl _
  | e :: es, A => by
    have := hitsO_le most es (putO most A e)
    simp only [hitsO, List.length_cons]
    split <;> omega
theorem wFold_length {α : Type} {key : α → Int} (f : α) : ∀ (fs : List α) (s : List α × Bool), (fs.foldl (wStep key f) s).1.length + (if (fs.foldl (wStep key f) s).2 = true then 0 else 1) ≤ s.1.length + fs.length + (if s.2 = true then 0 else 1)
  | [], s => by simp only [List.foldl_nil, List.length_nil, Nat.add_zero]; exact Nat.le_refl _
  | x :: fs, s => by
    have := wFold_length (key := key) f fs (wStep key f s x)
    refine Nat.le_trans this ?_
    unfold wStep
    simp only [List.length_cons]
    obtain ⟨a, b⟩ := s
    cases b
    · by_cases h1 : key f ≤ key x <;> by_cases h2 : key x = key f <;> simp [h1, h2] <;> omega
    · by_cases h2 : key x = key f <;> simp [h2] <;> omega
theorem withK_length {α : Type} {key : α → Int} (fs : List α) (f : α) : (withK key fs f).length ≤ fs.length + 1 := by
  have := wFold_length (key := key) f fs ([], false)
  unfold withK
  simp only [List.length_nil, Nat.zero_add] at this
  split
  · rename_i h; rw [h] at this; simp at this; omega
  · rename_i h
    rw [List.length_append]
    simp only [Bool.not_eq_true] at h
    rw [h] at this
    simpa using this
/-- Bounds of every queue. -/
def BdO (c : Nat) (A : List On) : Prop := ∀ x ∈ A, x.evs.length ≤ c ∧ 0 ≤ x.lost ∧ x.lost ≤ c
theorem BdO.mono {c d : Nat} {A : List On} (h : BdO c A) (hcd : c ≤ d) : BdO d A := fun x hx => by have := h x hx; omega
theorem BdO.put {c : Nat} {A : List On} (h : BdO c A) (most : Int) (e : Ev) : BdO (c + 1) (putO most A e) := by
  unfold putO
  cases hf : A.find? (·.frame == e.frame) with
  | none => exact h.mono (by omega)
  | some x =>
    intro y hy
    have hx := h x (List.mem_of_find?_eq_some hf)
    rcases withK_mem _ _ y hy with rfl | hy
    · unfold putN
      split
      · simp only [List.length_drop, List.length_append, List.length_singleton]; omega
      · simp only [List.length_append, List.length_singleton]; omega
    · have := h y hy; omega
theorem putO_length (most : Int) (A : List On) (e : Ev) : (putO most A e).length ≤ A.length + 1 := by
  unfold putO
  split
  · omega
  · exact withK_length _ _
end Go.Proofs.Ytchhpgnlfofdcaa.Q
