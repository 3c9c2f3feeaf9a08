/- What a table of queues does, told plainly: the contracts that does stands on. -/
import Derived.Test.YtchhpgnlfofdcaaActs
set_option linter.unusedVariables false
set_option linter.unusedSimpArgs false
namespace Go.Proofs.Ytchhpgnlfofdcaa.Q
open Go.RowKit Go.Proofs.Ytchhpgnlfofdcaa.Hp Go.Proofs.Ytchhpgnlfofdcaa.Mp
set_option maxRecDepth 100000

section
variable {w wr w' : World} {b m : Nat} {most : Int} {l l' l2 : List (Int × Qr)}
theorem Qs.trans (h : Qs w wr b m most l l') (k : Qs wr w' b m most l' l2) : Qs w w' b m most l l2 := h.step k.tq k.own k.chg
theorem Qs.of_below (h : Tq w b m most l) (hb : Below w.heap.size w w') : Qs w w' b m most l l := (Qs.start h).below hb
/-- A store into a block that is neither a table's, nor an event's parts. -/
theorem Qs.setFar (h : Qs w wr b m most l l') {R : Nat} {cs : Array Value} (hR : wr.heap[R]? = some (.cells cs 46 (0, 0))) (hge : w.heap.size ≤ R) (j : Nat) (u : Value) : Qs w (wr.setCell ⟨R, j, none⟩ u) b m most l l' := by
  have hk : ∀ i, i ≠ R → (wr.setCell ⟨R, j, none⟩ u).heap[i]? = wr.heap[i]? := fun i hi => Below.heap_setCell _ _ _ _ hi
  refine ⟨h.tq.keep (hk b ?_) (fun i hi => hk i ?_) (fun i c hc => hk i ?_), h.own, h.chg.setCell (.inr hge) u⟩
  · rintro rfl
    have := h.tq.blk
    rw [hR] at this
    simp at this
  · rintro rfl
    rcases hi with rfl | ⟨k, q, hk, hi⟩
    · obtain ⟨es, clk, hm, _⟩ := h.tq.map
      rw [hR] at hm
      simp at hm
    · obtain ⟨cap, frm, hr⟩ := h.tq.ring k q hk
      obtain ⟨cs, h1⟩ := hr.tag_rb
      rcases hi with rfl | rfl
      · rw [hR] at h1; simp at h1
      · rcases hr.tag_ab with h2 | ⟨cs2, h2⟩
        · rw [h2, h1] at hR; simp at hR
        · rw [h2] at hR; simp at hR
  · rintro rfl
    rw [hR] at hc
    simp at hc
/-- A queue opened, as a step. -/
theorem Qs.openG {k : Int} (ht : Tq w' b m most (mput l k (freshQ w.heap.size))) (hk : mget l k = none) (hc : Chg (fun i => i = m) w w') : Qs w w' b m most l (mput l k (freshQ w.heap.size)) :=
  ⟨ht, fun i hi => by
    rcases hi with rfl | ⟨k2, q, hk2, hi⟩
    · exact .inl (.inl rfl)
    · rw [mget_mput] at hk2
      split at hk2
      · injection hk2 with hk2
        rw [← hk2] at hi
        rcases hi with rfl | rfl <;> exact .inr (Nat.le_refl _)
      · exact .inl (.inr ⟨k2, q, hk2, hi⟩), hc.mono (fun i hi => .inl hi)⟩
theorem Qs.shutG {k : Int} (h : Tq w b m most l) (ht : Tq w' b m most (mdel l k)) (hc : Chg (fun i => i = m) w w') : Qs w w' b m most l (mdel l k) :=
  ⟨ht, fun i hi => by
    rcases hi with rfl | ⟨k2, q, hk2, hi⟩
    · exact .inl (.inl rfl)
    · exact .inl (.inr ⟨k2, q, mget_mdel_some h.nd hk2, hi⟩), hc.mono (fun i hi => .inl hi)⟩
end
/-- What a table's step answers. -/
def QAns (b m : Nat) (most : Int) (l : List (Int × Qr)) (w : World) (v : Value) (P : List (Int × Pl)) (c : Nat) (e : Ending) (w' : World) : Prop :=
  e = .returned v ∧ ∃ l', Qs w w' b m most l l' ∧ abs l' = P ∧ Bd c l'
def openP (P : List (Int × Pl)) (k : Int) : List (Int × Pl) := if (mget P k).isNone then mput P k ([], 0) else P
theorem qOpen {b m : Nat} {most : Int} {l : List (Int × Qr)} {c : Nat} (k : Int) (w : World) (h : Tq w b m most l) (hm : 0 ≤ most) (hb : Bd c l) :
    Calls Try.prog 7 #[.pointer (some ⟨b, 0, none⟩), .int .i64 k] w (QAns b m most l w (.bool (mget (abs l) k).isNone) (openP (abs l) k) c) := by
  cases hk : mget l k with
  | none =>
    have ha : mget (abs l) k = none := by rw [mget_abs, hk]; rfl
    unfold openP
    rw [ha]
    refine (open_yes k w h hm hk).mono fun e w' ⟨e1, e2, e3⟩ => ⟨e1, _, Qs.openG e2 hk e3, by rw [mput_abs]; rfl, fun k2 q2 h2 => ?_⟩
    rw [mget_mput] at h2
    split at h2
    · injection h2 with h2; rw [← h2]; simp [freshQ]
    · exact hb k2 q2 h2
  | some q =>
    have ha : mget (abs l) k = some (plain q) := by rw [mget_abs, hk]; rfl
    unfold openP
    rw [ha]
    refine (open_there k w h q hk).mono fun e w' ⟨e1, e2⟩ => ?_
    subst e2
    exact ⟨e1, l, Qs.start h, rfl, hb⟩
theorem qShut {b m : Nat} {most : Int} {l : List (Int × Qr)} {c : Nat} (k : Int) (w : World) (h : Tq w b m most l) (hb : Bd c l) :
    Calls Try.prog 26 #[.pointer (some ⟨b, 0, none⟩), .int .i64 k] w (QAns b m most l w (.bool (mget (abs l) k).isSome) (mdel (abs l) k) c) := by
  refine (shut_calls k w h).mono fun e w' ⟨e1, e2, e3⟩ => ⟨by rw [e1, mget_abs]; simp, _, Qs.shutG h e2 e3, mdel_abs l k, fun k2 q2 h2 => hb k2 q2 (mget_mdel_some h.nd h2)⟩
theorem qPut {b m : Nat} {most : Int} {l : List (Int × Qr)} {c : Nat} (T : Nat → Prop) (fa : Option Addr) (fc : Nat) (es : List Ev) (w : World) (h : Tq w b m most l) (hm : 1 ≤ most) (hbd : Bd c l) (hc : c + es.length ≤ 900) (hT : ∀ i, T i → i < w.heap.size ∧ ¬ Own m l i) (hrow : ERow T w fa es) (hvec : ∀ e ∈ es, e.vec.length ≤ 700) :
    Calls Try.prog 8 #[.pointer (some ⟨b, 0, none⟩), .slice fa es.length fc] w (QAns b m most l w (.int .i64 (hits (abs l) es)) (putsF most (abs l) es) (c + es.length)) := by
  obtain ⟨g, o, hr⟩ := hrow
  exact (putAll_calls b m most l T fa g o fc c es w h hm hbd hc hT hr hvec).mono fun e w' ⟨l', e1, e2, e3, e4⟩ => ⟨e1, l', e2, e3, e4⟩
/-- What is taken of a table. -/
def takeP (P : List (Int × Pl)) (k n : Int) : List (Int × Pl) × List Ev := match mget P k with
  | none => (P, [])
  | some p => (mput P k (p.1.drop (takeN p.1 n), p.2), p.1.take (takeN p.1 n))
def QTake (b m : Nat) (most : Int) (l : List (Int × Qr)) (w : World) (R : List (Int × Pl) × List Ev) (c : Nat) (e : Ending) (w' : World) : Prop :=
  ∃ fa fc l', e = .returned (.slice fa R.2.length fc) ∧ Qs w w' b m most l l' ∧ abs l' = R.1 ∧ Bd c l' ∧ ERow (fun i => i < w'.heap.size ∧ ¬ Own m l i) w' fa R.2
theorem qTake {b m : Nat} {most : Int} {l : List (Int × Qr)} {c : Nat} (k n : Int) (w : World) (h : Tq w b m most l) (hbd : Bd c l) (hc : c ≤ 900) :
    Calls Try.prog 12 #[.pointer (some ⟨b, 0, none⟩), .int .i64 k, .int .i64 n] w (QTake b m most l w (takeP (abs l) k n) c) := by
  unfold takeP
  rw [mget_abs]
  cases hk : mget l k with
  | none =>
    refine (take_absent k n w h hk).mono fun e w' ⟨e1, e2⟩ => ?_
    subst e2
    exact ⟨none, 0, l, e1, Qs.start h, rfl, hbd, ERow.nil _ _ _⟩
  | some q =>
    refine (takeAll_calls b m most l k n q w h hk (by have := hbd k q hk; omega)).mono fun e w' ⟨fa, fc, e1, e2, e3⟩ => ⟨fa, fc, _, e1, e2, by rw [mput_abs]; rfl, fun k2 q2 h2 => ?_, e3⟩
    rw [mget_mput] at h2
    split at h2
    · injection h2 with h2
      have := hbd k q hk
      rw [← h2]
      simp only [List.length_drop]
      omega
    · exact hbd k2 q2 h2
theorem takeP_sim {most : Int} {P : List (Int × Pl)} {A : List On} (h : Sim most P A) (k n : Int) : (takeF A k n).2 = (takeP P k n).2 ∧ Sim most (takeP P k n).1 (takeF A k n).1 := by
  unfold takeP
  cases hg : mget P k with
  | none => rw [h.takeNone hg]; exact ⟨rfl, h⟩
  | some p => exact h.take hg n
/-- The reference's bounds, out of the table's. -/
theorem bdO_of {w : World} {b m : Nat} {most : Int} {l : List (Int × Qr)} {c : Nat} {A : List On} (h : Tq w b m most l) (hb : Bd c l) (hs : Sim most (abs l) A) : BdO c A := fun x hx => by
  have h1 := hs.mem hx
  rw [mget_abs] at h1
  obtain ⟨q, hq, hp⟩ := Option.map_eq_some_iff.1 h1
  obtain ⟨cap, frm, hr⟩ := h.ring _ q hq
  have h2 := hb _ q hq
  have h3 := hr.lost
  unfold plain plO at hp
  injection hp with hp1 hp2
  rw [← hp1, ← hp2]
  omega
end Go.Proofs.Ytchhpgnlfofdcaa.Q
