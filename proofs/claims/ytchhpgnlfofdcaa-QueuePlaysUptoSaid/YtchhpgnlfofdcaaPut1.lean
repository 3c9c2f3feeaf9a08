/- Walks: put, of one ring. -/
import Derived.Test.YtchhpgnlfofdcaaGrow2
import Derived.Outline
set_option linter.unusedVariables false
set_option linter.unusedSimpArgs false
namespace Go.Proofs.Ytchhpgnlfofdcaa.Q
open Go.RowKit Go.Proofs.Ytchhpgnlfofdcaa.Hp Go.Proofs.Ytchhpgnlfofdcaa.Mp
set_option maxRecDepth 100000

theorem grow_calls (most : Int) (q : Qr) (cap frm : Nat) (w : World) (h : RingAt w most q cap frm) (hm : 1 ≤ most) (hlen : q.evs.length ≤ 900) :
    Calls Try.prog 29 #[.pointer (some ⟨q.rb, 0, none⟩), .int .i64 most] w (Grown most q w) := by
  rcases Nat.lt_or_ge q.evs.length cap with h1 | h1
  · exact grow_room most q cap frm w h h1
  · by_cases h2 : most ≤ (cap : Int)
    · exact grow_full most q cap frm w h h1 h2
    · rcases Nat.eq_zero_or_pos cap with h0 | h0
      · subst h0
        exact grow_first most q w frm h hm
      · by_cases h3 : most ≤ 2 * (cap : Int) + 1
        · obtain ⟨n, hn⟩ := Int.eq_ofNat_of_zero_le (show 0 ≤ most by omega)
          exact grow_more most q cap frm n w h h0 h1 (by omega) hlen (.inl ⟨hn, by omega⟩)
        · exact grow_more most q cap frm (2 * cap + 1) w h h0 h1 (by omega) hlen (.inr ⟨rfl, by omega⟩)

/-- A ring that has room, with its cells. -/
structure RingC (w : World) (q : Qr) (cap frm : Nat) (cur : Array Value) : Prop where
  rb : w.heap[q.rb]? = some (.cells #[.slice (some ⟨q.ab, 0, none⟩) cap cap, .int .i64 frm, .int .i64 q.evs.length, .int .i64 q.lost] 58 (0, 0))
  ab : w.heap[q.ab]? = some (.cells cur 28 (0, 0))
  pos : 0 < cap
  flt : frm < cap
  len : q.evs.length ≤ cap
  size : cur.size = cap * 5
  one : ∀ i, i < cur.size → ∃ u, cur[i]? = some u ∧ u.oneCell' = true
  evs : ∀ i (hi : i < q.evs.length), EvIn w cur ((frm + i) % cap * 5) q.evs[i]
section
variable {w w' : World} {most : Int} {q : Qr} {cap frm : Nat} {cur : Array Value}
theorem RingAt.cells (h : RingAt w most q cap frm) (hc : 0 < cap) : ∃ cur, RingC w q cap frm cur := by
  obtain ⟨ea, h1, ⟨h0, _⟩ | ⟨g1, rfl, g2, g3, cur, g4, g5, g6, g7⟩⟩ := h.blk
  · omega
  · exact ⟨cur, h1, g4, g1, g2, g3, g5, g6, g7⟩
theorem RingC.ring (h : RingC w q cap frm cur) (hm : (cap : Int) ≤ most) (hc : cap ≤ 2001) (hl : 0 ≤ q.lost ∧ q.lost ≤ 100000) : RingAt w most q cap frm :=
  ⟨⟨_, h.rb, .inr ⟨h.pos, rfl, h.flt, h.len, cur, h.ab, h.size, h.one, h.evs⟩⟩, hm, hc, hl⟩
theorem RingC.ne (h : RingC w q cap frm cur) : q.rb ≠ q.ab := blk_ne h.rb h.ab (by simp)
theorem RingC.drew (h : RingC w q cap frm cur) : RingC w.drew q cap frm cur := ⟨h.rb, h.ab, h.pos, h.flt, h.len, h.size, h.one, fun i hi => by obtain ⟨va, vc, g1, g2⟩ := h.evs i hi; exact ⟨va, vc, g1, g2.keep (fun _ _ _ => rfl)⟩⟩
theorem RingC.drewN (h : RingC w q cap frm cur) (n : Nat) : RingC (w.drewN n) q cap frm cur := ⟨h.rb, h.ab, h.pos, h.flt, h.len, h.size, h.one, fun i hi => by obtain ⟨va, vc, g1, g2⟩ := h.evs i hi; exact ⟨va, vc, g1, g2.keep (fun _ _ _ => rfl)⟩⟩
theorem RingC.c0 (h : RingC w q cap frm cur) : w.cell? ⟨q.rb, 0, none⟩ = some (.slice (some ⟨q.ab, 0, none⟩) cap cap) := blk_cell h.rb 0
theorem RingC.c1 (h : RingC w q cap frm cur) : w.cell? ⟨q.rb, 1, none⟩ = some (.int .i64 frm) := blk_cell h.rb 1
theorem RingC.c2 (h : RingC w q cap frm cur) : w.cell? ⟨q.rb, 2, none⟩ = some (.int .i64 q.evs.length) := blk_cell h.rb 2
theorem RingC.c3 (h : RingC w q cap frm cur) : w.cell? ⟨q.rb, 3, none⟩ = some (.int .i64 q.lost) := blk_cell h.rb 3
theorem VAt.set {va : Option Addr} {vec : List Pt} (h : VAt w va vec) {p : Addr} (hp : ∀ (i : Nat) (c : Array Value), w.heap[i]? = some (Obj.cells c 71 (0, 0)) → i ≠ p.block) (u : Value) : VAt (w.setCell p u) va vec :=
  h.keep (fun i c hc => by rw [hc]; exact blk_far hc (hp i c hc) u)
theorem RingC.no71 (h : RingC w q cap frm cur) : ∀ (i : Nat) (c : Array Value), w.heap[i]? = some (Obj.cells c 71 (0, 0)) → i ≠ q.rb ∧ i ≠ q.ab := fun i c hc => by
  refine ⟨?_, ?_⟩
  · rintro rfl; rw [h.rb] at hc; simp at hc
  · rintro rfl; rw [h.ab] at hc; simp at hc
/-- A store into one of the ring's own cells: what the ring holds stays. -/
theorem EvIn.setRb {e : Ev} {o j : Nat} (h : RingC w q cap frm cur) (he : EvIn w cur o e) (u : Value) : EvIn (w.setCell ⟨q.rb, j, none⟩ u) cur o e := by
  obtain ⟨va, vc, g1, g2⟩ := he
  exact ⟨va, vc, g1, g2.set (fun i c hc => (h.no71 i c hc).1) u⟩
/-- The first one is let go. -/
theorem RingC.drop (h : RingC w q cap frm cur) {x : Ev} {rest : List Ev} (he : q.evs = x :: rest) :
    RingC (((w.setCell ⟨q.rb, 1, none⟩ (.int .i64 (((frm + 1) % cap : Nat) : Int))).setCell ⟨q.rb, 2, none⟩ (.int .i64 rest.length)).setCell ⟨q.rb, 3, none⟩ (.int .i64 (q.lost + 1))) { q with evs := rest, lost := q.lost + 1 } cap ((frm + 1) % cap) cur := by
  have hne := h.ne
  have e1 := blk_set (blk_set (blk_set h.rb 1 (.int .i64 (((frm + 1) % cap : Nat) : Int))) 2 (.int .i64 rest.length)) 3 (.int .i64 (q.lost + 1))
  refine ⟨e1, blk_far (blk_far (blk_far h.ab (Ne.symm hne) _) (Ne.symm hne) _) (Ne.symm hne) _, h.pos, Nat.mod_lt _ h.pos, ?_, h.size, h.one, ?_⟩
  · have := h.len; rw [he] at this; simp only [List.length_cons] at this; simp only; omega
  · intro i hi
    simp only at hi
    have hi2 : i + 1 < q.evs.length := by rw [he]; simp only [List.length_cons]; omega
    obtain ⟨va, vc, g1, g2⟩ := h.evs (i + 1) hi2
    have hget : q.evs[i + 1]'hi2 = rest[i] := by simp only [he, List.getElem_cons_succ]
    rw [hget] at g1 g2
    have hmod : ((frm + 1) % cap + i) % cap = (frm + (i + 1)) % cap := by rw [Nat.mod_add_mod]; congr 1; omega
    refine ⟨va, vc, ?_, g2.keep (fun k c hc => ?_)⟩
    · simp only [hmod]; exact g1
    · have := (h.no71 k c hc).1
      rw [hc]
      exact blk_far (blk_far (blk_far hc this _) this _) this _
/-- What put leaves. -/
def Putted (most : Int) (q : Qr) (q' : Nat → Qr) (w : World) (e : Ending) (w' : World) : Prop := e = .returned (.tuple #[]) ∧ ∃ ab' cap' frm', RingAt w' most (q' ab') cap' frm' ∧ (ab' = q.ab ∨ w.heap.size ≤ ab') ∧ Chg (Rb q) w w'
/-- An event laid over five cells. -/
def layE (cur : Array Value) (o : Nat) (e : Ev) (va : Option Addr) (vc : Nat) : Array Value := ((((cur.setIfInBounds o (.int .i64 e.kind)).setIfInBounds (o + 1) (.int .i64 e.frame)).setIfInBounds (o + 2) (.int .i64 e.id)).setIfInBounds (o + 3) (.int .i64 e.agent)).setIfInBounds (o + 4) (.slice va e.vec.length vc)
theorem layE_size (cur : Array Value) (o : Nat) (e : Ev) (va : Option Addr) (vc : Nat) : (layE cur o e va vc).size = cur.size := by simp [layE]
theorem layE_in {cur : Array Value} {o : Nat} (e : Ev) (va : Option Addr) (vc : Nat) (h : o + 5 ≤ cur.size) : ∀ i u, (cellsE e va vc)[i]? = some u → (layE cur o e va vc)[o + i]? = some u := by
  intro i u hu
  unfold layE
  have h0 : o < cur.size := by omega
  have h1 : o + 1 < cur.size := by omega
  have h2 : o + 2 < cur.size := by omega
  have h3 : o + 3 < cur.size := by omega
  have h4 : o + 4 < cur.size := by omega
  match i, hu with
  | 0, hu => simp only [cellsE, List.getElem?_cons_zero] at hu; simp [Array.getElem?_setIfInBounds, h0]; simpa using hu
  | 1, hu => simp [cellsE] at hu; simp [Array.getElem?_setIfInBounds, h1, hu]
  | 2, hu => simp [cellsE] at hu; simp [Array.getElem?_setIfInBounds, h2, hu]
  | 3, hu => simp [cellsE] at hu; simp [Array.getElem?_setIfInBounds, h3, hu]
  | 4, hu => simp [cellsE] at hu; simp [Array.getElem?_setIfInBounds, h4, hu]
  | n + 5, hu => simp [cellsE] at hu
theorem layE_out {cur : Array Value} {o : Nat} (e : Ev) (va : Option Addr) (vc : Nat) {j : Nat} (h : j < o ∨ o + 5 ≤ j) : (layE cur o e va vc)[j]? = cur[j]? := by
  unfold layE
  have n0 : o ≠ j := by omega
  have n1 : o + 1 ≠ j := by omega
  have n2 : o + 2 ≠ j := by omega
  have n3 : o + 3 ≠ j := by omega
  have n4 : o + 4 ≠ j := by omega
  simp [Array.getElem?_setIfInBounds, n0, n1, n2, n3, n4]
theorem layE_one {cur : Array Value} {o : Nat} (e : Ev) (va : Option Addr) (vc : Nat) (h : o + 5 ≤ cur.size) (h1 : ∀ i, i < cur.size → ∃ u, cur[i]? = some u ∧ u.oneCell' = true) : ∀ i, i < (layE cur o e va vc).size → ∃ u, (layE cur o e va vc)[i]? = some u ∧ u.oneCell' = true := by
  intro i hi
  rw [layE_size] at hi
  by_cases hq : o ≤ i ∧ i < o + 5
  · obtain ⟨r, rfl⟩ : ∃ r, i = o + r := ⟨i - o, by omega⟩
    have hr : r < (cellsE e va vc).length := by show r < 5; omega
    refine ⟨_, layE_in e va vc h r _ (List.getElem?_eq_getElem hr), ?_⟩
    match r, hr with
    | 0, _ => rfl
    | 1, _ => rfl
    | 2, _ => rfl
    | 3, _ => rfl
    | 4, _ => rfl
    | n + 5, hr => exact absurd hr (by show ¬ n + 5 < 5; omega)
  · rw [layE_out e va vc (by omega)]
    exact h1 i hi
theorem mod_ne {cap frm i n : Nat} (hc : 0 < cap) (hi : i < n) (hn : n < cap) (hf : frm < cap) : (frm + i) % cap ≠ (frm + n) % cap := by
  intro h
  rcases Nat.lt_or_ge (frm + i) cap with h1 | h1 <;> rcases Nat.lt_or_ge (frm + n) cap with h2 | h2
  · rw [Nat.mod_eq_of_lt h1, Nat.mod_eq_of_lt h2] at h; omega
  · rw [Nat.mod_eq_of_lt h1, Nat.mod_eq_sub_mod h2, Nat.mod_eq_of_lt (by omega)] at h; omega
  · rw [Nat.mod_eq_of_lt h2] at h; rw [Nat.mod_eq_sub_mod h1, Nat.mod_eq_of_lt (by omega)] at h; omega
  · rw [Nat.mod_eq_sub_mod h1, Nat.mod_eq_of_lt (by omega), Nat.mod_eq_sub_mod h2, Nat.mod_eq_of_lt (by omega)] at h; omega
/-- The world behind the store of an event. -/
def putE (w : World) (g o : Nat) (e : Ev) (va : Option Addr) (vc : Nat) : World := ((((w.setCell ⟨g, o, none⟩ (.int .i64 e.kind)).setCell ⟨g, o + 1, none⟩ (.int .i64 e.frame)).setCell ⟨g, o + 2, none⟩ (.int .i64 e.id)).setCell ⟨g, o + 3, none⟩ (.int .i64 e.agent)).setCell ⟨g, o + 4, none⟩ (.slice va e.vec.length vc)
theorem putE_blk {t : TypeId} {g : Nat} (h : w.heap[g]? = some (.cells cur t (0, 0))) (o : Nat) (e : Ev) (va : Option Addr) (vc : Nat) : (putE w g o e va vc).heap[g]? = some (.cells (layE cur o e va vc) t (0, 0)) :=
  blk_set (blk_set (blk_set (blk_set (blk_set h o _) (o + 1) _) (o + 2) _) (o + 3) _) (o + 4) _
theorem putE_far {g i : Nat} {ob : Obj} (h : w.heap[i]? = some ob) (hne : i ≠ g) (o : Nat) (e : Ev) (va : Option Addr) (vc : Nat) : (putE w g o e va vc).heap[i]? = some ob :=
  blk_far (blk_far (blk_far (blk_far (blk_far h hne _) hne _) hne _) hne _) hne _
theorem Chg.putE {S : Nat → Prop} {a : World} (h : Chg S a w) {g : Nat} (hg : S g ∨ a.heap.size ≤ g) (o : Nat) (e : Ev) (va : Option Addr) (vc : Nat) : Chg S a (Q.putE w g o e va vc) :=
  ((((h.setCell (p := ⟨g, o, none⟩) hg _).setCell (p := ⟨g, o + 1, none⟩) hg _).setCell (p := ⟨g, o + 2, none⟩) hg _).setCell (p := ⟨g, o + 3, none⟩) hg _).setCell (p := ⟨g, o + 4, none⟩) hg _
/-- One comes behind the others. -/
theorem RingC.push (h : RingC w q cap frm cur) (hlt : q.evs.length < cap) (e : Ev) (va : Option Addr) (vc : Nat) (hv : VAt w va e.vec) :
    RingC ((Q.putE w q.ab ((frm + q.evs.length) % cap * 5) e va vc).setCell ⟨q.rb, 2, none⟩ (.int .i64 ((q.evs.length : Int) + 1))) { q with evs := q.evs ++ [e] } cap frm (layE cur ((frm + q.evs.length) % cap * 5) e va vc) := by
  have hp : (frm + q.evs.length) % cap < cap := Nat.mod_lt _ h.pos
  have hfit : (frm + q.evs.length) % cap * 5 + 5 ≤ cur.size := by rw [h.size]; omega
  have hkeep : ∀ (i : Nat) (c : Array Value), w.heap[i]? = some (Obj.cells c 71 (0, 0)) → ((Q.putE w q.ab ((frm + q.evs.length) % cap * 5) e va vc).setCell ⟨q.rb, 2, none⟩ (.int .i64 ((q.evs.length : Int) + 1))).heap[i]? = w.heap[i]? := fun i c hc => by
    obtain ⟨n1, n2⟩ := h.no71 i c hc
    rw [hc]
    exact blk_far (putE_far hc n2 _ e va vc) n1 _
  refine ⟨?_, blk_far (putE_blk h.ab _ e va vc) (Ne.symm h.ne) _, h.pos, h.flt, by simp only [List.length_append, List.length_singleton]; omega, by rw [layE_size]; exact h.size, layE_one e va vc hfit h.one, ?_⟩
  · have := blk_set (putE_far h.rb h.ne ((frm + q.evs.length) % cap * 5) e va vc) 2 (.int .i64 ((q.evs.length : Int) + 1))
    simp only [List.length_append, List.length_singleton]
    exact this
  · intro i hi
    simp only [List.length_append, List.length_singleton] at hi
    rcases Nat.lt_or_eq_of_le (Nat.le_of_lt_succ hi) with h1 | h1
    · obtain ⟨va', vc', g1, g2⟩ := h.evs i h1
      have hget : (q.evs ++ [e])[i]'(by simp; omega) = q.evs[i] := List.getElem_append_left h1
      simp only [hget]
      refine ⟨va', vc', fun r u hu => ?_, g2.keep hkeep⟩
      have hr : r < 5 := by
        rcases Nat.lt_or_ge r 5 with h' | h'
        · exact h'
        · rw [List.getElem?_eq_none (by simpa [cellsE] using h')] at hu; simp at hu
      have hne := mod_ne (frm := frm) h.pos h1 hlt h.flt
      rw [layE_out e va vc (by omega)]
      exact g1 r u hu
    · subst h1
      have hget : (q.evs ++ [e])[q.evs.length]'(by simp) = e := by simp
      simp only [hget]
      exact ⟨va, vc, layE_in e va vc hfit, hv.keep hkeep⟩
end
end Go.Proofs.Ytchhpgnlfofdcaa.Q
