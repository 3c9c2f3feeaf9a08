/- QueuePlays: where it is, round by round. -/
import Derived.Test.YtchhpgnlfofdcaaDoesAll
import Derived.Test.YtchhpgnlfofdcaaThose
set_option linter.unusedVariables false
set_option linter.unusedSimpArgs false
namespace Go.Proofs.Ytchhpgnlfofdcaa.Q
open Go.RowKit Go.Proofs.Ytchhpgnlfofdcaa.Hp Go.Proofs.Ytchhpgnlfofdcaa.Mp

theorem Tq.no46 {w : World} {b m : Nat} {most : Int} {l : List (Int × Qr)} (h : Tq w b m most l) : ∀ (i : Nat) (cur : Array Value), w.heap[i]? = some (Obj.cells cur 46 (0, 0)) → ¬ Own m l i := fun i cur hc hi => by
  rcases hi with rfl | ⟨k, q, hk, hi⟩
  · obtain ⟨es, clk, hm, _⟩ := h.map
    rw [hm] at hc
    simp at hc
  · obtain ⟨cap, frm, hr⟩ := h.ring k q hk
    obtain ⟨cs, h1⟩ := hr.tag_rb
    rcases hi with rfl | rfl
    · rw [h1] at hc; simp at hc
    · rcases hr.tag_ab with h2 | ⟨cs2, h2⟩
      · rw [h2, h1] at hc; simp at hc
      · rw [h2] at hc; simp at hc
theorem Tq.setFar {w : World} {b m : Nat} {most : Int} {l : List (Int × Qr)} (h : Tq w b m most l) {R : Nat} {cs : Array Value} (hR : w.heap[R]? = some (.cells cs 46 (0, 0))) (j : Nat) (u : Value) : Tq (w.setCell ⟨R, j, none⟩ u) b m most l := by
  have hk : ∀ i, i ≠ R → (w.setCell ⟨R, j, none⟩ u).heap[i]? = w.heap[i]? := fun i hi => Below.heap_setCell _ _ _ _ hi
  refine h.keep (hk b ?_) (fun i hi => hk i (fun e => ?_)) (fun i c hc => hk i (fun e => ?_))
  · rintro rfl
    have := h.blk
    rw [hR] at this
    simp at this
  · subst e
    exact h.no46 _ _ hR hi
  · subst e
    rw [hR] at hc
    simp at hc
/-- Where QueuePlays is: the table, the reference in block M. -/
structure GSt (w wr : World) (M : Nat) (most : Int) (l : List (Int × Qr)) (A : List On) (xs : List Oe) (fa : Option Addr) (g fc c : Nat) : Prop where
  tq : Tq wr (w.heap.size + 1) w.heap.size most l
  own : ∀ i, Own w.heap.size l i → w.heap.size ≤ i
  mb : wr.heap[M]? = some (.cells #[.int .i64 most, .slice fa xs.length fc] 46 (0, 0))
  mge : w.heap.size ≤ M
  mat : MAt (Fr wr w.heap.size l) wr fa g xs
  eq : xs.map (·.1) = A
  sim : Sim most (abs l) A
  bd : Bd c l
  vo : Vo A
  chg : Below w.heap.size w wr
section
variable {w wr w' W w2 w3 : World} {M : Nat} {most : Int} {l l' : List (Int × Qr)} {A A' : List On} {xs : List Oe} {fa : Option Addr} {g fc c c' : Nat} {sl : Value}
theorem GSt.lt (h : GSt w wr M most l A xs fa g fc c) : M < wr.heap.size := blk_lt h.mb
theorem GSt.below (h : GSt w wr M most l A xs fa g fc c) (hb : Below wr.heap.size wr w') : GSt w w' M most l A xs fa g fc c :=
  ⟨h.tq.below hb, h.own, (hb.block _ h.lt).trans h.mb, h.mge, h.mat.keep (fun i hi => hb.block i hi.1) (fun i hi => ⟨Nat.lt_of_lt_of_le hi.1 hb.size, hi.2⟩), h.eq, h.sim, h.bd, h.vo, h.chg.trans (hb.mono h.chg.size)⟩
theorem GSt.cells (h : GSt w wr M most l A xs fa g fc c) : wr.cell? ⟨M, 0, none⟩ = some (.int .i64 most) ∧ wr.cell? ⟨M, 1, none⟩ = some (.slice fa xs.length fc) ∧ wr.frozen? ⟨M, 0, none⟩ = false ∧ wr.frozen? ⟨M, 1, none⟩ = false := ⟨blk_cell h.mb 0, blk_cell h.mb 1, blk_frozen h.mb 0, blk_frozen h.mb 1⟩
theorem GSt.next (h : GSt w wr M most l A xs fa g fc c) (hW : Below wr.heap.size wr W) (hq : Qs W w2 (w.heap.size + 1) w.heap.size most l l') (hs : Sim most (abs l') A') (hb : Bd c' l') (hv : Vo A') (hf : MFin w2 w.heap.size l' A' sl) (h3 : Below w2.heap.size w2 w3) :
    ∃ ys fa' g' fc', sl = .slice fa' ys.length fc' ∧ w3.cell? ⟨M, 0, none⟩ = some (.int .i64 most) ∧ w3.cell? ⟨M, 1, none⟩ = some (.slice fa xs.length fc) ∧ w3.frozen? ⟨M, 0, none⟩ = false ∧ w3.frozen? ⟨M, 1, none⟩ = false ∧ GSt w ((w3.setCell ⟨M, 0, none⟩ (.int .i64 most)).setCell ⟨M, 1, none⟩ sl) M most l' A' ys fa' g' fc' c' := by
  have hW' := h.below hW
  obtain ⟨ys, fa', g', fc', e1, e2, hm⟩ := hf
  have hM2 := (hq.chg.block M hW'.lt (hW'.tq.no46 M _ hW'.mb)).trans hW'.mb
  have hM3 := (h3.block M (blk_lt hM2)).trans hM2
  have hset := blk_set hM3 0 (.int .i64 most)
  have hb2 : Below w.heap.size w w3 := (hW'.chg.trans (hq.chg.below h.own hW'.chg.size)).trans (h3.mono (Nat.le_trans hW'.chg.size hq.chg.size))
  refine ⟨ys, fa', g', fc', e2, blk_cell hM3 0, blk_cell hM3 1, blk_frozen hM3 0, blk_frozen hM3 1, ?_⟩
  subst e2
  refine ⟨((hq.tq.below h3).setFar hM3 0 _).setFar hset 1 _, fun i hi => ?_, blk_set hset 1 _, h.mge, ?_, e1, hs, hb, hv, (hb2.setCell h.mge _).setCell h.mge _⟩
  · rcases hq.own i hi with h1 | h1
    · exact h.own i h1
    · have := hW'.chg.size; omega
  · have hm3 : MAt (Fr w3 w.heap.size l') w3 fa' g' ys := hm.keep (fun i hi => h3.block i hi.1) (fun i hi => ⟨Nat.lt_of_lt_of_le hi.1 h3.size, hi.2⟩)
    exact (hm3.ne hM3).keep (fun i hi => (Below.heap_setCell _ _ _ _ hi.2).trans (Below.heap_setCell _ _ _ _ hi.2)) (fun i hi => ⟨by have := hi.1.1; simpa [World.setCell] using this, hi.1.2⟩)
theorem own_ints {w : World} {B : Nat} {v : Value} {n : Nat} {ss : List Int} (h : w.ownsRow B 2 1 v n (ss.map (Value.int .i64))) : ∃ (fo : Option Addr) (go oc : Nat), v = .slice fo n oc ∧ ss.length = n ∧ (0 < n → fo = some ⟨go, 0, none⟩ ∧ go < w.heap.size) ∧ ∀ k (hk : k < ss.length), w.cell? ⟨go, k, none⟩ = some (.int .i64 ss[k]) := by
  have hl : ss.length = n := by have := h.1; simpa using this
  rcases h.2 with ⟨rfl, h0⟩ | ⟨g, cap, cur, rfl, hb, hbk, h1, h2, h3, h4⟩
  · exact ⟨none, 0, 0, by rw [h0], hl, fun h => by omega, fun k hk => by omega⟩
  · refine ⟨_, g, cap, rfl, hl, fun _ => ⟨rfl, blk_lt hbk⟩, fun k hk => ?_⟩
    have : (ss.map (Value.int .i64))[k]? = some (.int .i64 ss[k]) := by rw [List.getElem?_map, List.getElem?_eq_getElem hk]; rfl
    rw [blk_cell hbk, ← Array.getElem?_toList, ← this, ← h4, List.getElem?_take_of_lt (by omega)]
theorem MFin.setFar {R m : Nat} {x y : Value} (h : MFin w m l A sl) (hR : w.heap[R]? = some (.cells #[x, y] 46 (0, 0))) (j : Nat) (u : Value) : MFin (w.setCell ⟨R, j, none⟩ u) m l A sl := by
  obtain ⟨ys, fa, g, fc, e1, e2, hm⟩ := h
  exact ⟨ys, fa, g, fc, e1, e2, (hm.ne hR).keep (fun i hi => Below.heap_setCell _ _ _ _ hi.2) (fun i hi => ⟨by have := hi.1.1; simpa [World.setCell] using this, hi.1.2⟩)⟩
theorem MFin.below {m : Nat} (h : MFin w m l A sl) (hb : Below w.heap.size w w') : MFin w' m l A sl := by
  obtain ⟨ys, fa, g, fc, e1, e2, hm⟩ := h
  exact ⟨ys, fa, g, fc, e1, e2, hm.keep (fun i hi => hb.block i hi.1) (fun i hi => ⟨Nat.lt_of_lt_of_le hi.1 hb.size, hi.2⟩)⟩
/-- The contract of an act, at any world behind. -/
theorem GSt.act (h : GSt w wr M most l A xs fa g fc c) (hm : 1 ≤ most) (a : Ac) (ea : Option Addr) (ec gl o : Nat) (hgl : gl < w.heap.size) (hlen : A.length + a.evs.length ≤ 900) (hcl : c + a.evs.length ≤ 900) (hac : AcAt (Lt w.heap.size) wr gl o a ea ec) (hvec : ∀ e ∈ a.evs, e.vec.length ≤ 700) (W : World) (hW : Below wr.heap.size wr W) :
    Calls Try.prog 16 #[.pointer (some ⟨w.heap.size + 1, 0, none⟩), .agg #[.int .i64 most, .slice fa xs.length fc], .agg #[.int .i64 a.kind, .int .i64 a.frame, .int .i64 a.n, .slice ea a.evs.length ec]] W fun e w3 =>
      ∃ sa sn sc l', e = .returned (.tuple #[.agg #[.int .i64 most, .slice sa sn sc], .bool true]) ∧ Hid (Qs W w3 (w.heap.size + 1) w.heap.size most l l' ∧ abs l' = doP most (abs l) a ∧ Bd (c + a.evs.length) l' ∧ MFin w3 w.heap.size l' (doA most A a) (.slice sa sn sc)) ∧
      (w3.cell? ⟨M, 0, none⟩ = some (.int .i64 most) ∧ w3.cell? ⟨M, 1, none⟩ = some (.slice fa xs.length fc)) ∧
      (w3.cell? ⟨gl, o, none⟩ = some (.int .i64 a.kind) ∧ w3.cell? ⟨gl, o + 1, none⟩ = some (.int .i64 a.frame) ∧ w3.cell? ⟨gl, o + 2, none⟩ = some (.int .i64 a.n) ∧ w3.cell? ⟨gl, o + 3, none⟩ = some (.slice ea a.evs.length ec)) ∧
      Hid (∀ (R : Nat) (cs : Array Value), W.heap[R]? = some (.cells cs 46 (0, 0)) → w3.heap[R]? = some (.cells cs 46 (0, 0))) := by
  have hW' := h.below hW
  refine (does_calls (w.heap.size + 1) w.heap.size most l A xs fa g fc a ea ec c W hW'.tq hm h.sim h.bd h.eq hlen hcl hW'.mat (hac.evs.keep (fun i hi => hW.block i (Nat.lt_of_lt_of_le hi h.chg.size)) (fun i hi => ⟨Nat.lt_of_lt_of_le hi hW'.chg.size, fun ho => by have := h.own i ho; have : i < w.heap.size := hi; omega⟩)) hvec h.vo).mono fun e w3 ⟨sl, l', e1, e2, e3, e4, e5⟩ => ?_
  have e5' := e5
  obtain ⟨ys, fa', g', fc', _, e6, _⟩ := e5'
  subst e6
  have hM2 := (e2.chg.block M hW'.lt (hW'.tq.no46 M _ hW'.mb)).trans hW'.mb
  have hgb : w3.heap[gl]? = wr.heap[gl]? := (e2.chg.block gl (Nat.lt_of_lt_of_le hgl hW'.chg.size) (fun ho => by have := h.own gl ho; omega)).trans (hW.block gl (Nat.lt_of_lt_of_le hgl h.chg.size))
  refine ⟨_, _, _, l', e1, Lib.hid ⟨e2, e3, e4, e5⟩, ⟨blk_cell hM2 0, blk_cell hM2 1⟩, ⟨(cell_same hgb _).trans hac.c0, (cell_same hgb _).trans hac.c1, (cell_same hgb _).trans hac.c2, (cell_same hgb _).trans hac.c3⟩, Lib.hid (fun R cs hR => (e2.chg.block R (blk_lt hR) (hW'.tq.no46 R _ hR)).trans hR)⟩
theorem GSt.long (h : GSt w wr M most l A xs fa g fc c) {x : On} (hx : x ∈ A) : longF l x.frame = (x.evs.length : Int) ∧ lostF l x.frame = x.lost := by
  have h1 := h.sim.mem hx
  rw [mget_abs] at h1
  obtain ⟨q, hq, hp⟩ := Option.map_eq_some_iff.1 h1
  unfold plain plO at hp
  injection hp with hp1 hp2
  unfold longF lostF
  rw [hq]
  exact ⟨by simp [hp1], by simp [hp2]⟩
end
end Go.Proofs.Ytchhpgnlfofdcaa.Q
