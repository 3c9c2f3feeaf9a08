/- OffersPlays: the table and the reference's beside it; the plain law. No walk. -/
import Derived.Test.YtecgfghmmlpghaaRefM1
import Derived.Test.YtecgfghmmlpghaaRefM2
import Derived.Test.YtecgfghmmlpghaaRefM3
import Derived.Test.YtecgfghmmlpghaaRefM4
import Derived.Test.YtecgfghmmlpghaaRefM5
import Derived.Test.YtecgfghmmlpghaaWorks
import Derived.ChangeKeysEq
set_option linter.unusedVariables false
namespace Go.Proofs.Ytecgfghmmlpghaa.O
open Go.RowKit Go.Proofs.Ytecgfghmmlpghaa.Hp Go.Proofs.Ytecgfghmmlpghaa.Mp
theorem issB_pos {fr ag till : Int} {vec : List Pt} (h : issB fr ag till vec = true) : 1 ≤ fr ∧ 1 ≤ ag := by
  unfold issB at h
  simp only [Bool.and_eq_true, decide_eq_true_eq] at h
  exact ⟨h.1.1.1.1, h.1.1.1.2⟩
/-- Blocks that are neither the table's nor the reference's variable. -/
def FreeP (P b mo mf ma : Nat) (lf la : List (Int × Nat)) (W : World) : Nat → Prop := fun i => i < W.heap.size ∧ ¬ Own b mo mf ma lf la i ∧ i ≠ P
structure Pst (w1 : World) (P b mo mf ma : Nat) (most last lm : Int) (lo : List (Int × Ox)) (lf la : List (Int × Nat)) (xs : List Ox) (fa : Option Addr) (g fc : Nat) (W : World) : Prop where
  o : Ons w1 b mo mf ma most last lo lf la W
  blk : W.heap[P]? = some (.cells #[.int .i64 most, .int .i64 lm, .slice fa xs.length fc] 54 (0, 0))
  nP : ¬ Own b mo mf ma lf la P
  leP : w1.heap.size ≤ P
  cap : xs.length ≤ fc
  row : OAt (FreeP P b mo mf ma lf la W) W fa g 0 xs
section
variable {w1 W W' : World} {P b mo mf ma : Nat} {most last last' lm lm' : Int} {lo lo' : List (Int × Ox)} {lf la lf' la' : List (Int × Nat)} {xs ys : List Ox} {fa fa' : Option Addr} {g g' fc fc' : Nat} {A : List Of} {sl : Value}
theorem Pst.start (h : Ons w1 b mo mf ma most 0 [] [] [] W) : Pst w1 W.heap.size b mo mf ma most 0 0 [] [] [] [] none 0 0 (W.alloc (.cells #[.int .i64 most, .int .i64 0, .slice none 0 0] 54)) :=
  ⟨h.below ((Below.refl _ W).alloc (Nat.le_refl _) _), blk_new _ _, fun ho => by have := h.t.own_lt _ ho; omega, h.b.size, Nat.le_refl _, OAt.nil _ _ _ _ _⟩
theorem Pst.lt (h : Pst w1 P b mo mf ma most last lm lo lf la xs fa g fc W) : P < W.heap.size := blk_lt h.blk
theorem Pst.below (h : Pst w1 P b mo mf ma most last lm lo lf la xs fa g fc W) (hb : Below W.heap.size W W') : Pst w1 P b mo mf ma most last lm lo lf la xs fa g fc W' :=
  ⟨h.o.below hb, (hb.block _ h.lt).trans h.blk, h.nP, h.leP, h.cap, h.row.keep (fun i hi => hb.block i hi.1) (fun i hi => ⟨Nat.lt_of_lt_of_le hi.1 hb.size, hi.2⟩)⟩
theorem freeP_tab (ho : ∀ i, Own b mo mf ma lf' la' i → Own b mo mf ma lf la i ∨ W.heap.size ≤ i) (hc : Chg (Own b mo mf ma lf la) W W') : ∀ i, FreeP P b mo mf ma lf la W i → FreeP P b mo mf ma lf' la' W' i := fun i hi =>
  ⟨Nat.lt_of_lt_of_le hi.1 hc.size, fun h => by
    rcases ho i h with h1 | h1
    · exact hi.2.1 h1
    · have := hi.1; omega, hi.2.2⟩
theorem Pst.tab (h : Pst w1 P b mo mf ma most last lm lo lf la xs fa g fc W) (ht : Tof W' b mo mf ma most last' lo' lf' la') (hs : ∀ p ∈ lo', p.2.1.vec.length ≤ 700) (ho : ∀ i, Own b mo mf ma lf' la' i → Own b mo mf ma lf la i ∨ W.heap.size ≤ i) (hc : Chg (Own b mo mf ma lf la) W W') : Pst w1 P b mo mf ma most last' lm lo' lf' la' xs fa g fc W' :=
  ⟨h.o.chg ht hs ho hc, (hc.block _ h.lt h.nP).trans h.blk, fun hP => by
    rcases ho P hP with h1 | h1
    · exact h.nP h1
    · have := h.lt; omega, h.leP, h.cap, h.row.keep (fun i hi => hc.block i hi.1 hi.2.1) (freeP_tab ho hc)⟩
theorem Pst.store (h : Pst w1 P b mo mf ma most last lm lo lf la xs fa g fc W) (hcap : ys.length ≤ fc') (hr : OAt (FreeP P b mo mf ma lf la W) W fa' g' 0 ys) : Pst w1 P b mo mf ma most last lm' lo lf la ys fa' g' fc' (set3 W P (.int .i64 most) (.int .i64 lm') (.slice fa' ys.length fc')) :=
  ⟨⟨h.o.t.keep (fun i hi => set3_far (fun e => h.nP (e ▸ hi))) (fun i c hc => set3_far (fun e => by rw [e, h.blk] at hc; simp at hc)), h.o.own, h.o.short, set3_below h.o.b h.leP⟩, set3_blk _ _ _ h.blk, h.nP, h.leP, hcap, hr.keep (fun i hi => set3_far hi.2.2) (fun i hi => ⟨by rw [set3_size]; exact hi.1, hi.2⟩)⟩
theorem Pst.of_ans (h : Pst w1 P b mo mf ma most last lm lo lf la xs fa g fc W) (hm : MAns (FreeP P b mo mf ma lf la W) W A sl W') (hb : Below W.heap.size W W') : ∃ ys fa' g' fc', ys.map (·.1) = A ∧ sl = .slice fa' ys.length fc' ∧ ys.length ≤ fc' ∧ OAt (FreeP P b mo mf ma lf la W') W' fa' g' 0 ys := by
  obtain ⟨ys, fa', g', fc', e1, e2, hcp, h3⟩ := hm
  refine ⟨ys, fa', g', fc', e1, e2, hcp, h3.keep (fun _ _ => rfl) (fun i hi => ?_)⟩
  rcases hi with hi | hi
  · exact ⟨Nat.lt_of_lt_of_le hi.1 hb.size, hi.2⟩
  · exact ⟨hi.2, fun ho => by have := h.o.t.own_lt i ho; omega, fun e => by have := h.lt; omega⟩
theorem Pst.cells (h : Pst w1 P b mo mf ma most last lm lo lf la xs fa g fc W) : W.cell? ⟨P, 0, none⟩ = some (.int .i64 most) ∧ W.cell? ⟨P, 1, none⟩ = some (.int .i64 lm) ∧ W.cell? ⟨P, 2, none⟩ = some (.slice fa xs.length fc) ∧ W.frozen? ⟨P, 0, none⟩ = false ∧ W.frozen? ⟨P, 1, none⟩ = false ∧ W.frozen? ⟨P, 2, none⟩ = false :=
  ⟨blk_cell h.blk 0, blk_cell h.blk 1, blk_cell h.blk 2, blk_frozen h.blk 0, blk_frozen h.blk 1, blk_frozen h.blk 2⟩
/-- What the table's Issue leaves. -/
def IssRaw (b mo mf ma : Nat) (most last : Int) (lo : List (Int × Ox)) (lf la : List (Int × Nat)) (fr ag : Int) (vec : List Pt) (till : Int) (W : World) (n f : Int) (W' : World) : Prop :=
  (n = last + 1 ∧ f = 0 ∧ issB fr ag till vec = true ∧ last < most ∧ IssS b mo mf ma most last lo lf la fr ag vec till W (.returned (.tuple #[.int .i64 (last + 1), .int .i64 0])) W') ∨
  (n = 0 ∧ (issB fr ag till vec = false ∧ f = 41 ∨ issB fr ag till vec = true ∧ most ≤ last ∧ f = 34) ∧ Below W.heap.size W W')
theorem issueRaw_calls {T : Nat → Prop} (fr ag till : Int) (va : Option Addr) (vc : Nat) (vec : List Pt)
    (h : Pst w1 P b mo mf ma most last lm lo lf la xs fa g fc W) (hp : PAt T W va vec) (hT : ∀ i, T i → i < w1.heap.size) (hlen : vec.length ≤ 700) (hmost : most ≤ 9007199254740992) :
    Calls Try.prog 9 #[.pointer (some ⟨b, 0, none⟩), .int .i64 fr, .int .i64 ag, .slice va vec.length vc, .int .i64 till] W fun e W' => ∃ n f, e = .returned (.tuple #[.int .i64 n, .int .i64 f]) ∧ Hid (IssRaw b mo mf ma most last lo lf la fr ag vec till W n f W') := by
  cases hb : issB fr ag till vec with
  | false =>
    refine (issue_bad T fr ag till va vc vec W h.o.t hp (fun i hi => (h.o.far hT i hi).1) hlen hb).mono ?_
    rintro e w1 ⟨rfl, hbw⟩
    exact ⟨_, _, rfl, Lib.hid (.inr ⟨rfl, .inl ⟨hb, rfl⟩, hbw⟩)⟩
  | true =>
    by_cases hml : last < most
    · have hb' := hb
      unfold issB at hb'
      simp only [Bool.and_eq_true, decide_eq_true_eq, Bool.not_eq_true'] at hb'
      obtain ⟨⟨⟨⟨hfr, hag⟩, htl⟩, hvec⟩, hr⟩ := hb'
      refine (issue_yes T fr ag till va vc vec W h.o.t hp (h.o.far hT) hfr hag htl (List.isEmpty_eq_false_iff.1 hvec) hr hlen hml hmost).mono ?_
      intro e w1 hc
      obtain ⟨he, hrest⟩ := hc
      exact ⟨_, _, he, Lib.hid (.inl ⟨rfl, rfl, hb, hml, rfl, hrest⟩)⟩
    · refine (issue_full T fr ag till va vc vec W h.o.t hp (fun i hi => (h.o.far hT i hi).1) hb hlen (by omega)).mono ?_
      rintro e w1 ⟨rfl, hbw⟩
      exact ⟨_, _, rfl, Lib.hid (.inr ⟨rfl, .inr ⟨hb, by omega, rfl⟩, hbw⟩)⟩
theorem Pst.issue {fr ag till n1 f1 last1 n2 f2 : Int} {vec : List Pt} (h : Pst w1 P b mo mf ma most last lm lo lf la xs fa g fc W) (hpos : ∀ p ∈ lo, 1 ≤ p.2.1.frame ∧ 1 ≤ p.2.1.agent) (hvl : vec.length ≤ 700)
    (hr : IsR most last (lo.map (·.2.1)) fr ag vec till n1 f1 last1 A) (hw : IssRaw b mo mf ma most last lo lf la fr ag vec till W n2 f2 W') (hys : OAt (FreeP P b mo mf ma lf la W) W fa' g' 0 ys) :
    n2 = n1 ∧ f2 = f1 ∧ ∃ lo2 lf2 la2, Pst w1 P b mo mf ma most last1 lm lo2 lf2 la2 xs fa g fc W' ∧ OAt (FreeP P b mo mf ma lf2 la2 W') W' fa' g' 0 ys ∧ A = lo2.map (·.2.1) ∧ (∀ p ∈ lo2, 1 ≤ p.2.1.frame ∧ 1 ≤ p.2.1.agent) ∧ lo2.length ≤ lo.length + 1 ∧ last ≤ last1 ∧ (∀ E, E < W.heap.size → ¬ Own b mo mf ma lf la E → W'.heap[E]? = W.heap[E]?) := by
  rcases hr with ⟨rfl, rfl, rfl, hb, hml, rfl⟩ | ⟨rfl, hff, rfl, rfl⟩
  · rcases hw with ⟨rfl, rfl, _, _, _, va', lf', la', ht, ho, hc⟩ | ⟨rfl, hff2, _⟩
    · refine ⟨rfl, rfl, _, lf', la', h.tab ht (fun p hp => ?_) ho hc, hys.keep (fun i hi => hc.block i hi.1 hi.2.1) (freeP_tab ho hc), by rw [List.map_append]; rfl, fun p hp => ?_, by rw [List.length_append]; exact Nat.le_refl _, by omega, fun E h1 h2 => hc.block E h1 h2⟩
      · rcases List.mem_append.1 hp with h1 | h1
        · exact h.o.short p h1
        · rw [List.mem_singleton] at h1; subst h1; exact hvl
      · rcases List.mem_append.1 hp with h1 | h1
        · exact hpos p h1
        · rw [List.mem_singleton] at h1; subst h1; exact issB_pos hb
    · rcases hff2 with ⟨h1, _⟩ | ⟨_, h1, _⟩
      · rw [hb] at h1; cases h1
      · omega
  · rcases hw with ⟨rfl, rfl, hb, hml, _⟩ | ⟨rfl, hff2, hbw⟩
    · rcases hff with ⟨h1, _⟩ | ⟨_, h1, _⟩
      · rw [hb] at h1; cases h1
      · omega
    · refine ⟨rfl, ?_, lo, lf, la, h.below hbw, hys.keep (fun i hi => hbw.block i hi.1) (fun i hi => ⟨Nat.lt_of_lt_of_le hi.1 hbw.size, hi.2⟩), rfl, hpos, by omega, by omega, fun E h1 _ => hbw.block E h1⟩
      rcases hff with ⟨h1, rfl⟩ | ⟨h1, h2, rfl⟩ <;> rcases hff2 with ⟨h3, rfl⟩ | ⟨h3, h4, rfl⟩
      · rfl
      · rw [h1] at h3; cases h3
      · rw [h1] at h3; cases h3
      · rfl
theorem closeP_calls (id : Int) (h : Pst w1 P b mo mf ma most last lm lo lf la xs fa g fc W) (x : Ox) (hg : mget lo id = some x) (hlen : x.1.vec.length ≤ 700) :
    Calls Try.prog 8 #[.pointer (some ⟨b, 0, none⟩), .int .i64 id] W fun e W' => ∃ va vc, e = .returned (.tuple #[.agg #[.int .i64 x.1.id, .int .i64 x.1.frame, .int .i64 x.1.agent, .slice va x.1.vec.length vc, .int .i64 x.1.till], .bool true]) ∧ Hid (PAt (New W W') W' va x.1.vec ∧ W.heap.size ≤ W'.heap.size ∧ (∃ lf' la', Pst w1 P b mo mf ma most last lm (mdel lo id) lf' la' xs fa g fc W') ∧ ∀ E, E < W.heap.size → ¬ Own b mo mf ma lf la E → W'.heap[E]? = W.heap[E]?) :=
  (close_some id W h.o.t x hg hlen).mono fun e W' ⟨va, vc, he, hp, lf', la', ht, ho, hc⟩ =>
    ⟨va, vc, he, Lib.hid ⟨hp, hc.size, ⟨lf', la', h.tab ht (fun p hp => h.o.short p ((mdel_sub lo id).subset hp)) ho hc⟩, fun E h1 h2 => hc.block E h1 h2⟩⟩
theorem Pst.free_lt : ∀ i, FreeP P b mo mf ma lf la W i → i < W.heap.size := fun i hi => hi.1
end
/-! The plain law. -/
section
variable {w : World} {b mo mf ma : Nat} {most last : Int} {lo : List (Int × Ox)} {lf la : List (Int × Nat)} {xs : List Ox}
theorem law_none (h : Tof w b mo mf ma most last lo lf la) {id : Int} (hg : mget lo id = none) : atI (lo.map (·.2.1)) id = -1 := atI_none (fun j hj e => by
  rw [List.getElem_map] at e
  rw [List.length_map] at hj
  rw [(h.ids _ (List.getElem_mem hj)).1] at e
  exact mget_none.1 hg (List.mem_map.2 ⟨_, List.getElem_mem hj, e⟩))
theorem law_some (h : Tof w b mo mf ma most last lo lf la) {id : Int} {x : Ox} (hg : mget lo id = some x) : ∃ j, ∃ hj : j < lo.length, lo[j] = (id, x) ∧ atI (lo.map (·.2.1)) id = j := by
  obtain ⟨j, hj, e⟩ := List.mem_iff_getElem.1 (mget_some_mem hg)
  refine ⟨j, hj, e, atI_some (by rw [List.length_map]; exact hj) (by rw [List.getElem_map, e]; have := (h.ids _ (List.getElem_mem hj)).1; rw [e] at this; exact this) (fun i hi e2 => ?_)⟩
  rw [List.getElem_map, (h.ids _ (List.getElem_mem (by omega))).1] at e2
  have h3 := List.pairwise_iff_getElem.1 h.rise i j (by omega) hj hi
  rw [e, e2] at h3
  simp at h3
theorem mdel_filter : ∀ {l : List (Int × Ox)} {id : Int}, (l.map (·.1)).Nodup → mdel l id = l.filter (fun p => p.1 != id)
  | [], id, _ => rfl
  | p :: l, id, hn => by
    rw [List.map_cons, List.nodup_cons] at hn
    rw [List.filter_cons]
    simp only [mdel]
    by_cases e : p.1 = id
    · rw [if_pos e, if_neg (by simp [e])]
      symm
      rw [List.filter_eq_self]
      intro q hq
      have : q.1 ≠ id := fun e2 => hn.1 (List.mem_map.2 ⟨q, hq, e2.trans e.symm⟩)
      simpa using this
    · rw [if_neg e, if_pos (by simpa using e), mdel_filter hn.2]
theorem law_close (h : Tof w b mo mf ma most last lo lf la) (id : Int) : (mdel lo id).map (·.2.1) = shutF (lo.map (·.2.1)) id := by
  rw [mdel_filter h.nd]
  unfold shutF
  rw [List.filter_map]
  congr 1
  apply List.filter_congr
  intro p hp
  show (p.1 != id) = (p.2.1.id != id)
  rw [(h.ids p hp).1]
theorem law_of (hp : ∀ p ∈ lo, 1 ≤ p.2.1.frame ∧ 1 ≤ p.2.1.agent) (h : Tof w b mo mf ma most last lo lf la) (f : Int) : ofF (lo.map (·.2.1)) f 0 = idsP (fun o => o.frame == f) lo := by
  unfold ofF idsP
  rw [List.filter_map, List.map_map]
  rw [show lo.filter ((fun o : Of => o.frame == f || o.agent == 0) ∘ fun x => x.2.1) = lo.filter (fun x => x.2.1.frame == f) from List.filter_congr (fun p hq => by
    show (p.2.1.frame == f || p.2.1.agent == 0) = (p.2.1.frame == f)
    rw [show (p.2.1.agent == 0) = false by rw [beq_eq_false_iff_ne]; have := hp p hq; omega, Bool.or_false])]
  exact List.map_congr_left (fun p hq => (h.ids p ((List.mem_filter.1 hq).1)).1)
theorem law_on (hp : ∀ p ∈ lo, 1 ≤ p.2.1.frame ∧ 1 ≤ p.2.1.agent) (h : Tof w b mo mf ma most last lo lf la) (a : Int) : ofF (lo.map (·.2.1)) 0 a = idsP (fun o => o.agent == a) lo := by
  unfold ofF idsP
  rw [List.filter_map, List.map_map]
  rw [show lo.filter ((fun o : Of => o.frame == 0 || o.agent == a) ∘ fun x => x.2.1) = lo.filter (fun x => x.2.1.agent == a) from List.filter_congr (fun p hq => by
    show (p.2.1.frame == 0 || p.2.1.agent == a) = (p.2.1.agent == a)
    rw [show (p.2.1.frame == 0) = false by rw [beq_eq_false_iff_ne]; have := hp p hq; omega, Bool.false_or])]
  exact List.map_congr_left (fun p hq => (h.ids p ((List.mem_filter.1 hq).1)).1)
theorem law_sum (h : Tof w b mo mf ma most last lo lf la) (hs : xs.map (·.1) = lo.map (·.2.1)) (f : Int) : (xs.filter (fun y => y.1.frame == f)).map (fun y => y.1.vec) = (idsP (fun o => o.frame == f) lo).map (vecAt lo) := by
  have e1 : (xs.filter (fun y => y.1.frame == f)).map (fun y => y.1.vec) = ((xs.map (·.1)).filter (fun o => o.frame == f)).map (·.vec) := by
    rw [List.filter_map, List.map_map]
    rfl
  rw [e1, hs, List.filter_map, List.map_map]
  unfold idsP
  rw [List.map_map]
  refine List.map_congr_left (fun p hq => ?_)
  show p.2.1.vec = vecAt lo p.1
  unfold vecAt gotO
  rw [mget_mem h.nd ((List.mem_filter.1 hq).1)]
  rfl
theorem pos_del {id : Int} (hp : ∀ p ∈ lo, 1 ≤ p.2.1.frame ∧ 1 ≤ p.2.1.agent) : ∀ p ∈ mdel lo id, 1 ≤ p.2.1.frame ∧ 1 ≤ p.2.1.agent := fun p hq => hp p ((mdel_sub lo id).subset hq)
end
theorem w50e (a b c d : Int) (n : Nat) (w : World) : (Op.equalIn (n + 2) 50 (.agg #[.int .i64 a, .int .i64 b, .int .i64 c, .int .i64 d]) (.agg #[.int .i64 a, .int .i64 b, .int .i64 c, .int .i64 d])).run Try.prog w = .ok true w := by
  obtain ⟨i0, hi, _⟩ := info_parts info2
  rw [show n + 2 = (n + 1) + 1 from rfl, run_equalIn_array w (n + 1) _ _ Try.underlying50 hi, show Try.prog.cellsOf 2 = 1 by kernel_rfl, show List.range 4 = [0, 1, 2, 3] from rfl]
  simp only [Op.eqItems]
  go_simp
theorem AllA.form {os : List Of} {w w' : World} {e : Ending} (h : AllA os w e w') : ∃ ys fb gb fcb, e = .returned (.slice fb ys.length fcb) ∧ Hid (ys.map (·.1) = os ∧ OAt (fun i => i < w'.heap.size) w' fb gb 0 ys) ∧ Below w.heap.size w w' := by
  obtain ⟨v, ys, rfl, h1, h2, h3⟩ := h
  obtain ⟨fb, gb, fcb, rfl, h4⟩ := h2.form
  exact ⟨ys, fb, gb, fcb, rfl, Lib.hid ⟨h1, h4.keep (fun _ _ => rfl) (fun i hi => hi.2)⟩, h3⟩
/-- Two single offers, alike. -/
theorem twoOne_calls {W : World} {n1 n2 : Nat} (x y : Ox) (he : x.1 = y.1) (hl : x.1.vec.length ≤ 700) (hx : W.heap[n1]? = some (.cells (cellsO x) 30 (0, 0))) (hy : W.heap[n2]? = some (.cells (cellsO y) 30 (0, 0)))
    (px : PAt (fun i => i < W.heap.size) W x.2.1 x.1.vec) (py : PAt (fun i => i < W.heap.size) W y.2.1 y.1.vec) :
    Calls Try.prog 18 #[.slice (some ⟨n1, 0, none⟩) 1 1, .slice (some ⟨n2, 0, none⟩) 1 1] W fun e w' => e = .returned (.bool true) ∧ Below W.heap.size W w' :=
  same_calls (fun i => i < W.heap.size) _ _ n1 0 n2 0 1 1 [x] [y] W (by simp) (fun z hz => by rw [List.mem_singleton] at hz; subst hz; exact hl) (fun _ h => h) (by simp [he]) (OAt.single hx (blk_lt hx) px) (OAt.single hy (blk_lt hy) py)
/-- One offer and its like at a row's place. -/
theorem oneRow_calls {T : Nat → Prop} {W : World} {n1 g k fd : Nat} {xs : List Ox} (x : Ox) (hk : k < xs.length) (he : x.1 = xs[k].1) (hl : x.1.vec.length ≤ 700) (hx : W.heap[n1]? = some (.cells (cellsO x) 30 (0, 0))) (hr : OAt T W (some ⟨g, 0, none⟩) g 0 xs) (hT : ∀ i, T i → i < W.heap.size)
    (px : PAt (fun i => i < W.heap.size) W x.2.1 x.1.vec) :
    Calls Try.prog 18 #[.slice (some ⟨n1, 0, none⟩) 1 1, .slice (some ⟨g, k * 5, none⟩) 1 fd] W fun e w' => e = .returned (.bool true) ∧ Below W.heap.size W w' :=
  same_calls (fun i => i < W.heap.size) _ _ n1 0 g (k * 5) 1 fd [x] [xs[k]] W (by simp) (fun z hz => by rw [List.mem_singleton] at hz; subst hz; exact hl) (fun _ h => h) (by simp [he]) (OAt.single hx (blk_lt hx) px) ((hr.one hk).keep (fun _ _ => rfl) hT)
end Go.Proofs.Ytecgfghmmlpghaa.O
