/- Acts that came in, opened; how much they are. -/
import Derived.Test.YtchhpgnlfofdcaaOpen
import Derived.Test.YtchhpgnlfofdcaaActs
set_option linter.unusedVariables false
set_option linter.unusedSimpArgs false
namespace Go.Proofs.Ytchhpgnlfofdcaa.RowQ
open Go.Proofs Go.Proofs.Ytchhpgnlfofdcaa Go.Proofs.Ytchhpgnlfofdcaa.Q
open Go.ChangeShapes Go.WideShapes Go.ChangeAt Go.RowKit Go.Joins Go.Deep
theorem cells50 : Try.prog.cellsOf 50 = 4 := by kernel_rfl
theorem cells22 : Try.prog.cellsOf 22 = 1 := by kernel_rfl
section
variable {H : Type} {enc : TypeId × Value → H}
theorem list4 {α : Type} (l : List α) (h : l.length = 4) : ∃ a b c d, l = [a, b, c, d] := by
  match l, h with
  | [a, b, c, d], _ => exact ⟨a, b, c, d, rfl⟩
instance : Inhabited Ac := ⟨⟨0, 0, 0, []⟩⟩
/-- Acts, opened. -/
theorem open_acts {W : World} {sp : Nat → Bool} {fuel : Nat} {cs : List Value} {x : DataW H × List MemPlace} (h : DataW.trod enc Try.prog W 0 sp true fuel 42 cs = some x) :
    ∃ (fa : Option Addr) (g o fc : Nat) (ls : List Ac), cs = [.slice fa ls.length fc] ∧ AAt (Lt W.heap.size) W fa g o ls := by
  rcases open_slice Try.underlying42 h with ⟨h0, _⟩ | ⟨a, len, cap, m, n, D, Pl, h0, hb, hl, hm, hmm, _, hx⟩
  · exact ⟨none, 0, 0, 0, [], h0, fun h => by simp at h, fun j hj => by simp at hj⟩
  have hlm : len ≤ m := by rw [hmm]; split <;> omega
  have each : ∀ i, i < m → ∃ q : Ac × Option Addr × Nat, W.cell? (a.add (i * 4)) = some (.int .i64 q.1.kind) ∧ W.cell? (a.add (i * 4 + 1)) = some (.int .i64 q.1.frame) ∧ W.cell? (a.add (i * 4 + 2)) = some (.int .i64 q.1.n) ∧
      W.cell? (a.add (i * 4 + 3)) = some (.slice q.2.1 q.1.evs.length q.2.2) ∧ ERow (Lt W.heap.size) W q.2.1 q.1.evs := by
    intro i hi
    obtain ⟨cs', h1, h2⟩ := hx i hi
    rw [cells50] at h1
    obtain ⟨_, hlen, hcell⟩ := World.cells?_some h1
    obtain ⟨xs, k, hk, hxy, _, hxl, hf⟩ := DataW.trod_struct Try.underlying50 h2
    obtain ⟨y0, y1, y2, y3, rfl⟩ := list4 xs hxl
    obtain ⟨v0, v1, v2, v3, rfl⟩ := list4 cs' hlen
    · clear hx
      have g0 : DataW.trod enc Try.prog W 0 sp true k 3 (([v0, v1, v2, v3].drop 0).take (Try.prog.cellsOf 3)) = some y0 := hf 0 _ rfl
      have g1 : DataW.trod enc Try.prog W 0 sp true k 2 (([v0, v1, v2, v3].drop 1).take (Try.prog.cellsOf 2)) = some y1 := hf 1 _ rfl
      have g2 : DataW.trod enc Try.prog W 0 sp true k 3 (([v0, v1, v2, v3].drop 2).take (Try.prog.cellsOf 3)) = some y2 := hf 2 _ rfl
      have g3 : DataW.trod enc Try.prog W 0 sp true k 22 (([v0, v1, v2, v3].drop 3).take (Try.prog.cellsOf 22)) = some y3 := hf 3 _ rfl
      simp only [cells2, cells3, cells22, List.drop, List.take] at g0 g1 g2 g3
      obtain ⟨q0, e0, _, _⟩ := DataW.trod_int Try.underlying3 g0
      obtain ⟨q1, e1, _, _⟩ := DataW.trod_int Try.underlying2 g1
      obtain ⟨q2, e2, _, _⟩ := DataW.trod_int Try.underlying3 g2
      obtain ⟨fa, ge, oe, fc, es, e3, hp⟩ := open_events g3
      simp only [List.cons.injEq, and_true] at e0 e1 e2 e3
      subst e0; subst e1; subst e2; subst e3
      have c0 := hcell 0 (by omega)
      have c1 := hcell 1 (by omega)
      have c2 := hcell 2 (by omega)
      have c3 := hcell 3 (by omega)
      rw [add_add] at c0 c1 c2 c3
      exact ⟨(⟨q0, q1, q2, es⟩, fa, fc), by simpa using c0, by simpa using c1, by simpa using c2, by simpa using c3, ge, oe, hp⟩
  obtain ⟨q, hq⟩ := choose_lt each
  obtain ⟨b, o, spot⟩ := a
  have hs : 0 < len → spot = none := fun h0 => by
    have := World.cell?_spot (hq 0 (by omega)).1
    simpa [Addr.add] using this
  refine ⟨some ⟨b, o, spot⟩, b, o, cap, tab (fun i => (q i).1) len, by rw [tab_length]; exact h0, fun h0 => ?_, fun j hj => ?_⟩
  · rw [tab_length] at h0
    obtain rfl := hs h0
    obtain ⟨c0, _⟩ := hq 0 (by omega)
    simp only [Go.WideShapes.add_plain] at c0
    exact ⟨rfl, World.block_lt_of_cell? _ _ c0⟩
  · rw [tab_length] at hj
    obtain rfl := hs (by omega)
    obtain ⟨c0, c1, c2, c3, hp⟩ := hq j (by omega)
    simp only [Go.WideShapes.add_plain] at c0 c1 c2 c3
    rw [tab_get]
    exact ⟨(q j).2.1, (q j).2.2, by simpa using c0, by simpa [Nat.add_assoc] using c1, by simpa [Nat.add_assoc] using c2, by simpa [Nat.add_assoc] using c3, hp⟩
/-! How much there is. -/
theorem bulk_pos (d : DataW H) : 1 ≤ Rows.uptoBulk d := by
  cases d with
  | lit l => cases l <;> simp [Rows.uptoBulk]
  | _ => simp [Rows.uptoBulk]
theorem bulk_sum (f : Nat → Nat) (D : Nat → DataW H) : ∀ (l : List Nat), (∀ i ∈ l, f i ≤ Rows.uptoBulk (D i)) → (l.map f).sum ≤ Rows.uptoBulkAll (l.map D)
  | [], _ => by simp
  | i :: l, h => by
    have := bulk_sum f D l (fun j hj => h j (List.mem_cons_of_mem _ hj))
    have := h i List.mem_cons_self
    simp only [List.map_cons, List.sum_cons, Rows.uptoBulkAll]
    omega
theorem slice_bulk {W : World} {sp : Nat → Bool} {fuel : Nat} {t e : TypeId} {cs : List Value} {x : DataW H × List MemPlace} (ht : Try.prog.underlying t = some (.slice e)) (h : DataW.trod enc Try.prog W 0 sp true fuel t cs = some x) {va : Option Addr} {n vc : Nat} (hc : cs = [.slice va n vc]) : n ≤ Rows.uptoBulk x.1 := by
  rcases open_slice ht h with ⟨h0, _⟩ | ⟨a, len, cap, m, n', D, Pl, h0, hb, hl, hm, hmm, hxx, hx⟩
  · rw [hc] at h0
    simp at h0
    omega
  · rw [hc] at h0
    simp only [List.cons.injEq, Value.slice.injEq, and_true] at h0
    obtain ⟨_, rfl, _⟩ := h0
    have := bulk_sum (fun _ => 1) D (List.range n) (fun i _ => bulk_pos _)
    rw [hxx]
    simp only [Rows.uptoBulk]
    have h1 : ((List.range n).map fun _ => 1).sum = n := by rw [List.map_const', List.length_range, List.sum_replicate_nat]; omega
    omega
theorem totE_sum : ∀ es : List Ev, totE es = (es.map fun e => 1 + e.vec.length).sum
  | [] => rfl
  | e :: es => by simp only [totE, List.map_cons, List.sum_cons, totE_sum es]
theorem totA_sum : ∀ ls : List Ac, totA ls = (ls.map fun a => totE a.evs).sum
  | [] => rfl
  | a :: ls => by simp only [totA, List.map_cons, List.sum_cons, totA_sum ls]
theorem map_range {α : Type} (l : List α) (d : α) (f : α → Nat) : l.map f = (List.range l.length).map fun i => f (l.getD i d) := by
  apply List.ext_getElem
  · simp
  · intro i h1 h2
    rw [List.length_map] at h1
    rw [List.getElem_map, List.getElem_map, List.getElem_range, List.getD_eq_getElem?_getD, List.getElem?_eq_getElem h1, Option.getD_some]
theorem events_bulk {W : World} {sp : Nat → Bool} {fuel : Nat} {cs : List Value} {x : DataW H × List MemPlace} (h : DataW.trod enc Try.prog W 0 sp true fuel 22 cs = some x) {T : Nat → Prop} {fa : Option Addr} {g o fc : Nat} {es : List Ev} (hc : cs = [.slice fa es.length fc]) (he : EAt T W fa g o es) : totE es ≤ Rows.uptoBulk x.1 := by
  rcases open_slice Try.underlying22 h with ⟨h0, _⟩ | ⟨a, len, cap, m, n', D, Pl, h0, hb, hl, hm, hmm, hxx, hx⟩
  · rw [hc] at h0
    simp only [List.cons.injEq, Value.slice.injEq, and_true] at h0
    rw [List.eq_nil_of_length_eq_zero h0.2.1]
    simp [totE]
  · rw [hc] at h0
    simp only [List.cons.injEq, Value.slice.injEq, and_true] at h0
    obtain ⟨ha, rfl, _⟩ := h0
    have hlm : es.length ≤ m := by rw [hmm]; split <;> omega
    have := bulk_sum (fun i => 1 + (es.getD i Ev.zero).vec.length) D (List.range es.length) (fun i hi => by
      rw [List.mem_range] at hi
      obtain ⟨cs', h1, h2⟩ := hx i (by omega)
      rw [cells28] at h1
      obtain ⟨_, hlen, hcell⟩ := World.cells?_some h1
      obtain ⟨xs, k, hk, hxy, _, hxl, hf⟩ := DataW.trod_struct Try.underlying28 h2
      obtain ⟨y0, y1, y2, y3, y4, rfl⟩ := list5 xs hxl
      obtain ⟨v0, v1, v2, v3, v4, rfl⟩ := list5 cs' hlen
      have g4 : DataW.trod enc Try.prog W 0 sp true k 26 (([v0, v1, v2, v3, v4].drop 4).take (Try.prog.cellsOf 26)) = some y4 := hf 4 _ rfl
      simp only [cells26, List.drop, List.take] at g4
      obtain ⟨e1, _⟩ := he.lt (by omega)
      rw [e1] at ha
      injection ha with ha
      subst ha
      obtain ⟨va, vc, hev⟩ := he.at' i hi
      have c4 := hcell 4 (by omega)
      rw [add_add] at c4
      simp only [Go.WideShapes.add_plain] at c4
      have hv4 := hev.c4
      rw [show o + (i * 5 + 4) = o + i * 5 + 4 by omega, hv4] at c4
      have hv : v4 = .slice va es[i].vec.length vc := by simpa using c4.symm
      have hb4 := slice_bulk Try.underlying26 g4 (by rw [hv])
      have hd : D i = .agg ([y0, y1, y2, y3, y4].map (·.1)) := by have := congrArg Prod.fst hxy; exact this
      rw [hd]
      simp only [Rows.uptoBulk, Rows.uptoBulkAll, List.map_cons, List.map_nil]
      rw [List.getD_eq_getElem?_getD, List.getElem?_eq_getElem hi, Option.getD_some]
      omega)
    rw [totE_sum, map_range es Ev.zero, hxx]
    simp only [Rows.uptoBulk]
    omega
theorem acts_bulk {W : World} {sp : Nat → Bool} {fuel : Nat} {cs : List Value} {x : DataW H × List MemPlace} (h : DataW.trod enc Try.prog W 0 sp true fuel 42 cs = some x) {T : Nat → Prop} {fa : Option Addr} {g o fc : Nat} {ls : List Ac} (hc : cs = [.slice fa ls.length fc]) (he : AAt T W fa g o ls) : totA ls ≤ Rows.uptoBulk x.1 := by
  rcases open_slice Try.underlying42 h with ⟨h0, _⟩ | ⟨a, len, cap, m, n', D, Pl, h0, hb, hl, hm, hmm, hxx, hx⟩
  · rw [hc] at h0
    simp only [List.cons.injEq, Value.slice.injEq, and_true] at h0
    rw [List.eq_nil_of_length_eq_zero h0.2.1]
    simp [totA]
  · rw [hc] at h0
    simp only [List.cons.injEq, Value.slice.injEq, and_true] at h0
    obtain ⟨ha, rfl, _⟩ := h0
    have hlm : ls.length ≤ m := by rw [hmm]; split <;> omega
    have := bulk_sum (fun i => totE (ls.getD i ⟨0, 0, 0, []⟩).evs) D (List.range ls.length) (fun i hi => by
      rw [List.mem_range] at hi
      obtain ⟨cs', h1, h2⟩ := hx i (by omega)
      rw [cells50] at h1
      obtain ⟨_, hlen, hcell⟩ := World.cells?_some h1
      obtain ⟨xs, k, hk, hxy, _, hxl, hf⟩ := DataW.trod_struct Try.underlying50 h2
      obtain ⟨y0, y1, y2, y3, rfl⟩ := list4 xs hxl
      obtain ⟨v0, v1, v2, v3, rfl⟩ := list4 cs' hlen
      have g3 : DataW.trod enc Try.prog W 0 sp true k 22 (([v0, v1, v2, v3].drop 3).take (Try.prog.cellsOf 22)) = some y3 := hf 3 _ rfl
      simp only [cells22, List.drop, List.take] at g3
      obtain ⟨e1, _⟩ := he.lt (by omega)
      rw [e1] at ha
      injection ha with ha
      subst ha
      obtain ⟨ea, ec, hac⟩ := he.at' i hi
      have c3 := hcell 3 (by omega)
      rw [add_add] at c3
      simp only [Go.WideShapes.add_plain] at c3
      have hv3 := hac.c3
      rw [show o + (i * 4 + 3) = o + i * 4 + 3 by omega, hv3] at c3
      have hv : v3 = .slice ea ls[i].evs.length ec := by simpa using c3.symm
      obtain ⟨ge, oe, hee⟩ := hac.evs
      have hb3 := events_bulk g3 (by rw [hv]) hee
      have hd : D i = .agg ([y0, y1, y2, y3].map (·.1)) := by have := congrArg Prod.fst hxy; exact this
      rw [hd]
      simp only [Rows.uptoBulk, Rows.uptoBulkAll, List.map_cons, List.map_nil]
      rw [List.getD_eq_getElem?_getD, List.getElem?_eq_getElem hi, Option.getD_some]
      omega)
    rw [totA_sum, map_range ls ⟨0, 0, 0, []⟩, hxx]
    simp only [Rows.uptoBulk]
    omega
end
end Go.Proofs.Ytchhpgnlfofdcaa.RowQ
