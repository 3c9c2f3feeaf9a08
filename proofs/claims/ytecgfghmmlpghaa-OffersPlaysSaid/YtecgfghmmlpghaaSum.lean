/- Walks: Table.Sum. -/
import Derived.Test.YtecgfghmmlpghaaOfOn
import Derived.Test.YtecgfghmmlpghaaSums2
import Derived.Test.YtecgfghmmlpghaaTog
import Derived.Deep.RegionHeld3
import Derived.Deep.DeepMust
set_option linter.unusedVariables false
set_option linter.unusedSimpArgs false
namespace Go.Proofs.Ytecgfghmmlpghaa.O
open Go.RowKit Go.Proofs.Ytecgfghmmlpghaa.Hp Go.Proofs.Ytecgfghmmlpghaa.Mp
set_option maxRecDepth 100000
/-- The sum of many, if all is right on the way. -/
def sumAll : List (List Pt) → S4 → S4
  | [], acc => acc
  | v :: vs, acc => if (addS acc (sumsOf v)).2 then sumAll vs (addS acc (sumsOf v)).1 else S4.zero
def vecAt (lo : List (Int × Ox)) (i : Int) : List Pt := (gotO lo i).1.vec
theorem OfS.put {w wr : World} {acc : S4} (h : OfS w acc wr) (t : S4) : OfS w t (set4 wr (w.heap.size + 1) (.int .i64 t.a) (.int .i64 t.b) (.int .i64 t.c) (.int .i64 t.d)) :=
  ⟨set4_blk _ _ _ _ h.x, (set4_far (by omega)).trans h.z, set4_below h.b (by omega)⟩
/-- Behind region 5: the second sum is laid in a new variable at block n. -/
structure RoS (w w1 : World) (acc r : S4) (n : Nat) (W : World) : Prop where
  of' : OfS w acc W
  new : W.heap[n]? = some (.cells #[.int .i64 r.a, .int .i64 r.b, .int .i64 r.c, .int .i64 r.d] 50 (0, 0))
  lt : w.heap.size + 2 ≤ n
  keep : ∀ i, w.heap.size + 2 ≤ i → i < w1.heap.size → W.heap[i]? = w1.heap[i]?
  size : w1.heap.size ≤ W.heap.size
theorem OfS.far {w wr : World} {acc : S4} (h : OfS w acc wr) {n : Nat} (hn : w.heap.size + 2 ≤ n) (v0 v1 v2 v3 : Value) : OfS w acc (set4 wr n v0 v1 v2 v3) :=
  ⟨(set4_far (by omega)).trans h.x, (set4_far (by omega)).trans h.z, set4_below h.b (by omega)⟩
theorem RoS.ofAlloc {w w1 W : World} {acc r : S4} (h : OfS w acc W) (hk : ∀ i, w.heap.size + 2 ≤ i → i < w1.heap.size → W.heap[i]? = w1.heap[i]?) (hs : w1.heap.size ≤ W.heap.size) : RoS w w1 acc r W.heap.size (W.alloc (.cells #[.int .i64 r.a, .int .i64 r.b, .int .i64 r.c, .int .i64 r.d] 50)) :=
  ⟨h.below ((Below.refl _ W).alloc (Nat.le_refl _) _), blk_new _ _, by have := blk_lt h.x; omega, fun i h1 h2 => (Below.heap_alloc _ _ _ (Nat.lt_of_lt_of_le h2 hs)).trans (hk i h1 h2), by simp; omega⟩
theorem RoS.ofSet {w w1 W : World} {acc r : S4} {n : Nat} {a0 a1 a2 a3 : Value} (h : OfS w acc W) (hk : ∀ i, w.heap.size + 2 ≤ i → i < w1.heap.size → W.heap[i]? = w1.heap[i]?) (hs : w1.heap.size ≤ W.heap.size) (hn : w1.heap.size ≤ n) (hw : w.heap.size + 2 ≤ w1.heap.size) (hb : W.heap[n]? = some (.cells #[a0, a1, a2, a3] 50 (0, 0))) : RoS w w1 acc r n (set4 W n (.int .i64 r.a) (.int .i64 r.b) (.int .i64 r.c) (.int .i64 r.d)) :=
  ⟨h.far (by omega) _ _ _ _, set4_blk _ _ _ _ hb, by omega, fun i h1 h2 => (set4_far (by omega)).trans (hk i h1 h2), by unfold set4; simpa [World.setCell] using hs⟩
theorem allocDrew (wr : World) : Below wr.drew.heap.size wr.drew (wr.alloc (.cells #[.int .i64 0, .int .i64 0, .int .i64 0, .int .i64 0] 50)).drew :=
  have h := below_drew ((Below.refl _ wr).alloc (Nat.le_refl _) (.cells #[.int .i64 0, .int .i64 0, .int .i64 0, .int .i64 0] 50))
  ⟨h.os, h.tape, h.output, h.size, h.block⟩
theorem mget_mem {α : Type} : ∀ {l : List (Int × α)} {k : Int} {v : α}, (l.map (·.1)).Nodup → (k, v) ∈ l → mget l k = some v
  | q :: l, k, v, hn, h => by
    rw [List.map_cons, List.nodup_cons] at hn
    simp only [mget]
    rcases List.mem_cons.1 h with h | h
    · rw [← h, if_pos rfl]
    · rw [if_neg (fun e => hn.1 (List.mem_map.2 ⟨_, h, e.symm⟩)), mget_mem hn.2 h]
section
variable {b mo mf ma : Nat} {most last : Int} {lo : List (Int × Ox)} {lf la : List (Int × Nat)}
set_option maxHeartbeats 4000000 in
theorem sum_calls (hS : SortC) (fr : Int) (w : World) (h : Tof w b mo mf ma most last lo lf la) (hlen : lo.length ≤ 900) (hv : ∀ p ∈ lo, p.2.1.vec.length ≤ 700) :
    Calls Try.prog 16 #[.pointer (some ⟨b, 0, none⟩), .int .i64 fr] w (SumA (sumAll ((idsP (fun o => o.frame == fr) lo).map (vecAt lo)) S4.zero) w) := by
  have HA := Lib.hid (OfS.start w)
  have KO := Lib.hid (of_calls2 hS fr _ (h.below HA.out.b) hlen)
  have HT := Lib.hid h
  have HV := Lib.hid hv
  have HIL := Lib.hid (Nat.le_trans (idsP_len (lo := lo) (fun o => o.frame == fr)) hlen)
  have HMEM := Lib.hid (fun i (hi : i ∈ idsP (fun o => o.frame == fr) lo) => (idsP_mem hi))
  have HND := Lib.hid h.nd
  clear h hv hlen
  generalize idsP (fun o => o.frame == fr) lo = ids at *
  go_enter Try.func16, Try.ntmps16
  go_wp2_with fail
  refine KO.out.mono ?_
  rintro e w1 ⟨v, rfl, ho, hb⟩
  have HA1 := Lib.hid (HA.out.below hb)
  have HW1 := Lib.hid (show w.heap.size + 2 ≤ w1.heap.size by have := hb.size; simpa using this)
  have HI : Hid (∃ va vc, v = .slice va ids.length vc ∧ ∀ k (hk : k < ids.length), ∃ g, va = some ⟨g, 0, none⟩ ∧ w.heap.size + 2 ≤ g ∧ g < w1.heap.size ∧ w1.cell? ⟨g, k, none⟩ = some (.int .i64 ids[k])) := Lib.hid (by
    rcases ho.2 with ⟨rfl, h0⟩ | ⟨g, cp, cur, rfl, hbase, hbk, e1, e2, e3, e4⟩
    · exact ⟨none, 0, by rw [h0], fun k hk => by omega⟩
    · refine ⟨some ⟨g, 0, none⟩, cp, rfl, fun k hk => ⟨g, rfl, by simpa using hbase, blk_lt hbk, ?_⟩⟩
      rw [blk_cell hbk, ← Array.getElem?_toList]
      have h5 := congrArg (fun l : List Value => l[k]?) e4
      simp only [List.getElem?_map, List.getElem?_eq_getElem hk, Option.map_some] at h5
      rw [← h5, List.getElem?_take_of_lt (by omega)])
  obtain ⟨va, vc, rfl, HCI⟩ := HI.out
  have HCI := Lib.hid HCI
  clear ho hb HI HA KO
  go_wp2_with fail
  go_loopg [14] ids.length (fun n i wr => ∃ (k : Nat) (acc : S4), k ≤ ids.length ∧ n = ids.length - k ∧ i = .int .i64 k ∧ Hid (OfS w acc wr) ∧ Hid (∀ i, w.heap.size + 2 ≤ i → i < w1.heap.size → wr.heap[i]? = w1.heap[i]?) ∧ Hid (w1.heap.size ≤ wr.heap.size) ∧ Hid (sumAll ((ids.drop k).map (vecAt lo)) acc = sumAll (ids.map (vecAt lo)) S4.zero))
  case atStart => exact ⟨0, S4.zero, by omega, rfl, rfl, HA1, Lib.hid (fun _ _ _ => rfl), Lib.hid (Nat.le_refl _), Lib.hid rfl⟩
  case round =>
    obtain ⟨k, acc, hk, rfl, rfl, HB, HBW, HSZ, HK⟩ := hrel
    by_cases hlt : k < ids.length
    · obtain ⟨g, rfl, hg1, hg2, hc⟩ := HCI.out k hlt
      have y : wr.cell? ⟨g, k, none⟩ = some (.int .i64 ids[k]) := (cell_same (HBW.out g hg1 hg2) k).trans hc
      obtain ⟨x, hx, _⟩ := HMEM.out ids[k] (List.getElem_mem hlt)
      have HT1 := HT.out.below HB.out.b
      have hgx : mget lo ids[k] = some x := mget_mem HND.out hx
      have hlk := look43v (w := wr.drew) (HT1.below (below_drew (Below.refl _ _))).offers ids[k]
      have hgo : gotO lo ids[k] = x := by unfold gotO; rw [hgx]; rfl
      have hlk2 := look43v (w := (wr.alloc (.cells #[.int .i64 0, .int .i64 0, .int .i64 0, .int .i64 0] 50)).drew) (HT1.below (below_drew ((Below.refl _ wr).alloc (Nat.le_refl _) (.cells #[.int .i64 0, .int .i64 0, .int .i64 0, .int .i64 0] 50)))).offers ids[k]
      rw [hgo] at hlk hlk2
      have hvl : x.1.vec.length ≤ 700 := HV.out _ hx
      have hva := (HT1.below (below_drew (Below.refl _ _))).vec _ hx
      have HDROP : Hid (sumAll ((ids.drop k).map (vecAt lo)) acc = if (addS acc (sumsOf x.1.vec)).2 then sumAll ((ids.drop (k + 1)).map (vecAt lo)) (addS acc (sumsOf x.1.vec)).1 else S4.zero) := Lib.hid (by
        rw [List.drop_eq_getElem_cons hlt, List.map_cons, sumAll, show vecAt lo ids[k] = x.1.vec by unfold vecAt; rw [hgo]])
      have KS := Lib.hid (fun W (hb : Below wr.drew.heap.size wr.drew W) => sumsOf_calls (fun i => i < wr.drew.heap.size) x.2.1 x.2.2 x.1.vec W ((hva.pat (fun i c hc => blk_lt hc)).keep (fun i hi => hb.block i hi) (fun _ h => h)) (fun i hi => Nat.lt_of_lt_of_le hi hb.size) hvl)
      have HBD := Lib.hid (HB.out.below (below_drew (Below.refl _ wr)))
      have HMB := Lib.hid ((HT1.below (below_drew (Below.refl _ _))).cells.2.2.1)
      have HBLT := Lib.hid (blk_lt HT.out.blk)
      have c2 := HT1.cells.2.2.1
      obtain ⟨x0, x1, x2, x3⟩ := HB.out.xs
      have hki : (k : Int) < (ids.length : Int) := by omega
      have hk0 : (0 : Int) ≤ (k : Int) := by omega
      have hw : IntKind.i64.wrap ((k : Int) + 1) = (k : Int) + 1 := IntWalk.i64_in _ (by have := HIL.out; omega)
      have HLT := Lib.hid hlt
      obtain ⟨⟨oid, ofr, oag, ovec, otill⟩, va', vc'⟩ := x
      simp only at KS HDROP
      change _ = Result.ok (Value.agg #[.int .i64 oid, .int .i64 ofr, .int .i64 oag, .slice va' ovec.length vc', .int .i64 otill]) _ at hlk
      change _ = Result.ok (Value.agg #[.int .i64 oid, .int .i64 ofr, .int .i64 oag, .slice va' ovec.length vc', .int .i64 otill]) _ at hlk2
      clear hx hgx hgo hvl hva HT1 hc
      generalize ids[k] = idk at *
      clear hk hlt
      generalize sumsOf ovec = so at *
      have hfd : ∀ w : World, (Instr.field 30 (.agg #[.int .i64 oid, .int .i64 ofr, .int .i64 oag, .slice va' ovec.length vc', .int .i64 otill]) 3).run Try.prog w = .ok (.slice va' ovec.length vc') w := fun _ => by kernel_rfl
      have KAD := Lib.hid (fun W => sumsAdd_calls acc so W)
      have na4 : ¬ w.heap.size + 1 = wr.heap.size := (by have := blk_lt HB.out.x; omega)
      have nb4 : ¬ wr.heap.size = w.heap.size + 1 := (by have := blk_lt HB.out.x; omega)
      have nc4 : ¬ b = wr.heap.size := (by have := HBLT.out; have := HB.out.b.size; omega)
      have nd4 : ¬ wr.heap.size = b := (by have := HBLT.out; have := HB.out.b.size; omega)
      go_wp2_with fail
      go_region_held3 (fun w' => w'.cell? ⟨b, 2, none⟩ = some (.map (some mo)) ∧ w'.cell? ⟨w.heap.size + 1, 0, none⟩ = some (.int .i64 acc.a) ∧ w'.cell? ⟨w.heap.size + 1, 1, none⟩ = some (.int .i64 acc.b) ∧ w'.cell? ⟨w.heap.size + 1, 2, none⟩ = some (.int .i64 acc.c) ∧ w'.cell? ⟨w.heap.size + 1, 3, none⟩ = some (.int .i64 acc.d)) (go_keep)
        (first
          | (go_at_call 32; refine (KS.out _ (by first | exact Below.refl _ _ | exact allocDrew wr)).mono ?_; rintro e w5 ⟨rfl, hb5'⟩; have hb5 : Below wr.drew.heap.size wr.drew w5 := (by first | exact hb5' | exact (allocDrew wr).trans (hb5'.mono (by show wr.heap.size ≤ (wr.alloc (.cells #[.int .i64 0, .int .i64 0, .int .i64 0, .int .i64 0] 50)).heap.size; simp))); have HB5 := Lib.hid (HBD.out.below hb5); have d2 := below_cell hb5 (show b < wr.drew.heap.size from Nat.lt_of_lt_of_le HBLT.out HBD.out.b.size) HMB.out; obtain ⟨q0, q1, q2, q3⟩ := HB5.out.xs; have na5 : ¬ w.heap.size + 1 = w5.heap.size := (by have := blk_lt HB5.out.x; omega); have nb5 : ¬ w5.heap.size = w.heap.size + 1 := (by have := blk_lt HB5.out.x; omega); have nc5 : ¬ b = w5.heap.size := (by have := HBLT.out; have := HB5.out.b.size; omega); have nd5 : ¬ w5.heap.size = b := (by have := HBLT.out; have := HB5.out.b.size; omega); (try (have tb5 := (hb5'.block wr.heap.size (by show wr.heap.size < (wr.alloc (.cells #[.int .i64 0, .int .i64 0, .int .i64 0, .int .i64 0] 50)).heap.size; simp)).trans (blk_drew (blk_new wr (.cells #[.int .i64 0, .int .i64 0, .int .i64 0, .int .i64 0] 50))); have va05 := blk_cell tb5 0; have va15 := blk_cell tb5 1; have va25 := blk_cell tb5 2; have va35 := blk_cell tb5 3; have vf05 := blk_frozen tb5 0; have vf15 := blk_frozen tb5 1; have vf25 := blk_frozen tb5 2; have vf35 := blk_frozen tb5 3)); have HH5 := Lib.hid hb5; clear hb5 hb5')
          | (go_at_call 31; refine (KAD.out _).mono ?_; rintro e w6 ⟨rfl, hb6'⟩; have hb6 : Below w5.heap.size w5 w6 := (by first | exact hb6' | exact ((Below.refl _ w5).alloc (Nat.le_refl _) (.cells #[.int .i64 0, .int .i64 0, .int .i64 0, .int .i64 0] 50)).trans (hb6'.mono (by simp))); have HB6 := Lib.hid (HB5.out.below hb6); have d3 := below_cell hb6 (show b < w5.heap.size from Nat.lt_of_lt_of_le HBLT.out HB5.out.b.size) d2; obtain ⟨u0, u1, u2, u3⟩ := HB6.out.xs; have na6 : ¬ w.heap.size + 1 = w6.heap.size := (by have := blk_lt HB6.out.x; omega); have nb6 : ¬ w6.heap.size = w.heap.size + 1 := (by have := blk_lt HB6.out.x; omega); have nc6 : ¬ b = w6.heap.size := (by have := HBLT.out; have := HB6.out.b.size; omega); have nd6 : ¬ w6.heap.size = b := (by have := HBLT.out; have := HB6.out.b.size; omega); (try (have tb6 := (hb6'.block w5.heap.size (by simp)).trans (blk_new w5 (.cells #[.int .i64 0, .int .i64 0, .int .i64 0, .int .i64 0] 50)); have va06 := blk_cell tb6 0; have va16 := blk_cell tb6 1; have va26 := blk_cell tb6 2; have va36 := blk_cell tb6 3; have vf06 := blk_frozen tb6 0; have vf16 := blk_frozen tb6 1; have vf26 := blk_frozen tb6 2; have vf36 := blk_frozen tb6 3)); (try (have tb7 := (hb6.block wr.heap.size (blk_lt tb5)).trans tb5; have va07 := blk_cell tb7 0; have va17 := blk_cell tb7 1; have va27 := blk_cell tb7 2; have va37 := blk_cell tb7 3; have vf07 := blk_frozen tb7 0; have vf17 := blk_frozen tb7 1; have vf27 := blk_frozen tb7 2; have vf37 := blk_frozen tb7 3)); have HH6 := Lib.hid hb6; clear hb6 hb6'))
      all_goals have hk6 : ∀ i, w.heap.size + 2 ≤ i → i < w1.heap.size → w6.heap[i]? = w1.heap[i]? := fun i h1 h2 => ((HH6.out.block i (Nat.lt_of_lt_of_le h2 (Nat.le_trans HSZ.out HH5.out.size))).trans (HH5.out.block i (Nat.lt_of_lt_of_le h2 HSZ.out))).trans (HBW.out i h1 h2)
      all_goals have hs6 : w1.heap.size ≤ w6.heap.size := Nat.le_trans HSZ.out (Nat.le_trans HH5.out.size HH6.out.size)
      all_goals first
        | (have HRO := Lib.hid (RoS.ofAlloc (r := (addS acc so).1) HB6.out hk6 hs6); (change Exit.then _ _ _ _ (w6.alloc (.cells #[.int .i64 (addS acc so).1.a, .int .i64 (addS acc so).1.b, .int .i64 (addS acc so).1.c, .int .i64 (addS acc so).1.d] 50))
                                                                                      have HKK := Lib.hid (HRO.out.keep)
                                                                                      have HSS := Lib.hid (HRO.out.size)
                                                                                      have hn8 := blk_cell HRO.out.new
                                                                                      have m0 := hn8 0
                                                                                      have m1 := hn8 1
                                                                                      have m2 := hn8 2
                                                                                      have m3 := hn8 3
                                                                                      clear hn8 hk6 hs6
                                                                                      obtain ⟨⟨z0, z1, z2, z3⟩, f0, f1, f2, f3⟩ := HRO.out.of'.zs
                                                                                      obtain ⟨x0, x1, x2, x3⟩ := HRO.out.of'.xs
                                                                                      have g0 := blk_frozen HRO.out.of'.x 0
                                                                                      have g1 := blk_frozen HRO.out.of'.x 1
                                                                                      have g2 := blk_frozen HRO.out.of'.x 2
                                                                                      have g3 := blk_frozen HRO.out.of'.x 3
                                                                                      generalize (w6.alloc (.cells #[.int .i64 (addS acc so).1.a, .int .i64 (addS acc so).1.b, .int .i64 (addS acc so).1.c, .int .i64 (addS acc so).1.d] 50)) = W8 at *
                                                                                      generalize w6.heap.size = N8 at *
                                                                                      rcases Bool.eq_false_or_eq_true (addS acc so).2 with hb2 | hb2
                                                                                      · have HNEXT := Lib.hid (show sumAll ((ids.drop (k + 1)).map (vecAt lo)) (addS acc so).1 = sumAll (ids.map (vecAt lo)) S4.zero by rw [← HK.out, HDROP.out, if_pos hb2])
                                                                                        have HP := Lib.hid (HRO.out.of'.put (addS acc so).1)
                                                                                        have HKP := Lib.hid (fun i (h1 : w.heap.size + 2 ≤ i) (h2 : i < w1.heap.size) => (set4_far (wr := W8) (N := w.heap.size + 1) (v0 := .int .i64 (addS acc so).1.a) (v1 := .int .i64 (addS acc so).1.b) (v2 := .int .i64 (addS acc so).1.c) (v3 := .int .i64 (addS acc so).1.d) (show i ≠ w.heap.size + 1 by omega)).trans (HKK.out i h1 h2))
                                                                                        have HSP := Lib.hid (show w1.heap.size ≤ (set4 W8 (w.heap.size + 1) (.int .i64 (addS acc so).1.a) (.int .i64 (addS acc so).1.b) (.int .i64 (addS acc so).1.c) (.int .i64 (addS acc so).1.d)).heap.size by unfold set4; simpa [World.setCell] using HSS.out)
                                                                                        go_wp2_with fail
                                                                                        go_roundg (ids.length - (k + 1))
                                                                                        case measure => have := HLT.out; omega
                                                                                        case rel => exact ⟨k + 1, _, HLT.out, rfl, by go_num, HP, HKP, HSP, HNEXT⟩
                                                                                      · have HZ := Lib.hid (show sumAll (ids.map (vecAt lo)) S4.zero = S4.zero by rw [← HK.out, HDROP.out, hb2]; rfl)
                                                                                        go_wp2_with fail
                                                                                        obtain ⟨s0, s1, s2, s3, s5⟩ := HRO.out.of'.stop (.int .i64 0) (.int .i64 0) (.int .i64 0) (.int .i64 0)
                                                                                        change bodyPost _ _ _ _ _ (set4 W8 w.heap.size (.int .i64 0) (.int .i64 0) (.int .i64 0) (.int .i64 0))
                                                                                        generalize set4 W8 w.heap.size (.int .i64 0) (.int .i64 0) (.int .i64 0) (.int .i64 0) = W9 at *
                                                                                        refine bodyPost_ret (v := .agg #[.int .i64 0, .int .i64 0, .int .i64 0, .int .i64 0]) (by simp [results, Try.results16, go_sem, s0, s1, s2, s3]) rfl ⟨by rw [HZ.out]; rfl, s5⟩))
        | (have HRO := Lib.hid (RoS.ofSet (r := (addS acc so).1) HB6.out hk6 hs6 (Nat.le_trans HSZ.out HH5.out.size) HW1.out tb6); (change Exit.then _ _ _ _ (set4 w6 w5.heap.size (.int .i64 (addS acc so).1.a) (.int .i64 (addS acc so).1.b) (.int .i64 (addS acc so).1.c) (.int .i64 (addS acc so).1.d))
                                                                                                                                    have HKK := Lib.hid (HRO.out.keep)
                                                                                                                                    have HSS := Lib.hid (HRO.out.size)
                                                                                                                                    have hn8 := blk_cell HRO.out.new
                                                                                                                                    have m0 := hn8 0
                                                                                                                                    have m1 := hn8 1
                                                                                                                                    have m2 := hn8 2
                                                                                                                                    have m3 := hn8 3
                                                                                                                                    clear hn8 hk6 hs6
                                                                                                                                    obtain ⟨⟨z0, z1, z2, z3⟩, f0, f1, f2, f3⟩ := HRO.out.of'.zs
                                                                                                                                    obtain ⟨x0, x1, x2, x3⟩ := HRO.out.of'.xs
                                                                                                                                    have g0 := blk_frozen HRO.out.of'.x 0
                                                                                                                                    have g1 := blk_frozen HRO.out.of'.x 1
                                                                                                                                    have g2 := blk_frozen HRO.out.of'.x 2
                                                                                                                                    have g3 := blk_frozen HRO.out.of'.x 3
                                                                                                                                    generalize (set4 w6 w5.heap.size (.int .i64 (addS acc so).1.a) (.int .i64 (addS acc so).1.b) (.int .i64 (addS acc so).1.c) (.int .i64 (addS acc so).1.d)) = W8 at *
                                                                                                                                    generalize w5.heap.size = N8 at *
                                                                                                                                    rcases Bool.eq_false_or_eq_true (addS acc so).2 with hb2 | hb2
                                                                                                                                    · have HNEXT := Lib.hid (show sumAll ((ids.drop (k + 1)).map (vecAt lo)) (addS acc so).1 = sumAll (ids.map (vecAt lo)) S4.zero by rw [← HK.out, HDROP.out, if_pos hb2])
                                                                                                                                      have HP := Lib.hid (HRO.out.of'.put (addS acc so).1)
                                                                                                                                      have HKP := Lib.hid (fun i (h1 : w.heap.size + 2 ≤ i) (h2 : i < w1.heap.size) => (set4_far (wr := W8) (N := w.heap.size + 1) (v0 := .int .i64 (addS acc so).1.a) (v1 := .int .i64 (addS acc so).1.b) (v2 := .int .i64 (addS acc so).1.c) (v3 := .int .i64 (addS acc so).1.d) (show i ≠ w.heap.size + 1 by omega)).trans (HKK.out i h1 h2))
                                                                                                                                      have HSP := Lib.hid (show w1.heap.size ≤ (set4 W8 (w.heap.size + 1) (.int .i64 (addS acc so).1.a) (.int .i64 (addS acc so).1.b) (.int .i64 (addS acc so).1.c) (.int .i64 (addS acc so).1.d)).heap.size by unfold set4; simpa [World.setCell] using HSS.out)
                                                                                                                                      go_wp2_with fail
                                                                                                                                      go_roundg (ids.length - (k + 1))
                                                                                                                                      case measure => have := HLT.out; omega
                                                                                                                                      case rel => exact ⟨k + 1, _, HLT.out, rfl, by go_num, HP, HKP, HSP, HNEXT⟩
                                                                                                                                    · have HZ := Lib.hid (show sumAll (ids.map (vecAt lo)) S4.zero = S4.zero by rw [← HK.out, HDROP.out, hb2]; rfl)
                                                                                                                                      go_wp2_with fail
                                                                                                                                      obtain ⟨s0, s1, s2, s3, s5⟩ := HRO.out.of'.stop (.int .i64 0) (.int .i64 0) (.int .i64 0) (.int .i64 0)
                                                                                                                                      change bodyPost _ _ _ _ _ (set4 W8 w.heap.size (.int .i64 0) (.int .i64 0) (.int .i64 0) (.int .i64 0))
                                                                                                                                      generalize set4 W8 w.heap.size (.int .i64 0) (.int .i64 0) (.int .i64 0) (.int .i64 0) = W9 at *
                                                                                                                                      refine bodyPost_ret (v := .agg #[.int .i64 0, .int .i64 0, .int .i64 0, .int .i64 0]) (by simp [results, Try.results16, go_sem, s0, s1, s2, s3]) rfl ⟨by rw [HZ.out]; rfl, s5⟩))
        | (have HRO := Lib.hid (RoS.ofSet (r := (addS acc so).1) HB6.out hk6 hs6 HSZ.out HW1.out tb7); (change Exit.then _ _ _ _ (set4 w6 wr.heap.size (.int .i64 (addS acc so).1.a) (.int .i64 (addS acc so).1.b) (.int .i64 (addS acc so).1.c) (.int .i64 (addS acc so).1.d))
                                                                                                        have HKK := Lib.hid (HRO.out.keep)
                                                                                                        have HSS := Lib.hid (HRO.out.size)
                                                                                                        have hn8 := blk_cell HRO.out.new
                                                                                                        have m0 := hn8 0
                                                                                                        have m1 := hn8 1
                                                                                                        have m2 := hn8 2
                                                                                                        have m3 := hn8 3
                                                                                                        clear hn8 hk6 hs6
                                                                                                        obtain ⟨⟨z0, z1, z2, z3⟩, f0, f1, f2, f3⟩ := HRO.out.of'.zs
                                                                                                        obtain ⟨x0, x1, x2, x3⟩ := HRO.out.of'.xs
                                                                                                        have g0 := blk_frozen HRO.out.of'.x 0
                                                                                                        have g1 := blk_frozen HRO.out.of'.x 1
                                                                                                        have g2 := blk_frozen HRO.out.of'.x 2
                                                                                                        have g3 := blk_frozen HRO.out.of'.x 3
                                                                                                        generalize (set4 w6 wr.heap.size (.int .i64 (addS acc so).1.a) (.int .i64 (addS acc so).1.b) (.int .i64 (addS acc so).1.c) (.int .i64 (addS acc so).1.d)) = W8 at *
                                                                                                        generalize wr.heap.size = N8 at *
                                                                                                        rcases Bool.eq_false_or_eq_true (addS acc so).2 with hb2 | hb2
                                                                                                        · have HNEXT := Lib.hid (show sumAll ((ids.drop (k + 1)).map (vecAt lo)) (addS acc so).1 = sumAll (ids.map (vecAt lo)) S4.zero by rw [← HK.out, HDROP.out, if_pos hb2])
                                                                                                          have HP := Lib.hid (HRO.out.of'.put (addS acc so).1)
                                                                                                          have HKP := Lib.hid (fun i (h1 : w.heap.size + 2 ≤ i) (h2 : i < w1.heap.size) => (set4_far (wr := W8) (N := w.heap.size + 1) (v0 := .int .i64 (addS acc so).1.a) (v1 := .int .i64 (addS acc so).1.b) (v2 := .int .i64 (addS acc so).1.c) (v3 := .int .i64 (addS acc so).1.d) (show i ≠ w.heap.size + 1 by omega)).trans (HKK.out i h1 h2))
                                                                                                          have HSP := Lib.hid (show w1.heap.size ≤ (set4 W8 (w.heap.size + 1) (.int .i64 (addS acc so).1.a) (.int .i64 (addS acc so).1.b) (.int .i64 (addS acc so).1.c) (.int .i64 (addS acc so).1.d)).heap.size by unfold set4; simpa [World.setCell] using HSS.out)
                                                                                                          go_wp2_with fail
                                                                                                          go_roundg (ids.length - (k + 1))
                                                                                                          case measure => have := HLT.out; omega
                                                                                                          case rel => exact ⟨k + 1, _, HLT.out, rfl, by go_num, HP, HKP, HSP, HNEXT⟩
                                                                                                        · have HZ := Lib.hid (show sumAll (ids.map (vecAt lo)) S4.zero = S4.zero by rw [← HK.out, HDROP.out, hb2]; rfl)
                                                                                                          go_wp2_with fail
                                                                                                          obtain ⟨s0, s1, s2, s3, s5⟩ := HRO.out.of'.stop (.int .i64 0) (.int .i64 0) (.int .i64 0) (.int .i64 0)
                                                                                                          change bodyPost _ _ _ _ _ (set4 W8 w.heap.size (.int .i64 0) (.int .i64 0) (.int .i64 0) (.int .i64 0))
                                                                                                          generalize set4 W8 w.heap.size (.int .i64 0) (.int .i64 0) (.int .i64 0) (.int .i64 0) = W9 at *
                                                                                                          refine bodyPost_ret (v := .agg #[.int .i64 0, .int .i64 0, .int .i64 0, .int .i64 0]) (by simp [results, Try.results16, go_sem, s0, s1, s2, s3]) rfl ⟨by rw [HZ.out]; rfl, s5⟩))
    · have HE := HB
      have hfin := HK.out
      rw [List.drop_eq_nil_of_le (by omega)] at hfin
      have HZ := Lib.hid hfin.symm
      clear hk hfin HK HB
      have hki : decide ((k : Int) < (ids.length : Int)) = false := decide_eq_false (by omega)
      obtain ⟨⟨z0, z1, z2, z3⟩, f0, f1, f2, f3⟩ := HE.out.zs
      obtain ⟨x0, x1, x2, x3⟩ := HE.out.xs
      go_wp2_with fail
      obtain ⟨s0, s1, s2, s3, s5⟩ := HE.out.stop (.int .i64 acc.a) (.int .i64 acc.b) (.int .i64 acc.c) (.int .i64 acc.d)
      change bodyPost _ _ _ _ _ (set4 wr w.heap.size (.int .i64 acc.a) (.int .i64 acc.b) (.int .i64 acc.c) (.int .i64 acc.d))
      generalize set4 wr w.heap.size (.int .i64 acc.a) (.int .i64 acc.b) (.int .i64 acc.c) (.int .i64 acc.d) = W9 at *
      refine bodyPost_ret (v := .agg #[.int .i64 acc.a, .int .i64 acc.b, .int .i64 acc.c, .int .i64 acc.d]) (by simp [results, Try.results16, go_sem, s0, s1, s2, s3]) rfl ⟨by rw [HZ.out]; rfl, s5⟩
end
end Go.Proofs.Ytecgfghmmlpghaa.O
