/- Walks: the reference's Sum. -/
import Derived.Test.YtecgfghmmlpghaaRefM0
import Derived.Test.YtecgfghmmlpghaaRefO
import Derived.Test.YtecgfghmmlpghaaSum
set_option linter.unusedVariables false
set_option linter.unusedSimpArgs false
namespace Go.Proofs.Ytecgfghmmlpghaa.O
open Go.RowKit Go.Proofs.Ytecgfghmmlpghaa.Hp Go.Proofs.Ytecgfghmmlpghaa.Mp
set_option maxRecDepth 100000
/-- In the middle of the reference's Sum. -/
structure OfN (w : World) (N : Nat) (m : Array Value) (acc : S4) (wr : World) : Prop where
  hN : w.heap.size < N
  m : wr.heap[w.heap.size]? = some (.cells m 54 (0, 0))
  x : wr.heap[N + 1]? = some (.cells #[.int .i64 acc.a, .int .i64 acc.b, .int .i64 acc.c, .int .i64 acc.d] 49 (0, 0))
  z : wr.heap[N]? = some (.cells #[.int .i64 0, .int .i64 0, .int .i64 0, .int .i64 0] 49 (0, 0))
  b : Below w.heap.size w wr
section
variable {w wr w' W : World} {N : Nat} {m : Array Value} {acc r : S4}
theorem OfN.start (w : World) (m : Array Value) : OfN w (w.heap.size + 1) m S4.zero (((w.alloc (.cells m 54)).alloc (.cells #[.int .i64 0, .int .i64 0, .int .i64 0, .int .i64 0] 49)).alloc (.cells #[.int .i64 0, .int .i64 0, .int .i64 0, .int .i64 0] 49)) := by
  refine ⟨by omega, blk_alloc (blk_alloc (blk_new _ _)), ?_, ?_, (((Below.refl _ w).alloc (Nat.le_refl _) _).alloc (by simp) _).alloc (by simp; omega) _⟩
  · have h := blk_new ((w.alloc (.cells m 54)).alloc (.cells #[.int .i64 0, .int .i64 0, .int .i64 0, .int .i64 0] 49)) (.cells #[.int .i64 0, .int .i64 0, .int .i64 0, .int .i64 0] 49)
    rw [show ((w.alloc (.cells m 54)).alloc (.cells #[.int .i64 0, .int .i64 0, .int .i64 0, .int .i64 0] 49)).heap.size = w.heap.size + 1 + 1 by simp] at h
    exact h
  · have h := blk_alloc (o' := (.cells #[.int .i64 0, .int .i64 0, .int .i64 0, .int .i64 0] 49)) (blk_new (w.alloc (.cells m 54)) (.cells #[.int .i64 0, .int .i64 0, .int .i64 0, .int .i64 0] 49))
    rw [show (w.alloc (.cells m 54)).heap.size = w.heap.size + 1 by simp] at h
    exact h
theorem OfN.below (h : OfN w N m acc wr) (hb : Below wr.heap.size wr w') : OfN w N m acc w' :=
  ⟨h.hN, (hb.block _ (blk_lt h.m)).trans h.m, (hb.block _ (blk_lt h.x)).trans h.x, (hb.block _ (blk_lt h.z)).trans h.z, h.b.trans (hb.mono h.b.size)⟩
theorem OfN.zs (h : OfN w N m acc wr) : (wr.cell? ⟨N, 0, none⟩ = some (.int .i64 0) ∧ wr.cell? ⟨N, 1, none⟩ = some (.int .i64 0) ∧ wr.cell? ⟨N, 2, none⟩ = some (.int .i64 0) ∧ wr.cell? ⟨N, 3, none⟩ = some (.int .i64 0)) ∧ wr.frozen? ⟨N, 0, none⟩ = false ∧ wr.frozen? ⟨N, 1, none⟩ = false ∧ wr.frozen? ⟨N, 2, none⟩ = false ∧ wr.frozen? ⟨N, 3, none⟩ = false :=
  ⟨⟨blk_cell h.z 0, blk_cell h.z 1, blk_cell h.z 2, blk_cell h.z 3⟩, blk_frozen h.z 0, blk_frozen h.z 1, blk_frozen h.z 2, blk_frozen h.z 3⟩
theorem OfN.xs (h : OfN w N m acc wr) : wr.cell? ⟨N + 1, 0, none⟩ = some (.int .i64 acc.a) ∧ wr.cell? ⟨N + 1, 1, none⟩ = some (.int .i64 acc.b) ∧ wr.cell? ⟨N + 1, 2, none⟩ = some (.int .i64 acc.c) ∧ wr.cell? ⟨N + 1, 3, none⟩ = some (.int .i64 acc.d) :=
  ⟨blk_cell h.x 0, blk_cell h.x 1, blk_cell h.x 2, blk_cell h.x 3⟩
theorem OfN.stop (h : OfN w N m acc wr) (v0 v1 v2 v3 : Value) : (set4 wr N v0 v1 v2 v3).cell? ⟨N, 0, none⟩ = some v0 ∧ (set4 wr N v0 v1 v2 v3).cell? ⟨N, 1, none⟩ = some v1 ∧ (set4 wr N v0 v1 v2 v3).cell? ⟨N, 2, none⟩ = some v2 ∧ (set4 wr N v0 v1 v2 v3).cell? ⟨N, 3, none⟩ = some v3 ∧ Below w.heap.size w (set4 wr N v0 v1 v2 v3) := by
  have e := set4_blk v0 v1 v2 v3 h.z
  exact ⟨blk_cell e 0, blk_cell e 1, blk_cell e 2, blk_cell e 3, set4_below h.b (Nat.le_of_lt h.hN)⟩
theorem OfN.put (h : OfN w N m acc wr) (t : S4) : OfN w N m t (set4 wr (N + 1) (.int .i64 t.a) (.int .i64 t.b) (.int .i64 t.c) (.int .i64 t.d)) :=
  ⟨h.hN, (set4_far (by have := h.hN; omega)).trans h.m, set4_blk _ _ _ _ h.x, (set4_far (by omega)).trans h.z, set4_below h.b (by have := h.hN; omega)⟩
theorem OfN.far (h : OfN w N m acc wr) {n : Nat} (hn : N + 2 ≤ n) (v0 v1 v2 v3 : Value) : OfN w N m acc (set4 wr n v0 v1 v2 v3) :=
  ⟨h.hN, (set4_far (by have := h.hN; omega)).trans h.m, (set4_far (by omega)).trans h.x, (set4_far (by omega)).trans h.z, set4_below h.b (by have := h.hN; omega)⟩
/-- The second sum is laid in a new variable at block n. -/
structure RoN (w : World) (N : Nat) (m : Array Value) (acc r : S4) (n : Nat) (W : World) : Prop where
  of' : OfN w N m acc W
  new : W.heap[n]? = some (.cells #[.int .i64 r.a, .int .i64 r.b, .int .i64 r.c, .int .i64 r.d] 49 (0, 0))
theorem RoN.ofAlloc (h : OfN w N m acc W) : RoN w N m acc r W.heap.size (W.alloc (.cells #[.int .i64 r.a, .int .i64 r.b, .int .i64 r.c, .int .i64 r.d] 49)) :=
  ⟨h.below ((Below.refl _ W).alloc (Nat.le_refl _) _), blk_new _ _⟩
theorem RoN.ofSet {n : Nat} {a0 a1 a2 a3 : Value} (h : OfN w N m acc W) (hn : N + 2 ≤ n) (hb : W.heap[n]? = some (.cells #[a0, a1, a2, a3] 49 (0, 0))) : RoN w N m acc r n (set4 W n (.int .i64 r.a) (.int .i64 r.b) (.int .i64 r.c) (.int .i64 r.d)) :=
  ⟨h.far hn _ _ _ _, set4_blk _ _ _ _ hb⟩
end
theorem allocDrew9 (wr : World) : Below wr.drew.heap.size wr.drew (wr.alloc (.cells #[.int .i64 0, .int .i64 0, .int .i64 0, .int .i64 0] 49)).drew :=
  have h := below_drew ((Below.refl _ wr).alloc (Nat.le_refl _) (.cells #[.int .i64 0, .int .i64 0, .int .i64 0, .int .i64 0] 49))
  ⟨h.os, h.tape, h.output, h.size, h.block⟩
set_option maxHeartbeats 4000000 in
theorem refSum_calls (T : Nat → Prop) (most last fr : Int) (fa : Option Addr) (g fc : Nat) (xs : List Ox) (w : World) (hlen : xs.length ≤ 900) (hv : ∀ x ∈ xs, x.1.vec.length ≤ 700) (hT : ∀ i, T i → i < w.heap.size) (h : OAt T w fa g 0 xs) :
    Calls Try.prog 23 #[.agg #[.int .i64 most, .int .i64 last, .slice fa xs.length fc], .int .i64 fr] w (SumA (sumAll ((xs.filter (fun y => y.1.frame == fr)).map (fun y => y.1.vec)) S4.zero) w) := by
  have HS := Lib.hid (OfN.start w #[.int .i64 most, .int .i64 last, .slice fa xs.length fc])
  have HA := Lib.hid h
  have HT := Lib.hid hT
  have HL := Lib.hid hlen
  have HV := Lib.hid hv
  clear h hT hlen hv
  go_enter Try.func23, Try.ntmps23
  go_wp2_with fail
  generalize ((w.alloc (.cells #[.int .i64 most, .int .i64 last, .slice fa xs.length fc] 54)).alloc (.cells #[.int .i64 0, .int .i64 0, .int .i64 0, .int .i64 0] 49)).alloc (.cells #[.int .i64 0, .int .i64 0, .int .i64 0, .int .i64 0] 49) = W0 at *
  have HNN := Lib.hid (show w.heap.size < w.heap.size + 1 by omega)
  generalize w.heap.size + 1 = N at *
  go_loopg [6] xs.length (fun n i wr => ∃ (k : Nat) (acc : S4), k ≤ xs.length ∧ n = xs.length - k ∧ i = .int .i64 k ∧ Hid (OfN w N #[.int .i64 most, .int .i64 last, .slice fa xs.length fc] acc wr) ∧ Hid (sumAll (((xs.drop k).filter (fun y => y.1.frame == fr)).map (fun y => y.1.vec)) acc = sumAll ((xs.filter (fun y => y.1.frame == fr)).map (fun y => y.1.vec)) S4.zero))
  case atStart => exact ⟨0, S4.zero, by omega, rfl, rfl, HS, Lib.hid rfl⟩
  case round =>
    obtain ⟨k, acc, hk, rfl, rfl, HB, HK⟩ := hrel
    clear HS
    have b2 := blk_cell HB.out.m 2
    by_cases hlt : k < xs.length
    · obtain ⟨rfl, hg⟩ := HA.out.lt (by omega)
      have hcc := (HA.out.keep (w' := wr) (T' := T) (fun i hi => HB.out.b.block i (HT.out i hi)) (fun _ h => h)).cells hlt
      simp only [Nat.zero_add] at hcc
      obtain ⟨y0, y1, y2, y3, y4⟩ := hcc
      have hg := HT.out _ hg
      have HVX := Lib.hid (HV.out _ (List.getElem_mem hlt))
      have HPX := Lib.hid (HA.out.vec _ (List.getElem_mem hlt))
      have hki : (k : Int) < (xs.length : Int) := by omega
      have hk0 : (0 : Int) ≤ (k : Int) := by omega
      have hw : IntKind.i64.wrap ((k : Int) + 1) = (k : Int) + 1 := IntWalk.i64_in _ (by have := HL.out; omega)
      have HLT : Hid (k < xs.length) := Lib.hid hlt
      have HDR := Lib.hid (List.drop_eq_getElem_cons hlt)
      generalize xs[k] = x at *
      obtain ⟨⟨oid, ofr, oag, ovec, otill⟩, va, vc⟩ := x
      simp only at y0 y1 y2 y3 y4 HVX HPX
      by_cases hc : ofr = fr
      · have hc' := hc.symm
        subst hc'
        clear hc
        have e1 : (fr == fr) = true := by simp
        have HDROP : Hid (sumAll (((xs.drop k).filter (fun y => y.1.frame == fr)).map (fun y => y.1.vec)) acc = if (addS acc (sumsOf ovec)).2 then sumAll (((xs.drop (k + 1)).filter (fun y => y.1.frame == fr)).map (fun y => y.1.vec)) (addS acc (sumsOf ovec)).1 else S4.zero) := Lib.hid (by
          rw [HDR.out, List.filter_cons, if_pos (by simp), List.map_cons, sumAll])
        have KS := Lib.hid (fun W (hb : Below wr.drew.heap.size wr.drew W) => refOf_calls T va vc ovec W (HPX.out.keep (fun i hi => (hb.block i (Nat.lt_of_lt_of_le (HT.out i hi) HB.out.b.size)).trans (HB.out.b.block i (HT.out i hi))) (fun _ h => h)) (fun i hi => Nat.lt_of_lt_of_le (Nat.lt_of_lt_of_le (HT.out i hi) HB.out.b.size) hb.size) HVX.out)
        have KAD := Lib.hid (fun W => refAdd_calls acc (sumsOf ovec) W)
        have HBD := Lib.hid (HB.out.below (below_drew (Below.refl _ wr)))
        have HCC := Lib.hid (fun W (hb : Below w.heap.size w W) => (HA.out.keep (w' := W) (T' := T) (fun i hi => hb.block i (HT.out i hi)) (fun _ h => h)).cells HLT.out)
        obtain ⟨x0, x1, x2, x3⟩ := HB.out.xs
        have na4 : ¬ N + 1 = wr.heap.size := (by have := blk_lt HB.out.x; omega)
        have nb4 : ¬ wr.heap.size = N + 1 := (by have := blk_lt HB.out.x; omega)
        have nc4 : ¬ w.heap.size = wr.heap.size := (by have := blk_lt HB.out.m; omega)
        have nd4 : ¬ wr.heap.size = w.heap.size := (by have := blk_lt HB.out.m; omega)
        have ne4 : ¬ g = wr.heap.size := (by have := HB.out.b.size; omega)
        have nf4 : ¬ wr.heap.size = g := (by have := HB.out.b.size; omega)
        have HGL := Lib.hid hg
        clear hlt hk hg
        generalize sumsOf ovec = so at *
        go_wp2_with fail
        go_region_held3 (fun w' => w'.cell? ⟨w.heap.size, 2, none⟩ = some (.slice (some ⟨g, 0, none⟩) xs.length fc) ∧ w'.cell? ⟨g, k * 5 + 3, none⟩ = some (.slice va ovec.length vc) ∧ w'.cell? ⟨N + 1, 0, none⟩ = some (.int .i64 acc.a) ∧ w'.cell? ⟨N + 1, 1, none⟩ = some (.int .i64 acc.b) ∧ w'.cell? ⟨N + 1, 2, none⟩ = some (.int .i64 acc.c) ∧ w'.cell? ⟨N + 1, 3, none⟩ = some (.int .i64 acc.d)) (go_keep)
          (first
            | (go_at_call 36; refine (KS.out _ (by first | exact Below.refl _ _ | exact allocDrew9 wr)).mono ?_; rintro e w5 ⟨rfl, hb5'⟩; have hb5 : Below wr.drew.heap.size wr.drew w5 := (by first | exact hb5' | exact (allocDrew9 wr).trans (hb5'.mono (by show wr.heap.size ≤ (wr.alloc (.cells #[.int .i64 0, .int .i64 0, .int .i64 0, .int .i64 0] 49)).heap.size; simp))); have HB5 := Lib.hid (HBD.out.below hb5); have d2 := blk_cell HB5.out.m 2; have d3 := below_cell hb5 (show g < wr.drew.heap.size from Nat.lt_of_lt_of_le HGL.out HBD.out.b.size) y3; obtain ⟨q0, q1, q2, q3⟩ := HB5.out.xs; have na5 : ¬ N + 1 = w5.heap.size := (by have := blk_lt HB5.out.x; omega); have nb5 : ¬ w5.heap.size = N + 1 := (by have := blk_lt HB5.out.x; omega); have nc5 : ¬ w.heap.size = w5.heap.size := (by have := blk_lt HB5.out.m; omega); have nd5 : ¬ w5.heap.size = w.heap.size := (by have := blk_lt HB5.out.m; omega); have ne5 : ¬ g = w5.heap.size := (by have := HB5.out.b.size; have := HGL.out; omega); have nf5 : ¬ w5.heap.size = g := (by have := HB5.out.b.size; have := HGL.out; omega); (try (have tb5 := (hb5'.block wr.heap.size (by show wr.heap.size < (wr.alloc (.cells #[.int .i64 0, .int .i64 0, .int .i64 0, .int .i64 0] 49)).heap.size; simp)).trans (blk_drew (blk_new wr (.cells #[.int .i64 0, .int .i64 0, .int .i64 0, .int .i64 0] 49))); have va05 := blk_cell tb5 0; have va15 := blk_cell tb5 1; have va25 := blk_cell tb5 2; have va35 := blk_cell tb5 3; have vf05 := blk_frozen tb5 0; have vf15 := blk_frozen tb5 1; have vf25 := blk_frozen tb5 2; have vf35 := blk_frozen tb5 3)); have HH5 := Lib.hid hb5; clear hb5 hb5')
            | (go_at_call 35; refine (KAD.out _).mono ?_; rintro e w6 ⟨rfl, hb6'⟩; have hb6 : Below w5.heap.size w5 w6 := (by first | exact hb6' | exact ((Below.refl _ w5).alloc (Nat.le_refl _) (.cells #[.int .i64 0, .int .i64 0, .int .i64 0, .int .i64 0] 49)).trans (hb6'.mono (by simp))); have HB6 := Lib.hid (HB5.out.below hb6); have d4 := blk_cell HB6.out.m 2; have d5 := below_cell hb6 (show g < w5.heap.size from Nat.lt_of_lt_of_le HGL.out HB5.out.b.size) d3; obtain ⟨u0, u1, u2, u3⟩ := HB6.out.xs; have na6 : ¬ N + 1 = w6.heap.size := (by have := blk_lt HB6.out.x; omega); have nb6 : ¬ w6.heap.size = N + 1 := (by have := blk_lt HB6.out.x; omega); have nc6 : ¬ w.heap.size = w6.heap.size := (by have := blk_lt HB6.out.m; omega); have nd6 : ¬ w6.heap.size = w.heap.size := (by have := blk_lt HB6.out.m; omega); have ne6 : ¬ g = w6.heap.size := (by have := HB6.out.b.size; have := HGL.out; omega); have nf6 : ¬ w6.heap.size = g := (by have := HB6.out.b.size; have := HGL.out; omega); (try (have tb6 := (hb6'.block w5.heap.size (by simp)).trans (blk_new w5 (.cells #[.int .i64 0, .int .i64 0, .int .i64 0, .int .i64 0] 49)); have va06 := blk_cell tb6 0; have va16 := blk_cell tb6 1; have va26 := blk_cell tb6 2; have va36 := blk_cell tb6 3; have vf06 := blk_frozen tb6 0; have vf16 := blk_frozen tb6 1; have vf26 := blk_frozen tb6 2; have vf36 := blk_frozen tb6 3)); (try (have tb7 := (hb6.block wr.heap.size (blk_lt tb5)).trans tb5; have va07 := blk_cell tb7 0; have va17 := blk_cell tb7 1; have va27 := blk_cell tb7 2; have va37 := blk_cell tb7 3; have vf07 := blk_frozen tb7 0; have vf17 := blk_frozen tb7 1; have vf27 := blk_frozen tb7 2; have vf37 := blk_frozen tb7 3)); have HH6 := Lib.hid hb6; clear hb6 hb6'))
        all_goals first
          | (have HRO := Lib.hid (RoN.ofAlloc (r := (addS acc so).1) HB6.out); (change Exit.then _ _ _ _ (w6.alloc (.cells #[.int .i64 (addS acc so).1.a, .int .i64 (addS acc so).1.b, .int .i64 (addS acc so).1.c, .int .i64 (addS acc so).1.d] 49))
                                                                                have hn8 := blk_cell HRO.out.new
                                                                                have m0 := hn8 0
                                                                                have m1 := hn8 1
                                                                                have m2 := hn8 2
                                                                                have m3 := hn8 3
                                                                                clear hn8
                                                                                obtain ⟨⟨z0, z1, z2, z3⟩, f0, f1, f2, f3⟩ := HRO.out.of'.zs
                                                                                obtain ⟨x0, x1, x2, x3⟩ := HRO.out.of'.xs
                                                                                have g0 := blk_frozen HRO.out.of'.x 0
                                                                                have g1 := blk_frozen HRO.out.of'.x 1
                                                                                have g2 := blk_frozen HRO.out.of'.x 2
                                                                                have g3 := blk_frozen HRO.out.of'.x 3
                                                                                generalize (w6.alloc (.cells #[.int .i64 (addS acc so).1.a, .int .i64 (addS acc so).1.b, .int .i64 (addS acc so).1.c, .int .i64 (addS acc so).1.d] 49)) = W8 at *
                                                                                generalize w6.heap.size = N8 at *
                                                                                rcases Bool.eq_false_or_eq_true (addS acc so).2 with hb2 | hb2
                                                                                · have HNEXT := Lib.hid (show sumAll (((xs.drop (k + 1)).filter (fun y => y.1.frame == fr)).map (fun y => y.1.vec)) (addS acc so).1 = sumAll ((xs.filter (fun y => y.1.frame == fr)).map (fun y => y.1.vec)) S4.zero by rw [← HK.out, HDROP.out, if_pos hb2])
                                                                                  have HP := Lib.hid (HRO.out.of'.put (addS acc so).1)
                                                                                  go_wp2_with fail
                                                                                  go_roundg (xs.length - (k + 1))
                                                                                  case measure => have := HLT.out; omega
                                                                                  case rel => exact ⟨k + 1, _, HLT.out, rfl, by go_num, HP, HNEXT⟩
                                                                                · have HZ := Lib.hid (show sumAll ((xs.filter (fun y => y.1.frame == fr)).map (fun y => y.1.vec)) S4.zero = S4.zero by rw [← HK.out, HDROP.out, hb2]; rfl)
                                                                                  go_wp2_with fail
                                                                                  obtain ⟨s0, s1, s2, s3, s5⟩ := HRO.out.of'.stop (.int .i64 0) (.int .i64 0) (.int .i64 0) (.int .i64 0)
                                                                                  change bodyPost _ _ _ _ _ (set4 W8 N (.int .i64 0) (.int .i64 0) (.int .i64 0) (.int .i64 0))
                                                                                  generalize set4 W8 N (.int .i64 0) (.int .i64 0) (.int .i64 0) (.int .i64 0) = W9 at *
                                                                                  refine bodyPost_ret (v := .agg #[.int .i64 0, .int .i64 0, .int .i64 0, .int .i64 0]) (by simp [results, Try.results23, go_sem, s0, s1, s2, s3]) rfl ⟨by rw [HZ.out]; rfl, s5⟩))
          | (have HRO := Lib.hid (RoN.ofSet (r := (addS acc so).1) HB6.out (by have := blk_lt HB5.out.x; omega) tb6); (change Exit.then _ _ _ _ (set4 w6 w5.heap.size (.int .i64 (addS acc so).1.a) (.int .i64 (addS acc so).1.b) (.int .i64 (addS acc so).1.c) (.int .i64 (addS acc so).1.d))
                                                                                                                       have hn8 := blk_cell HRO.out.new
                                                                                                                       have m0 := hn8 0
                                                                                                                       have m1 := hn8 1
                                                                                                                       have m2 := hn8 2
                                                                                                                       have m3 := hn8 3
                                                                                                                       clear hn8
                                                                                                                       obtain ⟨⟨z0, z1, z2, z3⟩, f0, f1, f2, f3⟩ := HRO.out.of'.zs
                                                                                                                       obtain ⟨x0, x1, x2, x3⟩ := HRO.out.of'.xs
                                                                                                                       have g0 := blk_frozen HRO.out.of'.x 0
                                                                                                                       have g1 := blk_frozen HRO.out.of'.x 1
                                                                                                                       have g2 := blk_frozen HRO.out.of'.x 2
                                                                                                                       have g3 := blk_frozen HRO.out.of'.x 3
                                                                                                                       generalize (set4 w6 w5.heap.size (.int .i64 (addS acc so).1.a) (.int .i64 (addS acc so).1.b) (.int .i64 (addS acc so).1.c) (.int .i64 (addS acc so).1.d)) = W8 at *
                                                                                                                       generalize w5.heap.size = N8 at *
                                                                                                                       rcases Bool.eq_false_or_eq_true (addS acc so).2 with hb2 | hb2
                                                                                                                       · have HNEXT := Lib.hid (show sumAll (((xs.drop (k + 1)).filter (fun y => y.1.frame == fr)).map (fun y => y.1.vec)) (addS acc so).1 = sumAll ((xs.filter (fun y => y.1.frame == fr)).map (fun y => y.1.vec)) S4.zero by rw [← HK.out, HDROP.out, if_pos hb2])
                                                                                                                         have HP := Lib.hid (HRO.out.of'.put (addS acc so).1)
                                                                                                                         go_wp2_with fail
                                                                                                                         go_roundg (xs.length - (k + 1))
                                                                                                                         case measure => have := HLT.out; omega
                                                                                                                         case rel => exact ⟨k + 1, _, HLT.out, rfl, by go_num, HP, HNEXT⟩
                                                                                                                       · have HZ := Lib.hid (show sumAll ((xs.filter (fun y => y.1.frame == fr)).map (fun y => y.1.vec)) S4.zero = S4.zero by rw [← HK.out, HDROP.out, hb2]; rfl)
                                                                                                                         go_wp2_with fail
                                                                                                                         obtain ⟨s0, s1, s2, s3, s5⟩ := HRO.out.of'.stop (.int .i64 0) (.int .i64 0) (.int .i64 0) (.int .i64 0)
                                                                                                                         change bodyPost _ _ _ _ _ (set4 W8 N (.int .i64 0) (.int .i64 0) (.int .i64 0) (.int .i64 0))
                                                                                                                         generalize set4 W8 N (.int .i64 0) (.int .i64 0) (.int .i64 0) (.int .i64 0) = W9 at *
                                                                                                                         refine bodyPost_ret (v := .agg #[.int .i64 0, .int .i64 0, .int .i64 0, .int .i64 0]) (by simp [results, Try.results23, go_sem, s0, s1, s2, s3]) rfl ⟨by rw [HZ.out]; rfl, s5⟩))
          | (have HRO := Lib.hid (RoN.ofSet (r := (addS acc so).1) HB6.out (by have := blk_lt HB.out.x; omega) tb7); (change Exit.then _ _ _ _ (set4 w6 wr.heap.size (.int .i64 (addS acc so).1.a) (.int .i64 (addS acc so).1.b) (.int .i64 (addS acc so).1.c) (.int .i64 (addS acc so).1.d))
                                                                                                                      have hn8 := blk_cell HRO.out.new
                                                                                                                      have m0 := hn8 0
                                                                                                                      have m1 := hn8 1
                                                                                                                      have m2 := hn8 2
                                                                                                                      have m3 := hn8 3
                                                                                                                      clear hn8
                                                                                                                      obtain ⟨⟨z0, z1, z2, z3⟩, f0, f1, f2, f3⟩ := HRO.out.of'.zs
                                                                                                                      obtain ⟨x0, x1, x2, x3⟩ := HRO.out.of'.xs
                                                                                                                      have g0 := blk_frozen HRO.out.of'.x 0
                                                                                                                      have g1 := blk_frozen HRO.out.of'.x 1
                                                                                                                      have g2 := blk_frozen HRO.out.of'.x 2
                                                                                                                      have g3 := blk_frozen HRO.out.of'.x 3
                                                                                                                      generalize (set4 w6 wr.heap.size (.int .i64 (addS acc so).1.a) (.int .i64 (addS acc so).1.b) (.int .i64 (addS acc so).1.c) (.int .i64 (addS acc so).1.d)) = W8 at *
                                                                                                                      generalize wr.heap.size = N8 at *
                                                                                                                      rcases Bool.eq_false_or_eq_true (addS acc so).2 with hb2 | hb2
                                                                                                                      · have HNEXT := Lib.hid (show sumAll (((xs.drop (k + 1)).filter (fun y => y.1.frame == fr)).map (fun y => y.1.vec)) (addS acc so).1 = sumAll ((xs.filter (fun y => y.1.frame == fr)).map (fun y => y.1.vec)) S4.zero by rw [← HK.out, HDROP.out, if_pos hb2])
                                                                                                                        have HP := Lib.hid (HRO.out.of'.put (addS acc so).1)
                                                                                                                        go_wp2_with fail
                                                                                                                        go_roundg (xs.length - (k + 1))
                                                                                                                        case measure => have := HLT.out; omega
                                                                                                                        case rel => exact ⟨k + 1, _, HLT.out, rfl, by go_num, HP, HNEXT⟩
                                                                                                                      · have HZ := Lib.hid (show sumAll ((xs.filter (fun y => y.1.frame == fr)).map (fun y => y.1.vec)) S4.zero = S4.zero by rw [← HK.out, HDROP.out, hb2]; rfl)
                                                                                                                        go_wp2_with fail
                                                                                                                        obtain ⟨s0, s1, s2, s3, s5⟩ := HRO.out.of'.stop (.int .i64 0) (.int .i64 0) (.int .i64 0) (.int .i64 0)
                                                                                                                        change bodyPost _ _ _ _ _ (set4 W8 N (.int .i64 0) (.int .i64 0) (.int .i64 0) (.int .i64 0))
                                                                                                                        generalize set4 W8 N (.int .i64 0) (.int .i64 0) (.int .i64 0) (.int .i64 0) = W9 at *
                                                                                                                        refine bodyPost_ret (v := .agg #[.int .i64 0, .int .i64 0, .int .i64 0, .int .i64 0]) (by simp [results, Try.results23, go_sem, s0, s1, s2, s3]) rfl ⟨by rw [HZ.out]; rfl, s5⟩))
      · have e1 : (ofr == fr) = false := by simpa using hc
        have e2 : decide (ofr = fr) = false := decide_eq_false hc
        have HNEXT := Lib.hid (show sumAll (((xs.drop (k + 1)).filter (fun y => y.1.frame == fr)).map (fun y => y.1.vec)) acc = sumAll ((xs.filter (fun y => y.1.frame == fr)).map (fun y => y.1.vec)) S4.zero by rw [← HK.out, HDR.out, List.filter_cons, if_neg (by simpa using hc)])
        clear hk hc
        go_wp2_with fail
        go_roundg (xs.length - (k + 1))
        case measure => have := HLT.out; omega
        case rel => exact ⟨k + 1, acc, HLT.out, rfl, by go_num, HB, HNEXT⟩
    · have hki : decide ((k : Int) < (xs.length : Int)) = false := decide_eq_false (by omega)
      have hfin := HK.out
      rw [List.drop_eq_nil_of_le (by omega)] at hfin
      have HZ := Lib.hid hfin.symm
      have HE := HB
      clear hk hfin HK HB
      obtain ⟨⟨z0, z1, z2, z3⟩, f0, f1, f2, f3⟩ := HE.out.zs
      obtain ⟨x0, x1, x2, x3⟩ := HE.out.xs
      go_wp2_with fail
      obtain ⟨s0, s1, s2, s3, s5⟩ := HE.out.stop (.int .i64 acc.a) (.int .i64 acc.b) (.int .i64 acc.c) (.int .i64 acc.d)
      change bodyPost _ _ _ _ _ (set4 wr N (.int .i64 acc.a) (.int .i64 acc.b) (.int .i64 acc.c) (.int .i64 acc.d))
      generalize set4 wr N (.int .i64 acc.a) (.int .i64 acc.b) (.int .i64 acc.c) (.int .i64 acc.d) = W9 at *
      refine bodyPost_ret (v := .agg #[.int .i64 acc.a, .int .i64 acc.b, .int .i64 acc.c, .int .i64 acc.d]) (by simp [results, Try.results23, go_sem, s0, s1, s2, s3]) rfl ⟨by rw [HZ.out]; rfl, s5⟩
end Go.Proofs.Ytecgfghmmlpghaa.O
