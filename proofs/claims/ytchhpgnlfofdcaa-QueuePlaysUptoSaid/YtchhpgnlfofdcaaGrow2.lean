/- Walks: grow, of a ring that has room already. -/
import Derived.Test.YtchhpgnlfofdcaaGrow
import Derived.Outline
set_option linter.unusedVariables false
set_option linter.unusedSimpArgs false
namespace Go.Proofs.Ytchhpgnlfofdcaa.Q
open Go.RowKit Go.Proofs.Ytchhpgnlfofdcaa.Hp Go.Proofs.Ytchhpgnlfofdcaa.Mp
set_option maxRecDepth 100000

/-- The row behind the two copies. -/
theorem two_splices {α : Type} (Z X1 X2 : List α) (d5 : Nat) (h1 : X1.length = d5) (h2 : d5 + X2.length ≤ Z.length) : splice (splice Z 0 X1) d5 X2 = X1 ++ (X2 ++ Z.drop (d5 + X2.length)) := by
  subst h1
  have e1 : splice Z 0 X1 = X1 ++ Z.drop X1.length := by simp [splice]
  rw [e1]
  unfold splice
  have e2 : (X1 ++ Z.drop X1.length).take X1.length = X1 := by simp
  have e3 : (X1 ++ Z.drop X1.length).drop (X1.length + X2.length) = Z.drop (X1.length + X2.length) := by
    rw [List.drop_append]; simp
  rw [e2, e3]
theorem rot_get {L X1 X2 Y : List Value} {cap frm d : Nat} (hL : L.length = cap * 5) (hd : d + frm = cap) (hd0 : 0 < d) (h1 : X1 = L.drop (frm * 5)) (h2 : X2 = L.take (frm * 5)) (i r : Nat) (hi : i < cap) (hr : r < 5) :
    (X1 ++ (X2 ++ Y))[i * 5 + r]? = L[(frm + i) % cap * 5 + r]? := by
  have l1 : X1.length = d * 5 := by rw [h1, List.length_drop]; omega
  have l2 : X2.length = frm * 5 := by rw [h2, List.length_take]; omega
  rcases Nat.lt_or_ge i d with h | h
  · rw [List.getElem?_append_left (by omega), h1, List.getElem?_drop, Nat.mod_eq_of_lt (by omega)]
    congr 1; omega
  · rw [List.getElem?_append_right (by omega), List.getElem?_append_left (by omega), h2, List.getElem?_take, if_pos (by omega)]
    have : (frm + i) % cap = i - d := by rw [show frm + i = (i - d) + cap by omega, Nat.add_mod_right, Nat.mod_eq_of_lt (by omega)]
    rw [this, l1]
    congr 1; omega
set_option maxHeartbeats 4000000 in
theorem grow_more (most : Int) (q : Qr) (cap frm n : Nat) (w : World) (h : RingAt w most q cap frm) (hcap : 0 < cap) (hfull : cap ≤ q.evs.length) (hlt : (cap : Int) < most) (hlen : q.evs.length ≤ 900)
    (hn : (most = (n : Int) ∧ n ≤ 2 * cap + 1) ∨ (n = 2 * cap + 1 ∧ (n : Int) < most)) :
    Calls Try.prog 29 #[.pointer (some ⟨q.rb, 0, none⟩), .int .i64 most] w (Grown most q w) := by
  obtain ⟨i0, hi, hz0, hz1, hz2⟩ := info_parts info28
  have hs28 : (Try.prog.info? 28).map (·.size) = some 5 := by rw [hi]; simp [hz1]
  have HR := Lib.hid h
  obtain ⟨ea, h1, ⟨h0, _⟩ | ⟨_, rfl, hfrm, hel, cur, hab, hcs, hone, hev⟩⟩ := h.blk
  · omega
  have hec : q.evs.length = cap := by omega
  rw [hec] at h1
  have H1 := Lib.hid h1
  have HA := Lib.hid hab
  have HF := Lib.hid (And.intro hfrm (And.intro hcs (And.intro hec (And.intro hcap (And.intro hlt (And.intro hlen (And.intro hone hev)))))))
  have HNN := Lib.hid hn
  have c0 : w.cell? ⟨q.rb, 0, none⟩ = some (.slice (some ⟨q.ab, 0, none⟩) cap cap) := blk_cell h1 0
  have c1 : w.cell? ⟨q.rb, 1, none⟩ = some (.int .i64 frm) := blk_cell h1 1
  have c2 : w.cell? ⟨q.rb, 2, none⟩ = some (.int .i64 cap) := blk_cell h1 2
  have hq3 : decide (most ≤ (cap : Int)) = false := decide_eq_false (by omega)
  have w1 : IntKind.i64.wrap (2 * (cap : Int)) = 2 * (cap : Int) := IntWalk.i64_in _ (by omega)
  have w2 : IntKind.i64.wrap (2 * (cap : Int) + 1) = 2 * (cap : Int) + 1 := IntWalk.i64_in _ (by omega)
  have HRL := Lib.hid (And.intro HR.out.lt_rb HR.out.lt_ab)
  have z1 : (0 : Int) ≤ (frm : Int) := by omega
  have z2 : (frm : Int) ≤ (cap : Int) := by omega
  have z5 : ¬ cap = frm := by omega
  have z6 : ¬ frm = cap := by omega
  clear h h1 hcap hfull hlt hlen hel hab hcs hone hev hec hfrm hn
  obtain ⟨X1, hX1⟩ : ∃ X1, X1 = cur.toList.drop (frm * 5) := ⟨_, rfl⟩
  obtain ⟨X2, hX2⟩ : ∃ X2, X2 = cur.toList.take (frm * 5) := ⟨_, rfl⟩
  obtain ⟨d, hd⟩ : ∃ d, d = cap - frm := ⟨_, rfl⟩
  have HD := Lib.hid (show d + frm = cap ∧ 0 < d by have := HF.out.1; omega)
  have HX1 := Lib.hid (show X1.length = d * 5 by rw [hX1, List.length_drop, Array.length_toList, HF.out.2.1]; have := HD.out.1; omega)
  have HX2 := Lib.hid (show X2.length = frm * 5 by rw [hX2, List.length_take, Array.length_toList, HF.out.2.1]; have := HF.out.1; omega)
  have hall : ∀ v ∈ cur.toList, v.oneCell' = true := fun v hv => by
    obtain ⟨i, hi, e⟩ := List.getElem_of_mem hv
    obtain ⟨u, hu, h1⟩ := HF.out.2.2.2.2.2.2.1 i (by simpa using hi)
    have : cur[i]? = some v := by rw [← Array.getElem?_toList, List.getElem?_eq_getElem hi, e]
    rw [this] at hu
    injection hu with hu
    rw [hu]; exact h1
  have HO1 := Lib.hid (show ∀ v ∈ X1, v.oneCell' = true from fun v hv => hall v (List.mem_of_mem_drop (hX1 ▸ hv)))
  have HO2 := Lib.hid (show ∀ v ∈ X2, v.oneCell' = true from fun v hv => hall v (List.mem_of_mem_take (hX2 ▸ hv)))
  have HS1 := Lib.hid (fun (W : World) (hW : W.heap[q.ab]? = some (.cells cur 28 (0, 0))) (j : Nat) (v : Value) (hj : X1[j]? = some v) => show W.cell? ((⟨q.ab, frm * 5, none⟩ : Addr).add j) = some v from by
    rw [add_flat, blk_cell hW, ← Array.getElem?_toList]
    rw [hX1, List.getElem?_drop] at hj
    exact hj)
  have HS2 := Lib.hid (fun (W : World) (hW : W.heap[q.ab]? = some (.cells cur 28 (0, 0))) (j : Nat) (v : Value) (hj : X2[j]? = some v) => show W.cell? ((⟨q.ab, 0, none⟩ : Addr).add j) = some v from by
    rw [add_flat, Nat.zero_add, blk_cell hW, ← Array.getElem?_toList]
    rw [hX2, List.getElem?_take] at hj
    split at hj
    · exact hj
    · simp at hj)
  have HX := Lib.hid (And.intro hX1 hX2)
  have HDD := Lib.hid hd
  clear hX1 hX2 hd hall
  have HN9 := Lib.hid (show n ≤ 2000 by have := HNN.out; have := HF.out.2.2.2.2.2.1; have := HF.out.2.2.1; omega)
  have HNC := Lib.hid (show cap < n by have := HNN.out; have := HF.out.2.2.2.2.1; omega)
  have HMIN := Lib.hid (show Nat.min (cap - frm) n = d by rw [← HDD.out]; exact Nat.min_eq_left (by have := HD.out; have := HNC.out; omega))
  have HMIN2 := Lib.hid (show Nat.min frm (n - d) = frm from Nat.min_eq_left (by have := HD.out; have := HNC.out; omega))
  have HFIT2 := Lib.hid (show d * 5 + X2.length ≤ (splice (madeCells #[Value.int .i64 0, .int .i64 0, .int .i64 0, .int .i64 0, .slice none 0 0] (n * 5)).toList 0 X1).toArray.size from by
    have e : (madeCells #[Value.int .i64 0, .int .i64 0, .int .i64 0, .int .i64 0, .slice none 0 0] (n * 5)).toList.length = n * 5 := by rw [Array.length_toList, size_madeCells]
    have e2 := length_splice (madeCells #[Value.int .i64 0, .int .i64 0, .int .i64 0, .int .i64 0, .slice none 0 0] (n * 5)).toList 0 X1 (by rw [e, HX1.out]; have := HD.out; have := HNC.out; omega)
    rw [List.size_toArray, e2, e, HX2.out]
    have := HD.out
    have := HNC.out
    omega)
  have hq4 : decide (n ≤ cap) = false := decide_eq_false (by have := HNC.out; omega)
  rcases HNN.out with ⟨hb1, hb2⟩ | ⟨hb1, hb2⟩
  · have z4 : most ≤ 2 * (cap : Int) + 1 := by omega
    have HCN := Lib.hid hb1
    clear hb1 hb2
    go_enter Try.func29, Try.ntmps29
    go_wp2_with fail
    go_quiet (fail)
    go_wp2_with (refine wpList_make_w _ rfl _ _ 22 rfl 28 i0 (.agg #[.int .i64 0, .int .i64 0, .int .i64 0, .int .i64 0, .slice none 0 0]) 5 56 Try.underlying22 hi hz0 hz1 hz2 .i64 .i64 _ n rfl rfl HCN.out (by have := HN9.out; omega) (by have := HN9.out; omega) ?_; intro w1 hb1 hB1; have HN1 : Hid (w1.heap[w.heap.size]? = some (.cells (madeCells #[.int .i64 0, .int .i64 0, .int .i64 0, .int .i64 0, .slice none 0 0] (n * 5)) 28 (0, 0))) := Lib.hid hb1; have HB1 : Hid (Below w.heap.size w w1) := Lib.hid ((below_drewN (Below.refl _ _) nq).trans hB1); clear hb1 hB1)
    clear c0 c1 c2
    have hrb1 := Lib.hid ((HB1.out.block q.rb HRL.out.1).trans H1.out)
    have hab1 := Lib.hid ((HB1.out.block q.ab HRL.out.2).trans HA.out)
    have c0 : w1.cell? ⟨q.rb, 0, none⟩ = some (.slice (some ⟨q.ab, 0, none⟩) cap cap) := blk_cell hrb1.out 0
    have c1 : w1.cell? ⟨q.rb, 1, none⟩ = some (.int .i64 frm) := blk_cell hrb1.out 1
    go_still_tail 10, (by kernel_rfl)
    change wpList _ _ _ _ _ w1.drew
    have HNd : Hid (w1.drew.heap[w.heap.size]? = some (.cells (madeCells #[.int .i64 0, .int .i64 0, .int .i64 0, .int .i64 0, .slice none 0 0] (n * 5)) 28 (0, 0))) := HN1
    have HBd := Lib.hid (below_drew HB1.out)
    have hrbd : Hid (w1.drew.heap[q.rb]? = _) := hrb1
    have habd : Hid (w1.drew.heap[q.ab]? = _) := hab1
    clear c0 c1 HN1 HB1 hrb1 hab1
    generalize w1.drew = wd at *
    go_wp2_with ((with_reducible refine wpList_copy_n rfl (.tmp 35) (.tmp 44) 22 22 rfl 28 5 Try.underlying22 hs28 (some ⟨w.heap.size, 0, none⟩) (some ⟨q.ab, frm * 5, none⟩) n n (cap - frm) (cap - frm) ?_ ?_ w.heap.size 0 _ 28 HNd.out d ?_ X1 HX1.out (fun h0 => ⟨rfl, _, rfl, HS1.out wd habd.out⟩) ?_ HO1.out ?_); (· rfl); (· rfl); (· exact HMIN.out); (· rw [size_madeCells, HX1.out]; have := HD.out; have := HNC.out; omega); intro w2 hb2 hc2; have HN2 := Lib.hid hb2; have HC2 := Lib.hid hc2; clear hb2 hc2)
    have hrb2 := Lib.hid (HC2.out.blk hrbd.out (fun e => by have := HRL.out.1; omega))
    have hab2 := Lib.hid (HC2.out.blk habd.out (fun e => by have := HRL.out.2; omega))
    have HB2 := Lib.hid (HBd.out.trans (HC2.out.below (fun i hi => by omega) (by have := HBd.out.size; omega)))
    have c0 : w2.cell? ⟨q.rb, 0, none⟩ = some (.slice (some ⟨q.ab, 0, none⟩) cap cap) := blk_cell hrb2.out 0
    have c1 : w2.cell? ⟨q.rb, 1, none⟩ = some (.int .i64 frm) := blk_cell hrb2.out 1
    have y1 : (0 : Int) ≤ (d : Int) := by omega
    have y2 : (d : Int) ≤ (n : Int) := by have := HD.out; have := HNC.out; omega
    have y3 : ¬ n = d := by have := HD.out; have := HNC.out; omega
    have y4 : ¬ d = n := by omega
    clear hrbd habd HNd HBd HC2
    go_still_tail 12, (by kernel_rfl)
    change wpList _ _ _ _ _ w2.drew
    have HNd : Hid (w2.drew.heap[w.heap.size]? = some (.cells (splice (madeCells #[.int .i64 0, .int .i64 0, .int .i64 0, .int .i64 0, .slice none 0 0] (n * 5)).toList 0 X1).toArray 28 (0, 0))) := HN2
    have HBd := Lib.hid (below_drew HB2.out)
    have hrbd : Hid (w2.drew.heap[q.rb]? = _) := hrb2
    have habd : Hid (w2.drew.heap[q.ab]? = _) := hab2
    clear c0 c1 HN2 HB2 hrb2 hab2
    generalize w2.drew = we at *
    go_wp2_with ((with_reducible refine wpList_copy_n rfl (.tmp 48) (.tmp 57) 22 22 rfl 28 5 Try.underlying22 hs28 (some ⟨w.heap.size, d * 5, none⟩) (some ⟨q.ab, 0, none⟩) (n - d) (n - d) frm cap ?_ ?_ w.heap.size (d * 5) _ 28 HNd.out frm HMIN2.out X2 HX2.out (fun h0 => ⟨rfl, _, rfl, HS2.out we habd.out⟩) ?_ HO2.out ?_); (· rfl); (· rfl); (· exact HFIT2.out); intro w3 hb3 hc3; have HN3 := Lib.hid hb3; have HC3 := Lib.hid hc3; clear hb3 hc3; have hrb3 := Lib.hid (HC3.out.blk hrbd.out (fun e => by have := HRL.out.1; omega)); have c0 : w3.cell? ⟨q.rb, 0, none⟩ = some (.slice (some ⟨q.ab, 0, none⟩) cap cap) := blk_cell hrb3.out 0; have c1 : w3.cell? ⟨q.rb, 1, none⟩ = some (.int .i64 frm) := blk_cell hrb3.out 1; have f0 := blk_frozen hrb3.out 0; have f1 := blk_frozen hrb3.out 1)
    have HB3 := Lib.hid (HBd.out.trans (HC3.out.below (fun i hi => by omega) (by have := HBd.out.size; omega)))
    go_end0
    have e1 := blk_set (blk_set hrb3.out 0 (.slice (some ⟨w.heap.size, 0, none⟩) n n)) 1 (.int .i64 0)
    have hne : q.rb ≠ w.heap.size := Nat.ne_of_lt HRL.out.1
    have e2 := blk_far (p := ⟨q.rb, 1, none⟩) (blk_far (p := ⟨q.rb, 0, none⟩) HN3.out (Ne.symm hne) (.slice (some ⟨w.heap.size, 0, none⟩) n n)) (Ne.symm hne) (.int .i64 0)
    have hZ : (madeCells #[Value.int .i64 0, .int .i64 0, .int .i64 0, .int .i64 0, .slice none 0 0] (n * 5)).toList.length = n * 5 := by rw [Array.length_toList, size_madeCells]
    have hsp := two_splices (madeCells #[Value.int .i64 0, .int .i64 0, .int .i64 0, .int .i64 0, .slice none 0 0] (n * 5)).toList X1 X2 (d * 5) HX1.out (by rw [hZ, HX2.out]; have := HD.out; have := HNC.out; omega)
    have hnd : n * 5 = d * 5 + frm * 5 + (n * 5 - (d * 5 + frm * 5)) := by have := HD.out; have := HNC.out; omega
    rw [hsp] at e2
    have hlenA : (X1 ++ (X2 ++ (madeCells #[Value.int .i64 0, .int .i64 0, .int .i64 0, .int .i64 0, .slice none 0 0] (n * 5)).toList.drop (d * 5 + X2.length))).length = n * 5 := by
      rw [List.length_append, List.length_append, List.length_drop, hZ, HX1.out, HX2.out]; omega
    have hkeep : ∀ (i : Nat) (cu : Array Value), w.heap[i]? = some (Obj.cells cu 71 (0, 0)) → ((w3.setCell ⟨q.rb, 0, none⟩ (.slice (some ⟨w.heap.size, 0, none⟩) n n)).setCell ⟨q.rb, 1, none⟩ (.int .i64 0)).heap[i]? = w.heap[i]? := fun i cu hcu => by
      have hir : i ≠ q.rb := fun e => HR.out.no71 i cu hcu (.inl e)
      have h3 := (HB3.out.block i (blk_lt hcu)).trans hcu
      rw [hcu]
      exact blk_far (p := ⟨q.rb, 1, none⟩) (blk_far (p := ⟨q.rb, 0, none⟩) h3 hir _) hir _
    obtain ⟨hfr, hcs, hec, hc0, hlt, hl9, hone, hev⟩ := HF.out
    refine ⟨rfl, w.heap.size, n, 0, ⟨⟨some ⟨w.heap.size, 0, none⟩, ?_, .inr ⟨by have := HNC.out; omega, rfl, by have := HNC.out; omega, by simp only [hec]; have := HNC.out; omega, _, e2, by rw [List.size_toArray, hlenA], ?_, ?_⟩⟩, ?_, by have := HN9.out; omega, HR.out.lost⟩, .inl (by rw [hec]; exact HNC.out), .inr (Nat.le_refl _), ?_⟩
    · simp only [hec]
      exact e1
    · intro i hi
      rw [List.size_toArray] at hi
      refine ⟨_, by rw [List.getElem?_toArray]; exact List.getElem?_eq_getElem hi, ?_⟩
      have hm := List.getElem_mem hi
      rcases List.mem_append.1 hm with h | h
      · exact HO1.out _ h
      · rcases List.mem_append.1 h with h | h
        · exact HO2.out _ h
        · have h := List.mem_of_mem_drop h
          obtain ⟨k, hk, e⟩ := List.getElem_of_mem h
          obtain ⟨u, hu, ho⟩ := made_one (n * 5) k (by rwa [hZ] at hk)
          rw [← Array.getElem?_toList, List.getElem?_eq_getElem hk, e] at hu
          injection hu with hu
          rw [hu]; exact ho
    · intro i hi
      simp only at hi
      obtain ⟨va, vc, g1, g2⟩ := hev i hi
      refine ⟨va, vc, fun r u hu => ?_, g2.keep hkeep⟩
      have hr : r < 5 := by
        rcases Nat.lt_or_ge r 5 with h | h
        · exact h
        · rw [List.getElem?_eq_none (by simpa [cellsE] using h)] at hu; simp at hu
      have := g1 r u hu
      rw [Nat.zero_add, Nat.mod_eq_of_lt (by have := HNC.out; omega), List.getElem?_toArray, rot_get (L := cur.toList) (by rw [Array.length_toList, hcs]) HD.out.1 HD.out.2 HX.out.1 HX.out.2 i r (by omega) hr, Array.getElem?_toList]
      exact this
    · first | (rw [HCN.out]; omega) | (have := HCN.out; omega)
    · exact ((((Chg.of_below HB3.out (fun i => i = q.rb))).setCell (.inl rfl) _).setCell (.inl rfl) _)
  · have HCN := Lib.hid (show 2 * (cap : Int) + 1 = (n : Int) by omega)
    have z4 : 2 * (cap : Int) + 1 < most := by omega
    clear hb1 hb2
    go_enter Try.func29, Try.ntmps29
    go_wp2_with fail
    go_quiet (fail)
    go_wp2_with (refine wpList_make_w _ rfl _ _ 22 rfl 28 i0 (.agg #[.int .i64 0, .int .i64 0, .int .i64 0, .int .i64 0, .slice none 0 0]) 5 56 Try.underlying22 hi hz0 hz1 hz2 .i64 .i64 _ n rfl rfl HCN.out (by have := HN9.out; omega) (by have := HN9.out; omega) ?_; intro w1 hb1 hB1; have HN1 : Hid (w1.heap[w.heap.size]? = some (.cells (madeCells #[.int .i64 0, .int .i64 0, .int .i64 0, .int .i64 0, .slice none 0 0] (n * 5)) 28 (0, 0))) := Lib.hid hb1; have HB1 : Hid (Below w.heap.size w w1) := Lib.hid ((below_drewN (Below.refl _ _) nq).trans hB1); clear hb1 hB1)
    clear c0 c1 c2
    have hrb1 := Lib.hid ((HB1.out.block q.rb HRL.out.1).trans H1.out)
    have hab1 := Lib.hid ((HB1.out.block q.ab HRL.out.2).trans HA.out)
    have c0 : w1.cell? ⟨q.rb, 0, none⟩ = some (.slice (some ⟨q.ab, 0, none⟩) cap cap) := blk_cell hrb1.out 0
    have c1 : w1.cell? ⟨q.rb, 1, none⟩ = some (.int .i64 frm) := blk_cell hrb1.out 1
    go_still_tail 10, (by kernel_rfl)
    change wpList _ _ _ _ _ w1.drew
    have HNd : Hid (w1.drew.heap[w.heap.size]? = some (.cells (madeCells #[.int .i64 0, .int .i64 0, .int .i64 0, .int .i64 0, .slice none 0 0] (n * 5)) 28 (0, 0))) := HN1
    have HBd := Lib.hid (below_drew HB1.out)
    have hrbd : Hid (w1.drew.heap[q.rb]? = _) := hrb1
    have habd : Hid (w1.drew.heap[q.ab]? = _) := hab1
    clear c0 c1 HN1 HB1 hrb1 hab1
    generalize w1.drew = wd at *
    go_wp2_with ((with_reducible refine wpList_copy_n rfl (.tmp 35) (.tmp 44) 22 22 rfl 28 5 Try.underlying22 hs28 (some ⟨w.heap.size, 0, none⟩) (some ⟨q.ab, frm * 5, none⟩) n n (cap - frm) (cap - frm) ?_ ?_ w.heap.size 0 _ 28 HNd.out d ?_ X1 HX1.out (fun h0 => ⟨rfl, _, rfl, HS1.out wd habd.out⟩) ?_ HO1.out ?_); (· rfl); (· rfl); (· exact HMIN.out); (· rw [size_madeCells, HX1.out]; have := HD.out; have := HNC.out; omega); intro w2 hb2 hc2; have HN2 := Lib.hid hb2; have HC2 := Lib.hid hc2; clear hb2 hc2)
    have hrb2 := Lib.hid (HC2.out.blk hrbd.out (fun e => by have := HRL.out.1; omega))
    have hab2 := Lib.hid (HC2.out.blk habd.out (fun e => by have := HRL.out.2; omega))
    have HB2 := Lib.hid (HBd.out.trans (HC2.out.below (fun i hi => by omega) (by have := HBd.out.size; omega)))
    have c0 : w2.cell? ⟨q.rb, 0, none⟩ = some (.slice (some ⟨q.ab, 0, none⟩) cap cap) := blk_cell hrb2.out 0
    have c1 : w2.cell? ⟨q.rb, 1, none⟩ = some (.int .i64 frm) := blk_cell hrb2.out 1
    have y1 : (0 : Int) ≤ (d : Int) := by omega
    have y2 : (d : Int) ≤ (n : Int) := by have := HD.out; have := HNC.out; omega
    have y3 : ¬ n = d := by have := HD.out; have := HNC.out; omega
    have y4 : ¬ d = n := by omega
    clear hrbd habd HNd HBd HC2
    go_still_tail 12, (by kernel_rfl)
    change wpList _ _ _ _ _ w2.drew
    have HNd : Hid (w2.drew.heap[w.heap.size]? = some (.cells (splice (madeCells #[.int .i64 0, .int .i64 0, .int .i64 0, .int .i64 0, .slice none 0 0] (n * 5)).toList 0 X1).toArray 28 (0, 0))) := HN2
    have HBd := Lib.hid (below_drew HB2.out)
    have hrbd : Hid (w2.drew.heap[q.rb]? = _) := hrb2
    have habd : Hid (w2.drew.heap[q.ab]? = _) := hab2
    clear c0 c1 HN2 HB2 hrb2 hab2
    generalize w2.drew = we at *
    go_wp2_with ((with_reducible refine wpList_copy_n rfl (.tmp 48) (.tmp 57) 22 22 rfl 28 5 Try.underlying22 hs28 (some ⟨w.heap.size, d * 5, none⟩) (some ⟨q.ab, 0, none⟩) (n - d) (n - d) frm cap ?_ ?_ w.heap.size (d * 5) _ 28 HNd.out frm HMIN2.out X2 HX2.out (fun h0 => ⟨rfl, _, rfl, HS2.out we habd.out⟩) ?_ HO2.out ?_); (· rfl); (· rfl); (· exact HFIT2.out); intro w3 hb3 hc3; have HN3 := Lib.hid hb3; have HC3 := Lib.hid hc3; clear hb3 hc3; have hrb3 := Lib.hid (HC3.out.blk hrbd.out (fun e => by have := HRL.out.1; omega)); have c0 : w3.cell? ⟨q.rb, 0, none⟩ = some (.slice (some ⟨q.ab, 0, none⟩) cap cap) := blk_cell hrb3.out 0; have c1 : w3.cell? ⟨q.rb, 1, none⟩ = some (.int .i64 frm) := blk_cell hrb3.out 1; have f0 := blk_frozen hrb3.out 0; have f1 := blk_frozen hrb3.out 1)
    have HB3 := Lib.hid (HBd.out.trans (HC3.out.below (fun i hi => by omega) (by have := HBd.out.size; omega)))
    go_end0
    have e1 := blk_set (blk_set hrb3.out 0 (.slice (some ⟨w.heap.size, 0, none⟩) n n)) 1 (.int .i64 0)
    have hne : q.rb ≠ w.heap.size := Nat.ne_of_lt HRL.out.1
    have e2 := blk_far (p := ⟨q.rb, 1, none⟩) (blk_far (p := ⟨q.rb, 0, none⟩) HN3.out (Ne.symm hne) (.slice (some ⟨w.heap.size, 0, none⟩) n n)) (Ne.symm hne) (.int .i64 0)
    have hZ : (madeCells #[Value.int .i64 0, .int .i64 0, .int .i64 0, .int .i64 0, .slice none 0 0] (n * 5)).toList.length = n * 5 := by rw [Array.length_toList, size_madeCells]
    have hsp := two_splices (madeCells #[Value.int .i64 0, .int .i64 0, .int .i64 0, .int .i64 0, .slice none 0 0] (n * 5)).toList X1 X2 (d * 5) HX1.out (by rw [hZ, HX2.out]; have := HD.out; have := HNC.out; omega)
    have hnd : n * 5 = d * 5 + frm * 5 + (n * 5 - (d * 5 + frm * 5)) := by have := HD.out; have := HNC.out; omega
    rw [hsp] at e2
    have hlenA : (X1 ++ (X2 ++ (madeCells #[Value.int .i64 0, .int .i64 0, .int .i64 0, .int .i64 0, .slice none 0 0] (n * 5)).toList.drop (d * 5 + X2.length))).length = n * 5 := by
      rw [List.length_append, List.length_append, List.length_drop, hZ, HX1.out, HX2.out]; omega
    have hkeep : ∀ (i : Nat) (cu : Array Value), w.heap[i]? = some (Obj.cells cu 71 (0, 0)) → ((w3.setCell ⟨q.rb, 0, none⟩ (.slice (some ⟨w.heap.size, 0, none⟩) n n)).setCell ⟨q.rb, 1, none⟩ (.int .i64 0)).heap[i]? = w.heap[i]? := fun i cu hcu => by
      have hir : i ≠ q.rb := fun e => HR.out.no71 i cu hcu (.inl e)
      have h3 := (HB3.out.block i (blk_lt hcu)).trans hcu
      rw [hcu]
      exact blk_far (p := ⟨q.rb, 1, none⟩) (blk_far (p := ⟨q.rb, 0, none⟩) h3 hir _) hir _
    obtain ⟨hfr, hcs, hec, hc0, hlt, hl9, hone, hev⟩ := HF.out
    refine ⟨rfl, w.heap.size, n, 0, ⟨⟨some ⟨w.heap.size, 0, none⟩, ?_, .inr ⟨by have := HNC.out; omega, rfl, by have := HNC.out; omega, by simp only [hec]; have := HNC.out; omega, _, e2, by rw [List.size_toArray, hlenA], ?_, ?_⟩⟩, ?_, by have := HN9.out; omega, HR.out.lost⟩, .inl (by rw [hec]; exact HNC.out), .inr (Nat.le_refl _), ?_⟩
    · simp only [hec]
      exact e1
    · intro i hi
      rw [List.size_toArray] at hi
      refine ⟨_, by rw [List.getElem?_toArray]; exact List.getElem?_eq_getElem hi, ?_⟩
      have hm := List.getElem_mem hi
      rcases List.mem_append.1 hm with h | h
      · exact HO1.out _ h
      · rcases List.mem_append.1 h with h | h
        · exact HO2.out _ h
        · have h := List.mem_of_mem_drop h
          obtain ⟨k, hk, e⟩ := List.getElem_of_mem h
          obtain ⟨u, hu, ho⟩ := made_one (n * 5) k (by rwa [hZ] at hk)
          rw [← Array.getElem?_toList, List.getElem?_eq_getElem hk, e] at hu
          injection hu with hu
          rw [hu]; exact ho
    · intro i hi
      simp only at hi
      obtain ⟨va, vc, g1, g2⟩ := hev i hi
      refine ⟨va, vc, fun r u hu => ?_, g2.keep hkeep⟩
      have hr : r < 5 := by
        rcases Nat.lt_or_ge r 5 with h | h
        · exact h
        · rw [List.getElem?_eq_none (by simpa [cellsE] using h)] at hu; simp at hu
      have := g1 r u hu
      rw [Nat.zero_add, Nat.mod_eq_of_lt (by have := HNC.out; omega), List.getElem?_toArray, rot_get (L := cur.toList) (by rw [Array.length_toList, hcs]) HD.out.1 HD.out.2 HX.out.1 HX.out.2 i r (by omega) hr, Array.getElem?_toList]
      exact this
    · first | (rw [HCN.out]; omega) | (have := HCN.out; omega)
    · exact ((((Chg.of_below HB3.out (fun i => i = q.rb))).setCell (.inl rfl) _).setCell (.inl rfl) _)
end Go.Proofs.Ytchhpgnlfofdcaa.Q
