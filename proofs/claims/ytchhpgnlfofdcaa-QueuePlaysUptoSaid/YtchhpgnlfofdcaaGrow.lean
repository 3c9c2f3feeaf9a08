/- Walks: grow. -/
import Derived.Test.YtchhpgnlfofdcaaWalk2
import Derived.StillTailTactics
import Derived.IntWalk
import Derived.Outline
set_option linter.unusedVariables false
set_option linter.unusedSimpArgs false
namespace Go.Proofs.Ytchhpgnlfofdcaa.Q
open Go.RowKit Go.Proofs.Ytchhpgnlfofdcaa.Hp Go.Proofs.Ytchhpgnlfofdcaa.Mp
set_option maxRecDepth 100000

/-- What grow leaves. -/
def Grown (most : Int) (q : Qr) (w : World) (e : Ending) (w' : World) : Prop := e = .returned (.tuple #[]) ∧ ∃ ab' cap' frm', RingAt w' most { q with ab := ab' } cap' frm' ∧ (q.evs.length < cap' ∨ most ≤ (cap' : Int)) ∧ (ab' = q.ab ∨ w.heap.size ≤ ab') ∧ Chg (fun i => i = q.rb) w w'
theorem RingAt.drewN {w : World} {most : Int} {q : Qr} {cap frm : Nat} (h : RingAt w most q cap frm) (n : Nat) : RingAt (w.drewN n) most q cap frm := h.keep (fun _ _ => rfl) (fun _ _ _ => rfl)

set_option maxHeartbeats 1000000 in
theorem grow_room (most : Int) (q : Qr) (cap frm : Nat) (w : World) (h : RingAt w most q cap frm) (hlt : q.evs.length < cap) :
    Calls Try.prog 29 #[.pointer (some ⟨q.rb, 0, none⟩), .int .i64 most] w (Grown most q w) := by
  have HR := Lib.hid h
  obtain ⟨ea, h1, _⟩ := h.blk
  have c0 : w.cell? ⟨q.rb, 0, none⟩ = some (.slice ea cap cap) := blk_cell h1 0
  have c2 : w.cell? ⟨q.rb, 2, none⟩ = some (.int .i64 q.evs.length) := blk_cell h1 2
  have HLT := Lib.hid hlt
  have hq : decide ((q.evs.length : Int) < (cap : Int)) = true := decide_eq_true (by omega)
  have hq2 : decide (q.evs.length < cap) = true := decide_eq_true hlt
  clear h h1
  go_enter Try.func29, Try.ntmps29
  go_wp2_with fail
  go_quiet (fail)
  go_wp2
  go_end0
  exact ⟨rfl, q.ab, cap, frm, HR.out.drewN nq, .inl HLT.out, .inl rfl, (Chg.refl _ w).drewN nq⟩
set_option maxHeartbeats 1000000 in
theorem grow_full (most : Int) (q : Qr) (cap frm : Nat) (w : World) (h : RingAt w most q cap frm) (hge : cap ≤ q.evs.length) (hm : most ≤ (cap : Int)) :
    Calls Try.prog 29 #[.pointer (some ⟨q.rb, 0, none⟩), .int .i64 most] w (Grown most q w) := by
  have HR := Lib.hid h
  obtain ⟨ea, h1, _⟩ := h.blk
  have c0 : w.cell? ⟨q.rb, 0, none⟩ = some (.slice ea cap cap) := blk_cell h1 0
  have c2 : w.cell? ⟨q.rb, 2, none⟩ = some (.int .i64 q.evs.length) := blk_cell h1 2
  have HM := Lib.hid hm
  have hq : decide ((q.evs.length : Int) < (cap : Int)) = false := decide_eq_false (by omega)
  have hq2 : decide (q.evs.length < cap) = false := decide_eq_false (by omega)
  have hq3 : decide (most ≤ (cap : Int)) = true := decide_eq_true hm
  clear h h1 hm hge
  go_enter Try.func29, Try.ntmps29
  go_wp2_with fail
  go_quiet (fail)
  go_wp2
  go_end0
  exact ⟨rfl, q.ab, cap, frm, HR.out.drewN nq, .inr HM.out, .inl rfl, (Chg.refl _ w).drewN nq⟩

theorem splice_nil {α : Type} (L : List α) (o : Nat) : splice L o [] = L := by simp [splice]
theorem made_one (n : Nat) (i : Nat) (hi : i < n) : ∃ u, (madeCells #[.int .i64 0, .int .i64 0, .int .i64 0, .int .i64 0, .slice none 0 0] n)[i]? = some u ∧ u.oneCell' = true := by
  refine ⟨_, madeCells_get _ n i hi, ?_⟩
  have : i % 5 < 5 := Nat.mod_lt _ (by omega)
  show (#[Value.int .i64 0, .int .i64 0, .int .i64 0, .int .i64 0, .slice none 0 0][i % 5]!).oneCell' = true
  generalize i % 5 = r at *
  match r, this with
  | 0, _ => rfl
  | 1, _ => rfl
  | 2, _ => rfl
  | 3, _ => rfl
  | 4, _ => rfl
set_option maxHeartbeats 2000000 in
theorem grow_first (most : Int) (q : Qr) (w : World) (frm : Nat) (h : RingAt w most q 0 frm) (hm : 1 ≤ most) :
    Calls Try.prog 29 #[.pointer (some ⟨q.rb, 0, none⟩), .int .i64 most] w (Grown most q w) := by
  obtain ⟨i0, hi, hz0, hz1, hz2⟩ := info_parts info28
  have hs28 : (Try.prog.info? 28).map (·.size) = some 5 := by rw [hi]; simp [hz1]
  have HR := Lib.hid h
  obtain ⟨ea, h1, ⟨_, rfl, hab, rfl, hev⟩ | ⟨h0, _⟩⟩ := h.blk
  · rw [hev] at h1
    have H1 := Lib.hid h1
    have HEV := Lib.hid hev
    have HM := Lib.hid hm
    have c0 : w.cell? ⟨q.rb, 0, none⟩ = some (.slice none 0 0) := blk_cell h1 0
    have c1 : w.cell? ⟨q.rb, 1, none⟩ = some (.int .i64 0) := blk_cell h1 1
    have c2 : w.cell? ⟨q.rb, 2, none⟩ = some (.int .i64 0) := blk_cell h1 2
    have hq3 : decide (most ≤ (0 : Int)) = false := decide_eq_false (by omega)
    clear h h1 hab hev
    have hsel : most = 1 ∨ 1 < most := by omega
    rcases hsel with rfl | hsel
    all_goals
      go_enter Try.func29, Try.ntmps29
      go_wp2_with fail
      go_quiet (fail)
      go_wp2_with (refine wpList_make_w _ rfl _ _ 22 rfl 28 i0 (.agg #[.int .i64 0, .int .i64 0, .int .i64 0, .int .i64 0, .slice none 0 0]) 5 56 Try.underlying22 hi hz0 hz1 hz2 .i64 .i64 _ 1 rfl rfl rfl (by omega) (by omega) ?_; intro w1 hb1 hB1; have HN1 : Hid (w1.heap[w.heap.size]? = some (.cells (madeCells #[.int .i64 0, .int .i64 0, .int .i64 0, .int .i64 0, .slice none 0 0] 5) 28 (0, 0))) := Lib.hid hb1; have HB1 : Hid (Below w.heap.size w w1) := Lib.hid ((below_drewN (Below.refl _ _) nq).trans hB1); clear hb1 hB1)
      clear c0 c1 c2
      have hrb1 := Lib.hid ((HB1.out.block q.rb HR.out.lt_rb).trans H1.out)
      have HRL := Lib.hid HR.out.lt_rb
      have c0 : w1.cell? ⟨q.rb, 0, none⟩ = some (.slice none 0 0) := blk_cell hrb1.out 0
      have c1 : w1.cell? ⟨q.rb, 1, none⟩ = some (.int .i64 0) := blk_cell hrb1.out 1
      go_still_tail 10, (by kernel_rfl)
      change wpList _ _ _ _ _ w1.drew
      have HNd : Hid (w1.drew.heap[w.heap.size]? = some (.cells (madeCells #[.int .i64 0, .int .i64 0, .int .i64 0, .int .i64 0, .slice none 0 0] 5) 28 (0, 0))) := HN1
      have HBd := Lib.hid (below_drew HB1.out)
      have hrbd : Hid (w1.drew.heap[q.rb]? = _) := hrb1
      clear c0 c1 HN1 HB1 hrb1
      generalize w1.drew = wd at *
      go_wp2_with ((with_reducible refine wpList_copy_n rfl (.tmp 35) (.tmp 44) 22 22 rfl 28 5 Try.underlying22 hs28 (some ⟨w.heap.size, 0, none⟩) none 1 1 0 0 ?_ ?_ w.heap.size 0 _ 28 HNd.out 0 rfl [] rfl (fun h0 => absurd h0 (by omega)) (by simp) (by simp) ?_); (· rfl); (· rfl); intro w2 hb2 hc2; have HN2 := Lib.hid hb2; have HC2 := Lib.hid hc2; clear hb2 hc2)
      rw [splice_nil, Array.toArray_toList] at HN2
      have hrb2 := Lib.hid (HC2.out.blk hrbd.out (fun e => by have := HRL.out; omega))
      have HB2 := Lib.hid (HBd.out.trans (HC2.out.below (fun i hi => by omega) (by have := HBd.out.size; omega)))
      have c0 : w2.cell? ⟨q.rb, 0, none⟩ = some (.slice none 0 0) := blk_cell hrb2.out 0
      have c1 : w2.cell? ⟨q.rb, 1, none⟩ = some (.int .i64 0) := blk_cell hrb2.out 1
      clear hrbd HNd HBd HC2
      go_still_tail 12, (by kernel_rfl)
      change wpList _ _ _ _ _ w2.drew
      have HNd : Hid (w2.drew.heap[w.heap.size]? = some (.cells (madeCells #[.int .i64 0, .int .i64 0, .int .i64 0, .int .i64 0, .slice none 0 0] 5) 28 (0, 0))) := HN2
      have HBd := Lib.hid (below_drew HB2.out)
      have hrbd : Hid (w2.drew.heap[q.rb]? = _) := hrb2
      clear c0 c1 HN2 HB2 hrb2
      generalize w2.drew = we at *
      go_wp2_with ((with_reducible refine wpList_copy_n rfl (.tmp 48) (.tmp 57) 22 22 rfl 28 5 Try.underlying22 hs28 (some ⟨w.heap.size, 0, none⟩) none 1 1 0 0 ?_ ?_ w.heap.size 0 _ 28 HNd.out 0 rfl [] rfl (fun h0 => absurd h0 (by omega)) (by simp) (by simp) ?_); (· rfl); (· rfl); intro w3 hb3 hc3; have HN3 := Lib.hid hb3; have HC3 := Lib.hid hc3; clear hb3 hc3; have hrb3 := Lib.hid (HC3.out.blk hrbd.out (fun e => by have := HRL.out; omega)); have c0 : w3.cell? ⟨q.rb, 0, none⟩ = some (.slice none 0 0) := blk_cell hrb3.out 0; have c1 : w3.cell? ⟨q.rb, 1, none⟩ = some (.int .i64 0) := blk_cell hrb3.out 1; have f0 := blk_frozen hrb3.out 0; have f1 := blk_frozen hrb3.out 1)
      rw [splice_nil, Array.toArray_toList] at HN3
      have HB3 := Lib.hid (HBd.out.trans (HC3.out.below (fun i hi => by omega) (by have := HBd.out.size; omega)))
      go_end0
      have e1 := blk_set (blk_set hrb3.out 0 (.slice (some ⟨w.heap.size, 0, none⟩) 1 1)) 1 (.int .i64 0)
      have hne : q.rb ≠ w.heap.size := Nat.ne_of_lt HRL.out
      have e2 := blk_far (p := ⟨q.rb, 1, none⟩) (blk_far (p := ⟨q.rb, 0, none⟩) HN3.out (Ne.symm hne) (.slice (some ⟨w.heap.size, 0, none⟩) 1 1)) (Ne.symm hne) (.int .i64 0)
      refine ⟨rfl, w.heap.size, 1, 0, ⟨⟨some ⟨w.heap.size, 0, none⟩, ?_, .inr ⟨by omega, rfl, by omega, by simp [HEV.out], _, e2, size_madeCells _ _, fun i hi => made_one 5 i (by rwa [size_madeCells] at hi), fun i hi => by simp [HEV.out] at hi⟩⟩, by have := HM.out; omega, by omega, HR.out.lost⟩, .inl (by simp [HEV.out]), .inr (Nat.le_refl _), ?_⟩
      · simp only [HEV.out, List.length_nil]
        exact e1
      · exact ((((Chg.of_below HB3.out (fun i => i = q.rb))).setCell (.inl rfl) _).setCell (.inl rfl) _)
  · omega
end Go.Proofs.Ytchhpgnlfofdcaa.Q
