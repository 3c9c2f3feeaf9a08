/- The reference's with. -/
import Derived.Test.YtchhpgnlfofdcaaRqAt
import Derived.Deep.RegionHeld3
import Derived.Deep.AppendLies
import Derived.Deep.RegionLaw
set_option linter.unusedVariables false
set_option linter.unusedSimpArgs false
namespace Go.Proofs.Ytchhpgnlfofdcaa.Q
open Go.RowKit Go.Proofs.Ytchhpgnlfofdcaa.Hp Go.Proofs.Ytchhpgnlfofdcaa.Mp
set_option maxRecDepth 100000

def keyO (x : Oe) : Int := x.1.frame
theorem keyO_eq (x : Oe) : keyO x = x.1.frame := rfl
/-- Where with is: what lies in its blocks, N the first of them. -/
structure WSt (w wr : World) (N : Nat) (most : Int) (sl : Value) (f : Oe) (acc : List Oe) (v : Value) : Prop where
  box : wr.heap[N]? = some (.cells #[.int .i64 most, sl] 46 (0, 0))
  fb : wr.heap[N + 1]? = some (.cells (cellsO f) 52 (0, 0))
  res : wr.heap[N + 2]? = some (.cells #[.int .i64 0, .slice none 0 0] 46 (0, 0))
  out : wr.heap[N + 3]? = some (.cells #[.int .i64 most, v] 46 (0, 0))
  own : wr.ownsRow (N + 4) 52 3 v acc.length (flatO acc)
  chg : Below N w wr
section
variable {w wr w1 : World} {N : Nat} {most : Int} {sl v v' : Value} {f x : Oe} {acc : List Oe}
theorem WSt.lt (h : WSt w wr N most sl f acc v) : N + 4 ≤ wr.heap.size := blk_lt h.out
theorem WSt.drew (h : WSt w wr N most sl f acc v) : WSt w wr.drew N most sl f acc v := ⟨h.box, h.fb, h.res, h.out, h.own, ⟨h.chg.os, h.chg.tape, h.chg.output, h.chg.size, h.chg.block⟩⟩
theorem WSt.drewN (h : WSt w wr N most sl f acc v) (n : Nat) : WSt w (wr.drewN n) N most sl f acc v := ⟨h.box, h.fb, h.res, h.out, h.own, below_drewN h.chg n⟩
theorem WSt.alloc (h : WSt w wr N most sl f acc v) (o : Obj) : WSt w (wr.alloc o) N most sl f acc v :=
  ⟨blk_alloc h.box, blk_alloc h.fb, blk_alloc h.res, blk_alloc h.out, h.own.alloc _, h.chg.alloc (by have := h.lt; omega) _⟩
theorem row_far {base : Nat} {e : TypeId} {size n : Nat} {xs : List Value} (h : w.ownsRow base e size v n xs) {p : Addr} (hp : p.block < base) (u : Value) : (w.setCell p u).ownsRow base e size v n xs :=
  ⟨h.1, h.2.imp id fun ⟨g, cap, cur, e1, e2, e3, e4⟩ => ⟨g, cap, cur, e1, e2, blk_far e3 (by omega) u, e4⟩⟩
/-- Behind an append and its store. -/
theorem WSt.append (h : WSt w wr N most sl f acc v) (hg : wr.grownBy w1 v.ownBlock) (ho : w1.ownsRow (N + 4) 52 3 v' (acc.length + 1) (flatO acc ++ flatO [x])) : WSt w (w1.setCell ⟨N + 3, 1, none⟩ v') N most sl f (acc ++ [x]) v' := by
  have hl := h.lt
  have key : ∀ j o, j < N + 4 → wr.heap[j]? = some o → w1.heap[j]? = some o := fun j o hj ho => (hg.block j (by omega) (fun e => by have := row_own h.own e; omega)).trans ho
  have e3 := blk_set (key _ _ (by omega) h.out) 1 v'
  refine ⟨blk_far (key _ _ (by omega) h.box) (by simp) _, blk_far (key _ _ (by omega) h.fb) (by simp) _, blk_far (key _ _ (by omega) h.res) (by simp) _, e3, ?_, ?_⟩
  · rw [List.length_append, flatO_append]
    exact row_far ho (by simp) _
  · exact (h.chg.grown hg (by omega) (fun j hj => by have := row_own h.own hj.symm; omega)).setCell (by simp) _
theorem WSt.after (h : WSt w wr N most sl f acc v) (hg : wr.grownBy w1 v.ownBlock) : w1.cell? ⟨N + 1 + 1 + 1, 1, none⟩ = some v ∧ w1.frozen? ⟨N + 1 + 1 + 1, 1, none⟩ = false := by
  have hl := h.lt
  have e := (hg.block (N + 3) (by omega) (fun e => by have := row_own h.own e; omega)).trans h.out
  exact ⟨blk_cell e 1, blk_frozen e 1⟩
theorem WSt.stop (h : WSt w wr N most sl f acc v) : ((wr.setCell ⟨N + 1 + 1, 0, none⟩ (.int .i64 most)).setCell ⟨N + 1 + 1, 1, none⟩ v).cell? ⟨N + 1 + 1, 0, none⟩ = some (.int .i64 most) ∧ ((wr.setCell ⟨N + 1 + 1, 0, none⟩ (.int .i64 most)).setCell ⟨N + 1 + 1, 1, none⟩ v).cell? ⟨N + 1 + 1, 1, none⟩ = some v ∧
    ((wr.setCell ⟨N + 1 + 1, 0, none⟩ (.int .i64 most)).setCell ⟨N + 1 + 1, 1, none⟩ v).ownsRow N 52 3 v acc.length (flatO acc) ∧ Below N w ((wr.setCell ⟨N + 1 + 1, 0, none⟩ (.int .i64 most)).setCell ⟨N + 1 + 1, 1, none⟩ v) := by
  have e1 := blk_set (blk_set h.res 0 (.int .i64 most)) 1 v
  exact ⟨blk_cell e1 0, blk_cell e1 1, row_base (row_far (row_far h.own (by simp) _) (by simp) _) (by omega), (h.chg.setCell (by simp; omega) _).setCell (by simp; omega) _⟩
theorem WSt.atOut0 (h : WSt w wr N most sl f acc v) : wr.cell? ⟨N + 1 + 1 + 1, 0, none⟩ = some (.int .i64 most) := blk_cell h.out 0
theorem WSt.atRes (h : WSt w wr N most sl f acc v) : wr.cell? ⟨N + 1 + 1, 0, none⟩ = some (.int .i64 0) ∧ wr.cell? ⟨N + 1 + 1, 1, none⟩ = some (.slice none 0 0) ∧ wr.frozen? ⟨N + 1 + 1, 0, none⟩ = false ∧ wr.frozen? ⟨N + 1 + 1, 1, none⟩ = false := ⟨blk_cell h.res 0, blk_cell h.res 1, blk_frozen h.res 0, blk_frozen h.res 1⟩
theorem WSt.atOut (h : WSt w wr N most sl f acc v) : wr.cell? ⟨N + 1 + 1 + 1, 1, none⟩ = some v := blk_cell h.out 1
theorem WSt.atBox (h : WSt w wr N most sl f acc v) : wr.cell? ⟨N, 1, none⟩ = some sl := blk_cell h.box 1
theorem WSt.atF (h : WSt w wr N most sl f acc v) : wr.cell? ⟨N + 1, 0, none⟩ = some (.int .i64 f.1.frame) := blk_cell h.fb 0
theorem WSt.atFs (h : WSt w wr N most sl f acc v) : wr.cell? ⟨N + 1, 0, none⟩ = some (.int .i64 f.1.frame) ∧ wr.cell? ⟨N + 1, 1, none⟩ = some (.slice f.2.1 f.1.evs.length f.2.2) ∧ wr.cell? ⟨N + 1, 2, none⟩ = some (.int .i64 f.1.lost) := ⟨blk_cell h.fb 0, blk_cell h.fb 1, blk_cell h.fb 2⟩
end
theorem row_slice {w : World} {B : Nat} {e : TypeId} {size : Nat} {v : Value} {n : Nat} {xs : List Value} (h : w.ownsRow B e size v n xs) : ∃ fa fc, v = .slice fa n fc := by
  rcases h.2 with ⟨rfl, h0⟩ | ⟨g, cap, cur, rfl, _⟩
  · exact ⟨none, 0, by rw [h0]⟩
  · exact ⟨_, _, rfl⟩
theorem WSt.start (w : World) (most : Int) (sl : Value) (f : Oe) : WSt w ((((w.alloc (.cells #[.int .i64 most, sl] 46)).alloc (.cells #[.int .i64 f.1.frame, .slice f.2.1 f.1.evs.length f.2.2, .int .i64 f.1.lost] 52)).alloc (.cells #[.int .i64 0, .slice none 0 0] 46)).alloc (.cells #[.int .i64 most, .slice none 0 0] 46)) w.heap.size most sl f [] (.slice none 0 0) := by
  have b0 := blk_new w (.cells #[.int .i64 most, sl] 46)
  have hB := (Below.refl _ w).alloc (Nat.le_refl _) (.cells #[.int .i64 most, sl] 46)
  have s1 : (w.alloc (.cells #[.int .i64 most, sl] 46)).heap.size = w.heap.size + 1 := by simp
  generalize w.alloc (.cells #[.int .i64 most, sl] 46) = w1 at *
  have b1 := blk_new w1 (.cells #[.int .i64 f.1.frame, .slice f.2.1 f.1.evs.length f.2.2, .int .i64 f.1.lost] 52)
  have hB2 := hB.alloc (by omega) (.cells #[.int .i64 f.1.frame, .slice f.2.1 f.1.evs.length f.2.2, .int .i64 f.1.lost] 52)
  have b0 := blk_alloc (o' := .cells #[.int .i64 f.1.frame, .slice f.2.1 f.1.evs.length f.2.2, .int .i64 f.1.lost] 52) b0
  have s2 : (w1.alloc (.cells #[.int .i64 f.1.frame, .slice f.2.1 f.1.evs.length f.2.2, .int .i64 f.1.lost] 52)).heap.size = w.heap.size + 2 := by simp; omega
  rw [s1] at b1
  generalize w1.alloc (.cells #[.int .i64 f.1.frame, .slice f.2.1 f.1.evs.length f.2.2, .int .i64 f.1.lost] 52) = w2 at *
  have b2 := blk_new w2 (.cells #[.int .i64 0, .slice none 0 0] 46)
  have hB3 := hB2.alloc (by omega) (.cells #[.int .i64 0, .slice none 0 0] 46)
  have b0 := blk_alloc (o' := .cells #[.int .i64 0, .slice none 0 0] 46) b0
  have b1 := blk_alloc (o' := .cells #[.int .i64 0, .slice none 0 0] 46) b1
  have s3 : (w2.alloc (.cells #[.int .i64 0, .slice none 0 0] 46)).heap.size = w.heap.size + 3 := by simp; omega
  rw [s2] at b2
  generalize w2.alloc (.cells #[.int .i64 0, .slice none 0 0] 46) = w3 at *
  have b3 := blk_new w3 (.cells #[.int .i64 most, .slice none 0 0] 46)
  rw [s3] at b3
  exact ⟨blk_alloc b0, blk_alloc b1, blk_alloc b2, b3, ⟨by simp [flatO], .inl ⟨rfl, rfl⟩⟩, hB3.alloc (by omega) _⟩

set_option maxHeartbeats 4000000 in
theorem with_row (T : Nat → Prop) (most : Int) (f : Oe) (fa : Option Addr) (g fc : Nat) (xs : List Oe) (w : World) (hlen : xs.length ≤ 900) (hT : ∀ i, T i → i < w.heap.size) (h : MAt T w fa g xs) :
    Calls Try.prog 33 #[.agg #[.int .i64 most, .slice fa xs.length fc], .agg #[.int .i64 f.1.frame, .slice f.2.1 f.1.evs.length f.2.2, .int .i64 f.1.lost]] w fun e w' => ∃ (v : Value), e = .returned (.agg #[.int .i64 most, v]) ∧ w'.ownsRow w.heap.size 52 3 v (withK keyO xs f).length (flatO (withK keyO xs f)) ∧ Below w.heap.size w w' := by
  obtain ⟨i0, hi, hz0, hz1, hz2⟩ := info_parts info52
  have HA := Lib.hid h
  have HT := Lib.hid hT
  have HL := Lib.hid hlen
  have HS0 := Lib.hid (WSt.start w most (.slice fa xs.length fc) f)
  clear h hT hlen
  go_enter Try.func33, Try.ntmps33
  go_wp2
  go_loopg [6, 7] xs.length (fun n d i wr => ∃ (k : Nat) (v : Value), k ≤ xs.length ∧ n = xs.length - k ∧ d = .bool (wAcc keyO f xs k).2 ∧ i = .int .i64 k ∧ Hid (WSt w wr w.heap.size most (.slice fa xs.length fc) f (wAcc keyO f xs k).1 v))
  case atStart => exact ⟨0, _, by omega, rfl, rfl, rfl, HS0⟩
  case round =>
    obtain ⟨k, v, hk, rfl, rfl, rfl, H⟩ := hrel
    have b1 := H.out.atBox
    by_cases hlt : k < xs.length
    · obtain ⟨h1, h2⟩ := HA.out.lt (by omega)
      have h2 := HT.out _ h2
      subst h1
      have HX := Lib.hid (wAcc_succ (key := keyO) f xs k hlt)
      have HF : Hid (∀ W, Below w.heap.size w W → W.cell? ⟨g, k * 3, none⟩ = some (.int .i64 xs[k].1.frame) ∧ W.cell? ⟨g, k * 3 + 1, none⟩ = some (.slice xs[k].2.1 xs[k].1.evs.length xs[k].2.2) ∧ W.cell? ⟨g, k * 3 + 2, none⟩ = some (.int .i64 xs[k].1.lost)) := Lib.hid (fun W hW => (HA.out.below HT.out hW).cells k hlt)
      have c0 := (HF.out _ H.out.chg).1
      have HG := Lib.hid h2
      have HLn := Lib.hid (wAcc_length (key := keyO) f xs k)
      have f0 := H.out.atF
      have hki : (k : Int) < (xs.length : Int) := by omega
      have hk0 : (0 : Int) ≤ (k : Int) := by omega
      have hw : IntKind.i64.wrap ((k : Int) + 1) = (k : Int) + 1 := IntWalk.i64_in _ (by have := HL.out; omega)
      have HLT := Lib.hid hlt
      clear h2
      generalize xs[k] = x at *
      generalize wAcc keyO f xs k = s at *
      obtain ⟨acc, done⟩ := s
      simp only at H HLn
      go_wp2_with fail
      have hq : done = true ∨ done = false ∧ decide (f.1.frame ≤ x.1.frame) = false ∨ done = false ∧ decide (f.1.frame ≤ x.1.frame) = true := by cases done <;> cases decide (f.1.frame ≤ x.1.frame) <;> simp
      rcases hq with rfl | ⟨rfl, hq⟩ | ⟨rfl, hq⟩
      all_goals
        go_quiet (fail)
        have H1 := Lib.hid (H.out.drewN nq)
        clear b1 c0 f0 H
        generalize wr.drewN nq = wq at *
      · have HE := Lib.hid (show wAcc keyO f xs (k + 1) = (if x.1.frame = f.1.frame then acc else acc ++ [x], true) by rw [HX.out, wStep_done]; rfl)
        have HLn3 := Lib.hid (show acc.length ≤ 2 * k + 1 by have := HLn.out; omega)
        clear HX HLn
        have H3 := H1
        clear H1
        go_wp2_with fail
        generalize wq = W at *
        generalize acc = acc1 at *
        generalize v = v1 at *
        have b1 := H3.out.atBox
        have o1 := H3.out.atOut
        have f0 := H3.out.atF
        obtain ⟨x0, x1, x2⟩ := HF.out W (H3.out.chg)
        by_cases hx : x.1.frame = f.1.frame
        · have q1 : (x.1.frame == f.1.frame) = true := by rw [hx]; exact beq_self_eq_true _
          have q2 : (x.1.frame != f.1.frame) = false := by rw [hx]; exact bne_self_eq_false _
          have HX := Lib.hid hx
          clear hx
          go_quiet (fail)
          go_wp2
          go_roundg (xs.length - (k + 1))
          case measure => have := HLT.out; omega
          case rel => exact ⟨k + 1, v1, HLT.out, rfl, by rw [HE.out], by go_num, by rw [HE.out, if_pos HX.out]; exact Lib.hid (H3.out.drewN nq)⟩
        · have q1 : (x.1.frame == f.1.frame) = false := by rw [beq_eq_false_iff_ne]; exact hx
          have q2 : (x.1.frame != f.1.frame) = true := by rw [bne_iff_ne]; exact hx
          have HX := Lib.hid hx
          clear hx
          go_quiet (fail)
          have H4 := Lib.hid (H3.out.drewN nq)
          clear H3 b1 o1 f0 x0 x1 x2 q1 q2
          go_wp2_with fail
          generalize W.drewN nq = W2 at *
          have b1 := H4.out.atBox
          have o1 := H4.out.atOut
          obtain ⟨x0, x1, x2⟩ := HF.out W2 (H4.out.chg)
          have H5 := Lib.hid ((H4.out.alloc (.cells #[.int .i64 x.1.frame, .slice x.2.1 x.1.evs.length x.2.2, .int .i64 x.1.lost] 52)).drew)
          have HLt := Lib.hid H4.out.lt
          have HGN := Lib.hid (show g < w.heap.size + 4 by have := HG.out; omega)
          have n1 := (H4.out.alloc (.cells #[.int .i64 x.1.frame, .slice x.2.1 x.1.evs.length x.2.2, .int .i64 x.1.lost] 52)).atOut
          go_region_law
            ((refine step_append_lies _ (by rfl) _ _ _ (by rfl) (w.heap.size + 4) 52 i0 (.agg #[.int .i64 0, .slice none 0 0, .int .i64 0]) 3 40 Try.underlying44 hi hz0 hz1 hz2 rfl (by decide) v1 acc1.length (flatO acc1) (by rfl) H5.out.own ⟨W2.heap.size, 0, none⟩ 1 1 (flatO [x]) (by rfl) (by rfl) (fun j u hj => cells_new W2 (cellsO x) 52 (flatO [x]) rfl j u hj) (one3 x) (by decide) (by have := HLn3.out; have := HL.out; have := HLT.out; unfold maxLen; omega) (by have := HLn3.out; have := HL.out; have := HLT.out; omega) (by have := HLt.out; simp; omega) _ rfl ?_; intro g5 c5 w5 hown5 hg5 hat5 hlt5; obtain ⟨k1, k2⟩ := H5.out.after hg5; have H6 := Lib.hid (H5.out.append hg5 hown5)))
          all_goals
            go_wp2
            go_roundg (xs.length - (k + 1))
            case measure => have := HLT.out; omega
            case rel => exact ⟨k + 1, _, HLT.out, rfl, by rw [HE.out], by go_num, by rw [HE.out, if_neg HX.out]; exact H6⟩
      · have HE := Lib.hid (show wAcc keyO f xs (k + 1) = (if x.1.frame = f.1.frame then acc else acc ++ [x], false) by rw [HX.out, wStep_no acc hq]; rfl)
        have HLn3 := Lib.hid (show acc.length ≤ 2 * k + 1 by have := HLn.out; omega)
        clear HX HLn hq
        have H3 := H1
        clear H1
        go_wp2_with fail
        generalize wq = W at *
        generalize acc = acc1 at *
        generalize v = v1 at *
        have b1 := H3.out.atBox
        have o1 := H3.out.atOut
        have f0 := H3.out.atF
        obtain ⟨x0, x1, x2⟩ := HF.out W (H3.out.chg)
        by_cases hx : x.1.frame = f.1.frame
        · have q1 : (x.1.frame == f.1.frame) = true := by rw [hx]; exact beq_self_eq_true _
          have q2 : (x.1.frame != f.1.frame) = false := by rw [hx]; exact bne_self_eq_false _
          have HX := Lib.hid hx
          clear hx
          go_quiet (fail)
          go_wp2
          go_roundg (xs.length - (k + 1))
          case measure => have := HLT.out; omega
          case rel => exact ⟨k + 1, v1, HLT.out, rfl, by rw [HE.out], by go_num, by rw [HE.out, if_pos HX.out]; exact Lib.hid (H3.out.drewN nq)⟩
        · have q1 : (x.1.frame == f.1.frame) = false := by rw [beq_eq_false_iff_ne]; exact hx
          have q2 : (x.1.frame != f.1.frame) = true := by rw [bne_iff_ne]; exact hx
          have HX := Lib.hid hx
          clear hx
          go_quiet (fail)
          have H4 := Lib.hid (H3.out.drewN nq)
          clear H3 b1 o1 f0 x0 x1 x2 q1 q2
          go_wp2_with fail
          generalize W.drewN nq = W2 at *
          have b1 := H4.out.atBox
          have o1 := H4.out.atOut
          obtain ⟨x0, x1, x2⟩ := HF.out W2 (H4.out.chg)
          have H5 := Lib.hid ((H4.out.alloc (.cells #[.int .i64 x.1.frame, .slice x.2.1 x.1.evs.length x.2.2, .int .i64 x.1.lost] 52)).drew)
          have HLt := Lib.hid H4.out.lt
          have HGN := Lib.hid (show g < w.heap.size + 4 by have := HG.out; omega)
          have n1 := (H4.out.alloc (.cells #[.int .i64 x.1.frame, .slice x.2.1 x.1.evs.length x.2.2, .int .i64 x.1.lost] 52)).atOut
          go_region_law
            ((refine step_append_lies _ (by rfl) _ _ _ (by rfl) (w.heap.size + 4) 52 i0 (.agg #[.int .i64 0, .slice none 0 0, .int .i64 0]) 3 40 Try.underlying44 hi hz0 hz1 hz2 rfl (by decide) v1 acc1.length (flatO acc1) (by rfl) H5.out.own ⟨W2.heap.size, 0, none⟩ 1 1 (flatO [x]) (by rfl) (by rfl) (fun j u hj => cells_new W2 (cellsO x) 52 (flatO [x]) rfl j u hj) (one3 x) (by decide) (by have := HLn3.out; have := HL.out; have := HLT.out; unfold maxLen; omega) (by have := HLn3.out; have := HL.out; have := HLT.out; omega) (by have := HLt.out; simp; omega) _ rfl ?_; intro g5 c5 w5 hown5 hg5 hat5 hlt5; obtain ⟨k1, k2⟩ := H5.out.after hg5; have H6 := Lib.hid (H5.out.append hg5 hown5)))
          all_goals
            go_wp2
            go_roundg (xs.length - (k + 1))
            case measure => have := HLT.out; omega
            case rel => exact ⟨k + 1, _, HLT.out, rfl, by rw [HE.out], by go_num, by rw [HE.out, if_neg HX.out]; exact H6⟩
      · have o1 := H1.out.atOut
        obtain ⟨f0, f1, f2⟩ := H1.out.atFs
        have HLt := Lib.hid H1.out.lt
        have HE := Lib.hid (show wAcc keyO f xs (k + 1) = (if x.1.frame = f.1.frame then acc ++ [f] else (acc ++ [f]) ++ [x], true) by rw [HX.out, wStep_yes acc hq]; rfl)
        have HLn3 := Lib.hid (show (acc ++ [f]).length ≤ 2 * k + 1 by have := HLn.out; simp; omega)
        go_wp2_with (at_builtin; refine wpList_append_lies _ rfl _ _ 44 rfl (w.heap.size + 4) 52 i0 (.agg #[.int .i64 0, .slice none 0 0, .int .i64 0]) 3 40 Try.underlying44 hi hz0 hz1 hz2 rfl (by decide) v acc.length (flatO acc) rfl (H1.out.own.alloc _) ⟨wq.heap.size, 0, none⟩ 1 1 (flatO [f]) rfl rfl (cells_new _ _ _ _ rfl) (one3 f) (by decide) (by have := HLn.out; have := HL.out; have := HLT.out; unfold maxLen; omega) (by have := HLn.out; have := HL.out; have := HLT.out; omega) (by have := HLt.out; simp; omega) _ rfl ?_; intro g4 c4 w4 hown' hg4 hat4 hlt4; obtain ⟨k1, k2⟩ := (H1.out.alloc _).after hg4; have H2 := Lib.hid ((H1.out.alloc _).append hg4 hown'); clear hown' hg4 hat4 hlt4 o1 f0 f1 f2)
        clear k1 k2 H1 HX HLn HLt hq
        have H1 := H2
        clear H2
        have H3 := H1
        clear H1
        go_wp2_with fail
        generalize w4.setCell ⟨w.heap.size + 1 + 1 + 1, 1, none⟩ (.slice (some ⟨g4, 0, none⟩) (acc.length + 1) c4) = W at *
        generalize acc ++ [f] = acc1 at *
        generalize (Value.slice (some ⟨g4, 0, none⟩) (acc.length + 1) c4) = v1 at *
        have b1 := H3.out.atBox
        have o1 := H3.out.atOut
        have f0 := H3.out.atF
        obtain ⟨x0, x1, x2⟩ := HF.out W (H3.out.chg)
        by_cases hx : x.1.frame = f.1.frame
        · have q1 : (x.1.frame == f.1.frame) = true := by rw [hx]; exact beq_self_eq_true _
          have q2 : (x.1.frame != f.1.frame) = false := by rw [hx]; exact bne_self_eq_false _
          have HX := Lib.hid hx
          clear hx
          go_quiet (fail)
          go_wp2
          go_roundg (xs.length - (k + 1))
          case measure => have := HLT.out; omega
          case rel => exact ⟨k + 1, v1, HLT.out, rfl, by rw [HE.out], by go_num, by rw [HE.out, if_pos HX.out]; exact Lib.hid (H3.out.drewN nq)⟩
        · have q1 : (x.1.frame == f.1.frame) = false := by rw [beq_eq_false_iff_ne]; exact hx
          have q2 : (x.1.frame != f.1.frame) = true := by rw [bne_iff_ne]; exact hx
          have HX := Lib.hid hx
          clear hx
          go_quiet (fail)
          have H4 := Lib.hid (H3.out.drewN nq)
          clear H3 b1 o1 f0 x0 x1 x2 q1 q2
          go_wp2_with fail
          generalize W.drewN nq = W2 at *
          have b1 := H4.out.atBox
          have o1 := H4.out.atOut
          obtain ⟨x0, x1, x2⟩ := HF.out W2 (H4.out.chg)
          have H5 := Lib.hid ((H4.out.alloc (.cells #[.int .i64 x.1.frame, .slice x.2.1 x.1.evs.length x.2.2, .int .i64 x.1.lost] 52)).drew)
          have HLt := Lib.hid H4.out.lt
          have HGN := Lib.hid (show g < w.heap.size + 4 by have := HG.out; omega)
          have n1 := (H4.out.alloc (.cells #[.int .i64 x.1.frame, .slice x.2.1 x.1.evs.length x.2.2, .int .i64 x.1.lost] 52)).atOut
          go_region_law
            ((refine step_append_lies _ (by rfl) _ _ _ (by rfl) (w.heap.size + 4) 52 i0 (.agg #[.int .i64 0, .slice none 0 0, .int .i64 0]) 3 40 Try.underlying44 hi hz0 hz1 hz2 rfl (by decide) v1 acc1.length (flatO acc1) (by rfl) H5.out.own ⟨W2.heap.size, 0, none⟩ 1 1 (flatO [x]) (by rfl) (by rfl) (fun j u hj => cells_new W2 (cellsO x) 52 (flatO [x]) rfl j u hj) (one3 x) (by decide) (by have := HLn3.out; have := HL.out; have := HLT.out; unfold maxLen; omega) (by have := HLn3.out; have := HL.out; have := HLT.out; omega) (by have := HLt.out; simp; omega) _ rfl ?_; intro g5 c5 w5 hown5 hg5 hat5 hlt5; obtain ⟨k1, k2⟩ := H5.out.after hg5; have H6 := Lib.hid (H5.out.append hg5 hown5)))
          all_goals
            go_wp2
            go_roundg (xs.length - (k + 1))
            case measure => have := HLT.out; omega
            case rel => exact ⟨k + 1, _, HLT.out, rfl, by rw [HE.out], by go_num, by rw [HE.out, if_neg HX.out]; exact H6⟩
    · have hki : decide ((k : Int) < (xs.length : Int)) = false := decide_eq_false (by omega)
      have HTk := Lib.hid (show xs.take k = xs from List.take_of_length_le (by omega))
      have HLk := Lib.hid (show k ≤ xs.length from hk)
      have HLn := Lib.hid (wAcc_length (key := keyO) f xs k)
      have HE : Hid (withK keyO xs f = if (wAcc keyO f xs k).2 = true then (wAcc keyO f xs k).1 else (wAcc keyO f xs k).1 ++ [f]) := by
        unfold withK wAcc
        rw [HTk.out]
        exact Lib.hid rfl
      generalize wAcc keyO f xs k = s at *
      obtain ⟨acc, done⟩ := s
      simp only at H HLn HE
      cases done with
      | true =>
        obtain ⟨va, vc, rfl⟩ := row_slice H.out.own
        have o1 := H.out.atOut
        have o0 := H.out.atOut0
        have r0 := H.out.atRes
        clear hk hki
        go_wp2
        obtain ⟨s1, s2, s3, s4⟩ := H.out.stop
        refine bodyPost_ret (v := .agg #[.int .i64 most, .slice va acc.length vc]) (by simp [results, Try.results33, go_sem, s1, s2]) rfl ⟨_, rfl, ?_, s4⟩
        rw [HE.out]
        exact s3
      | false =>
        have o1 := H.out.atOut
        obtain ⟨f0, f1, f2⟩ := H.out.atFs
        have HLt := Lib.hid H.out.lt
        go_wp2_with (at_builtin; refine wpList_append_lies _ rfl _ _ 44 rfl (w.heap.size + 4) 52 i0 (.agg #[.int .i64 0, .slice none 0 0, .int .i64 0]) 3 40 Try.underlying44 hi hz0 hz1 hz2 rfl (by decide) v acc.length (flatO acc) rfl (H.out.own.alloc _) ⟨wr.heap.size, 0, none⟩ 1 1 (flatO [f]) rfl rfl (cells_new _ _ _ _ rfl) (one3 f) (by decide) (by have := HLn.out; have := HL.out; have := HLk.out; unfold maxLen; omega) (by have := HLn.out; have := HL.out; have := HLk.out; omega) (by have := HLt.out; simp; omega) _ rfl ?_; intro g4 c4 w4 hown' hg4 hat4 hlt4; obtain ⟨k1, k2⟩ := (H.out.alloc _).after hg4; have H2 := Lib.hid ((H.out.alloc _).append hg4 hown'); clear hown' hg4 hat4 hlt4 o1 f0 f1 f2; have o1 := H2.out.atOut; have o0 := H2.out.atOut0; have r0 := H2.out.atRes)
        obtain ⟨s1, s2, s3, s4⟩ := H2.out.stop
        refine bodyPost_ret (v := .agg #[.int .i64 most, .slice (some ⟨g4, 0, none⟩) (acc.length + 1) c4]) (by simp [results, Try.results33, go_sem, s1, s2]) rfl ⟨_, rfl, ?_, s4⟩
        rw [HE.out]
        exact s3
end Go.Proofs.Ytchhpgnlfofdcaa.Q
