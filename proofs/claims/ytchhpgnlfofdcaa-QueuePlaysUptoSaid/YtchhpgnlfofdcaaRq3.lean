/- The reference's Shut. -/
import Derived.Test.YtchhpgnlfofdcaaRq2
import Derived.StillTailTactics
set_option linter.unusedVariables false
set_option linter.unusedSimpArgs false
namespace Go.Proofs.Ytchhpgnlfofdcaa.Q
open Go.RowKit Go.Proofs.Ytchhpgnlfofdcaa.Hp Go.Proofs.Ytchhpgnlfofdcaa.Mp
set_option maxRecDepth 100000

/-- With a third block, where a new list grows. -/
structure PSt (w wr : World) (N : Nat) (most : Int) (sl : Value) (acc : List Oe) (v : Value) : Prop where
  b : BSt w wr N most sl
  out : wr.heap[N + 2]? = some (.cells #[.int .i64 most, v] 46 (0, 0))
  own : wr.ownsRow (N + 3) 52 3 v acc.length (flatO acc)
section
variable {w wr w1 w' : World} {N : Nat} {most : Int} {sl v v' : Value} {x : Oe} {acc : List Oe}
theorem PSt.lt (h : PSt w wr N most sl acc v) : N + 3 ≤ wr.heap.size := blk_lt h.out
theorem PSt.drewN (h : PSt w wr N most sl acc v) (n : Nat) : PSt w (wr.drewN n) N most sl acc v := ⟨h.b.drewN n, h.out, h.own⟩
theorem PSt.drew (h : PSt w wr N most sl acc v) : PSt w wr.drew N most sl acc v := ⟨h.b.drew, h.out, h.own⟩
theorem PSt.alloc (h : PSt w wr N most sl acc v) (o : Obj) : PSt w (wr.alloc o) N most sl acc v := ⟨h.b.alloc o, blk_alloc h.out, h.own.alloc _⟩
theorem PSt.append (h : PSt w wr N most sl acc v) (hg : wr.grownBy w1 v.ownBlock) (ho : w1.ownsRow (N + 3) 52 3 v' (acc.length + 1) (flatO acc ++ flatO [x])) : PSt w (w1.setCell ⟨N + 2, 1, none⟩ v') N most sl (acc ++ [x]) v' := by
  have hl := h.lt
  have key : ∀ j o, j < N + 3 → wr.heap[j]? = some o → w1.heap[j]? = some o := fun j o hj ho => (hg.block j (by omega) (fun e => by have := row_own h.own e; omega)).trans ho
  have e3 := blk_set (key _ _ (by omega) h.out) 1 v'
  refine ⟨⟨blk_far (key _ _ (by omega) h.b.box) (by simp) _, blk_far (key _ _ (by omega) h.b.res) (by simp) _, (h.b.chg.grown hg (by omega) (fun j hj => by have := row_own h.own hj.symm; omega)).setCell (by simp) _⟩, e3, ?_⟩
  rw [List.length_append, flatO_append]
  exact row_far ho (by simp) _
theorem PSt.after (h : PSt w wr N most sl acc v) (hg : wr.grownBy w1 v.ownBlock) : w1.cell? ⟨N + 1 + 1, 1, none⟩ = some v ∧ w1.frozen? ⟨N + 1 + 1, 1, none⟩ = false := by
  have hl := h.lt
  have e := (hg.block (N + 2) (by omega) (fun e => by have := row_own h.own e; omega)).trans h.out
  exact ⟨blk_cell e 1, blk_frozen e 1⟩
theorem PSt.atOut (h : PSt w wr N most sl acc v) : wr.cell? ⟨N + 1 + 1, 1, none⟩ = some v := blk_cell h.out 1
theorem PSt.atOut0 (h : PSt w wr N most sl acc v) : wr.cell? ⟨N + 1 + 1, 0, none⟩ = some (.int .i64 most) := blk_cell h.out 0
end
theorem PSt.start (w : World) (most : Int) (sl : Value) : PSt w (((w.alloc (.cells #[.int .i64 most, sl] 46)).alloc (.cells #[.int .i64 0, .slice none 0 0] 46)).alloc (.cells #[.int .i64 most, .slice none 0 0] 46)) w.heap.size most sl [] (.slice none 0 0) := by
  have h := BSt.start w most sl
  have s2 : ((w.alloc (.cells #[.int .i64 most, sl] 46)).alloc (.cells #[.int .i64 0, .slice none 0 0] 46)).heap.size = w.heap.size + 2 := by simp
  generalize (w.alloc (.cells #[.int .i64 most, sl] 46)).alloc (.cells #[.int .i64 0, .slice none 0 0] 46) = w1 at *
  have b := blk_new w1 (.cells #[.int .i64 most, .slice none 0 0] 46)
  rw [s2] at b
  exact ⟨h.alloc _, b, ⟨by simp [flatO], .inl ⟨rfl, rfl⟩⟩⟩
/-- What Shut leaves. -/
def shutF (A : List On) (id : Int) : List On := A.filter (fun x => x.frame != id)
def shutX (xs : List Oe) (id : Int) (k : Nat) : List Oe := (xs.take k).filter (fun x => x.1.frame != id)
theorem shutX_succ (xs : List Oe) (id : Int) (k : Nat) (h : k < xs.length) : shutX xs id (k + 1) = if xs[k].1.frame = id then shutX xs id k else shutX xs id k ++ [xs[k]] := by
  unfold shutX
  rw [List.take_add_one, List.getElem?_eq_getElem h, Option.toList_some, List.filter_append, List.filter_cons]
  by_cases e : xs[k].1.frame = id <;> simp [e]
theorem shutX_length (xs : List Oe) (id : Int) (k : Nat) : (shutX xs id k).length ≤ k := by
  unfold shutX
  exact Nat.le_trans (List.length_filter_le _ _) (by simp; omega)
theorem shutX_map (xs : List Oe) (id : Int) : (shutX xs id xs.length).map (·.1) = shutF (xs.map (·.1)) id := by
  unfold shutX shutF
  rw [List.take_length, List.filter_map]
  rfl
set_option maxHeartbeats 4000000 in
theorem mShut_calls (T : Nat → Prop) (most id : Int) (fa : Option Addr) (g fc : Nat) (xs : List Oe) (w : World) (hlen : xs.length ≤ 900) (hT : ∀ i, T i → i < w.heap.size) (h : MAt T w fa g xs) :
    Calls Try.prog 25 #[.agg #[.int .i64 most, .slice fa xs.length fc], .int .i64 id] w fun e w' => ∃ sl, e = .returned (.tuple #[.agg #[.int .i64 most, sl], .bool (decide ((shutF (xs.map (·.1)) id).length < xs.length))]) ∧ MAns T most w (shutF (xs.map (·.1)) id) sl w' ∧ Below w.heap.size w w' := by
  obtain ⟨i0, hi, hz0, hz1, hz2⟩ := info_parts info52
  have HS := Lib.hid (PSt.start w most (.slice fa xs.length fc))
  have HA := Lib.hid h
  have HT := Lib.hid hT
  have HL := Lib.hid hlen
  clear h hT hlen
  go_enter Try.func25, Try.ntmps25
  go_wp2_with fail
  go_loopg [7] xs.length (fun n i wr => ∃ (k : Nat) (v : Value), k ≤ xs.length ∧ n = xs.length - k ∧ i = .int .i64 k ∧ Hid (PSt w wr w.heap.size most (.slice fa xs.length fc) (shutX xs id k) v))
  case atStart => exact ⟨0, _, by omega, rfl, rfl, HS⟩
  case round =>
    obtain ⟨k, v, hk, rfl, rfl, H⟩ := hrel
    clear HS
    obtain ⟨⟨b0, b1⟩, r0, r1, r2, r3⟩ := H.out.b.facts
    by_cases hlt : k < xs.length
    · obtain ⟨h1, h2⟩ := HA.out.lt (by omega)
      have h2 := HT.out _ h2
      subst h1
      have HX := Lib.hid (shutX_succ xs id k hlt)
      have HF : Hid (∀ W, Below w.heap.size w W → W.cell? ⟨g, k * 3, none⟩ = some (.int .i64 xs[k].1.frame) ∧ W.cell? ⟨g, k * 3 + 1, none⟩ = some (.slice xs[k].2.1 xs[k].1.evs.length xs[k].2.2) ∧ W.cell? ⟨g, k * 3 + 2, none⟩ = some (.int .i64 xs[k].1.lost)) := Lib.hid (fun W hW => (HA.out.below HT.out hW).cells k hlt)
      obtain ⟨x0, x1, x2⟩ := HF.out _ H.out.b.chg
      have HG := Lib.hid h2
      have HLn := Lib.hid (shutX_length xs id k)
      have hki : (k : Int) < (xs.length : Int) := by omega
      have hk0 : (0 : Int) ≤ (k : Int) := by omega
      have hw : IntKind.i64.wrap ((k : Int) + 1) = (k : Int) + 1 := IntWalk.i64_in _ (by have := HL.out; omega)
      have HLT := Lib.hid hlt
      clear h2
      generalize xs[k] = x at *
      generalize shutX xs id k = acc at *
      by_cases hx : x.1.frame = id
      · have q1 : (x.1.frame == id) = true := by rw [hx]; exact beq_self_eq_true _
        have q2 : (x.1.frame != id) = false := by rw [hx]; exact bne_self_eq_false _
        have HQ := Lib.hid hx
        clear hx
        go_wp2
        go_roundg (xs.length - (k + 1))
        case measure => have := HLT.out; omega
        case rel => exact ⟨k + 1, v, HLT.out, rfl, by go_num, by rw [HX.out, if_pos HQ.out]; exact H⟩
      · have q1 : (x.1.frame == id) = false := by rw [beq_eq_false_iff_ne]; exact hx
        have q2 : (x.1.frame != id) = true := by rw [bne_iff_ne]; exact hx
        have HQ := Lib.hid hx
        clear hx
        have o1 := H.out.atOut
        have H5 := Lib.hid ((H.out.alloc (.cells #[.int .i64 x.1.frame, .slice x.2.1 x.1.evs.length x.2.2, .int .i64 x.1.lost] 52)).drew)
        have HLt := Lib.hid H.out.lt
        have n1 := (H.out.alloc (.cells #[.int .i64 x.1.frame, .slice x.2.1 x.1.evs.length x.2.2, .int .i64 x.1.lost] 52)).atOut
        go_wp2_with fail
        go_region_law
          ((refine step_append_lies _ (by rfl) _ _ _ (by rfl) (w.heap.size + 3) 52 i0 (.agg #[.int .i64 0, .slice none 0 0, .int .i64 0]) 3 40 Try.underlying44 hi hz0 hz1 hz2 rfl (by decide) v acc.length (flatO acc) (by rfl) H5.out.own ⟨wr.heap.size, 0, none⟩ 1 1 (flatO [x]) (by rfl) (by rfl) (fun j u hj => cells_new wr (cellsO x) 52 (flatO [x]) rfl j u hj) (one3 x) (by decide) (by have := HLn.out; have := HL.out; have := HLT.out; unfold maxLen; omega) (by have := HLn.out; have := HL.out; have := HLT.out; omega) (by have := HLt.out; simp; omega) _ rfl ?_; intro g5 c5 w5 hown5 hg5 hat5 hlt5; obtain ⟨k1, k2⟩ := H5.out.after hg5; have H6 := Lib.hid (H5.out.append hg5 hown5)))
        all_goals
          go_wp2
          go_roundg (xs.length - (k + 1))
          case measure => have := HLT.out; omega
          case rel => exact ⟨k + 1, _, HLT.out, rfl, by go_num, by rw [HX.out, if_neg HQ.out]; exact H6⟩
    · have hki : decide ((k : Int) < (xs.length : Int)) = false := decide_eq_false (by omega)
      obtain rfl : k = xs.length := by omega
      have HM := Lib.hid (shutX_map xs id)
      have HML := Lib.hid (show (shutX xs id xs.length).length = (shutF (xs.map (·.1)) id).length by rw [← shutX_map, List.length_map])
      have HE : Hid (∀ y ∈ shutX xs id xs.length, y ∈ xs) := Lib.hid (fun y hy => List.mem_of_mem_take ((List.mem_filter.1 hy).1))
      generalize shutX xs id xs.length = acc at *
      obtain ⟨va, vc, rfl⟩ := row_slice H.out.own
      have o1 := H.out.atOut
      have o0 := H.out.atOut0
      clear hk hki hlt
      go_wp2_with fail
      go_region
      obtain ⟨s1, s2, s3⟩ := H.out.b.stop (.slice va acc.length vc)
      have hown := row_far (row_far H.out.own (p := ⟨w.heap.size + 1, 0, none⟩) (by simp) (.int .i64 most)) (p := ⟨w.heap.size + 1, 1, none⟩) (by simp) (.slice va acc.length vc)
      generalize hW : (wr.setCell ⟨w.heap.size + 1, 0, none⟩ (.int .i64 most)).setCell ⟨w.heap.size + 1, 1, none⟩ (.slice va acc.length vc) = W at *
      have s1' : W.drew.cell? ⟨w.heap.size + 1, 0, none⟩ = some (.int .i64 most) := s1
      have s2' : W.drew.cell? ⟨w.heap.size + 1, 1, none⟩ = some (.slice va acc.length vc) := s2
      have s3' := below_drew s3
      have hown' : W.drew.ownsRow (w.heap.size + 3) 52 3 (.slice va acc.length vc) acc.length (flatO acc) := hown
      clear hW s1 s2 s3 hown
      generalize W.drew = W2 at *
      obtain ⟨fa2, g2, fc2, e2, h3⟩ := MAt.of_row (T := Up T w _) hown' (fun y hy => (HA.out.evs y (HE.out y hy)).keep (fun i hi => s3'.block i (HT.out i hi)) (fun i hi => .inl hi)) (fun gg hg => by
        obtain ⟨cs, hb⟩ := row_tag hown' hg.symm
        exact .inr ⟨by have := row_own hown' hg.symm; omega, blk_lt hb⟩)
      have HH := Lib.hid (show MAns T most w (shutF (xs.map (·.1)) id) (.slice va acc.length vc) W2 from ⟨acc, fa2, g2, fc2, HM.out, e2, h3⟩)
      have HB2 := Lib.hid s3'
      clear s3' hown' h3 e2
      go_wp2
      refine bodyPost_ret (v := .tuple #[.agg #[.int .i64 most, .slice va acc.length vc], .bool (decide (acc.length < xs.length))]) (by simp [results, Try.results25, go_sem, s1', s2']) rfl ⟨_, ?_, HH.out, HB2.out⟩
      rw [← HML.out]
end Go.Proofs.Ytchhpgnlfofdcaa.Q
