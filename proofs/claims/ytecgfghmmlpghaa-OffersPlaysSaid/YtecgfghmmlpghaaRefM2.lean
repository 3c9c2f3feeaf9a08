/- Walks: the reference's Close. -/
import Derived.Test.YtecgfghmmlpghaaRefM0
import Derived.StillTailTactics
set_option linter.unusedVariables false
set_option linter.unusedSimpArgs false
namespace Go.Proofs.Ytecgfghmmlpghaa.O
open Go.RowKit Go.Proofs.Ytecgfghmmlpghaa.Hp Go.Proofs.Ytecgfghmmlpghaa.Mp
set_option maxRecDepth 100000
/-- What Close leaves. -/
def shutF (A : List Of) (id : Int) : List Of := A.filter (fun x => x.id != id)
def shutX (xs : List Ox) (id : Int) (k : Nat) : List Ox := (xs.take k).filter (fun x => x.1.id != id)
theorem shutX_succ (xs : List Ox) (id : Int) (k : Nat) (h : k < xs.length) : shutX xs id (k + 1) = if xs[k].1.id = id then shutX xs id k else shutX xs id k ++ [xs[k]] := by
  unfold shutX
  rw [List.take_add_one, List.getElem?_eq_getElem h, Option.toList_some, List.filter_append, List.filter_cons]
  by_cases e : xs[k].1.id = id <;> simp [e]
theorem shutX_length (xs : List Ox) (id : Int) (k : Nat) : (shutX xs id k).length ≤ k := by
  unfold shutX
  exact Nat.le_trans (List.length_filter_le _ _) (by simp; omega)
theorem shutX_map (xs : List Ox) (id : Int) : (shutX xs id xs.length).map (·.1) = shutF (xs.map (·.1)) id := by
  unfold shutX shutF
  rw [List.take_length, List.filter_map]
  rfl
set_option maxHeartbeats 4000000 in
theorem refClose_calls (T : Nat → Prop) (most last id : Int) (fa : Option Addr) (g fc : Nat) (xs : List Ox) (w : World) (hlen : xs.length ≤ 900) (hT : ∀ i, T i → i < w.heap.size) (h : OAt T w fa g 0 xs) :
    Calls Try.prog 19 #[.agg #[.int .i64 most, .int .i64 last, .slice fa xs.length fc], .int .i64 id] w fun e w' => ∃ sa sn sc, e = .returned (.agg #[.int .i64 most, .int .i64 last, .slice sa sn sc]) ∧ Hid (MAns T w (shutF (xs.map (·.1)) id) (.slice sa sn sc) w') ∧ Below w.heap.size w w' := by
  obtain ⟨i0, hi, hz0, hz1, hz2⟩ := info_parts info30
  have hb := BSt.start w most last (.slice fa xs.length fc)
  have hs := PSt.start hb last
  rw [show ((w.alloc (.cells #[.int .i64 most, .int .i64 last, .slice fa xs.length fc] 54)).alloc (.cells #[.int .i64 0, .int .i64 0, .slice none 0 0] 54)).heap.size = w.heap.size + 1 + 1 by simp] at hs
  have HS := Lib.hid hs
  obtain ⟨⟨b0, b1, b2⟩, _⟩ := hb.facts
  have HA := Lib.hid h
  have HT := Lib.hid hT
  have HL := Lib.hid hlen
  clear h hT hlen hb hs
  go_enter Try.func19, Try.ntmps19
  go_wp2_with fail
  clear b0 b1 b2
  go_loopg [6] xs.length (fun n i wr => ∃ (k : Nat) (v : Value), k ≤ xs.length ∧ n = xs.length - k ∧ i = .int .i64 k ∧ Hid (PSt w wr w.heap.size (w.heap.size + 1 + 1) most last last (.slice fa xs.length fc) (shutX xs id k) v))
  case atStart => exact ⟨0, _, by omega, rfl, rfl, HS⟩
  case round =>
    obtain ⟨k, v, hk, rfl, rfl, H⟩ := hrel
    clear HS
    obtain ⟨⟨b0, b1, b2⟩, ⟨r0, r1, r2⟩, f0, f1, f2⟩ := H.out.b.facts
    by_cases hlt : k < xs.length
    · obtain ⟨h1, h2⟩ := HA.out.lt (by omega)
      have h2 := HT.out _ h2
      subst h1
      have HX := Lib.hid (shutX_succ xs id k hlt)
      have hcc := (HA.out.keep (w' := wr) (T' := T) (fun i hi => H.out.b.chg.block i (HT.out i hi)) (fun _ h => h)).cells hlt
      simp only [Nat.zero_add] at hcc
      obtain ⟨x0, x1, x2, x3, x4⟩ := hcc
      have HLn := Lib.hid (shutX_length xs id k)
      have hki : (k : Int) < (xs.length : Int) := by omega
      have hk0 : (0 : Int) ≤ (k : Int) := by omega
      have hw : IntKind.i64.wrap ((k : Int) + 1) = (k : Int) + 1 := IntWalk.i64_in _ (by have := HL.out; omega)
      have HLT := Lib.hid hlt
      clear h2
      generalize xs[k] = x at *
      generalize shutX xs id k = acc at *
      by_cases hx : x.1.id = id
      · have q1 : (x.1.id == id) = true := by rw [hx]; exact beq_self_eq_true _
        have q2 : (x.1.id != id) = false := by rw [hx]; exact bne_self_eq_false _
        have HQ := Lib.hid hx
        clear hx
        go_wp2
        go_roundg (xs.length - (k + 1))
        case measure => have := HLT.out; omega
        case rel => exact ⟨k + 1, v, HLT.out, rfl, by go_num, by rw [HX.out, if_pos HQ.out]; exact H⟩
      · have q1 : (x.1.id == id) = false := by rw [beq_eq_false_iff_ne]; exact hx
        have q2 : (x.1.id != id) = true := by rw [bne_iff_ne]; exact hx
        have HQ := Lib.hid hx
        clear hx
        obtain ⟨o0, o1, o2, o3⟩ := H.out.atOut
        have H5 := Lib.hid ((H.out.alloc (.cells #[.int .i64 x.1.id, .int .i64 x.1.frame, .int .i64 x.1.agent, .slice x.2.1 x.1.vec.length x.2.2, .int .i64 x.1.till] 30)).drew)
        have HLt := Lib.hid H.out.lt
        obtain ⟨n0, n1, n2, n3⟩ := (H.out.alloc (.cells #[.int .i64 x.1.id, .int .i64 x.1.frame, .int .i64 x.1.agent, .slice x.2.1 x.1.vec.length x.2.2, .int .i64 x.1.till] 30)).atOut
        go_wp2_with fail
        go_region_law
          ((refine step_append_lies _ (by rfl) _ _ _ (by rfl) (w.heap.size + 1 + 1 + 1) 30 i0 (.agg #[.int .i64 0, .int .i64 0, .int .i64 0, .slice none 0 0, .int .i64 0]) 5 56 Try.underlying39 hi hz0 hz1 hz2 rfl (by decide) v acc.length (flatO acc) (by rfl) H5.out.own ⟨wr.heap.size, 0, none⟩ 1 1 (flatO [x]) (by rfl) (by rfl) (fun j u hj => cells_new wr (cellsO x) 30 (flatO [x]) (by simp [flatO]) j u hj) (flatO_one [x]) (by decide) (by have := HLn.out; have := HL.out; have := HLT.out; unfold maxLen; omega) (by have := HLn.out; have := HL.out; have := HLT.out; omega) (by have := HLt.out; simp; omega) _ rfl ?_; intro g5 c5 w5 hown5 hg5 hat5 hlt5; obtain ⟨k1, k2⟩ := H5.out.after hg5; have H6 := Lib.hid (H5.out.append hg5 hown5)))
        all_goals
          go_wp2
          go_roundg (xs.length - (k + 1))
          case measure => have := HLT.out; omega
          case rel => exact ⟨k + 1, _, HLT.out, rfl, by go_num, by rw [HX.out, if_neg HQ.out]; exact H6⟩
    · have hki : decide ((k : Int) < (xs.length : Int)) = false := decide_eq_false (by omega)
      obtain rfl : k = xs.length := by omega
      have HM := Lib.hid (shutX_map xs id)
      have HE : Hid (∀ y ∈ shutX xs id xs.length, y ∈ xs) := Lib.hid (fun y hy => List.mem_of_mem_take ((List.mem_filter.1 hy).1))
      generalize shutX xs id xs.length = acc at *
      obtain ⟨va, vc, rfl⟩ := row_slice H.out.own
      obtain ⟨o0, o1, o2, o3⟩ := H.out.atOut
      clear hk
      go_wp2_with fail
      obtain ⟨s1, s2, s3, s4⟩ := H.out.b.stop (.int .i64 most) (.int .i64 last) (.slice va acc.length vc)
      have hown := row_far (row_far (row_far H.out.own (p := ⟨w.heap.size + 1, 0, none⟩) (by show w.heap.size + 1 < _; omega) (.int .i64 most)) (p := ⟨w.heap.size + 1, 1, none⟩) (by show w.heap.size + 1 < _; omega) (.int .i64 last)) (p := ⟨w.heap.size + 1, 2, none⟩) (by show w.heap.size + 1 < _; omega) (.slice va acc.length vc)
      have hown2 : (set3 wr (w.heap.size + 1) (.int .i64 most) (.int .i64 last) (.slice va acc.length vc)).ownsRow (w.heap.size + 1 + 1 + 1) 30 5 (.slice va acc.length vc) acc.length (flatO acc) := hown
      change bodyPost _ _ _ _ _ (set3 wr (w.heap.size + 1) (.int .i64 most) (.int .i64 last) (.slice va acc.length vc))
      clear hown
      generalize set3 wr (w.heap.size + 1) (.int .i64 most) (.int .i64 last) (.slice va acc.length vc) = W9 at *
      have HMA := Lib.hid (MAns.of_row (T := T) (w := w) hown2 (by omega) (fun y hy => HA.out.vec y (HE.out y hy)) HT.out s4)
      rw [HM.out] at HMA
      have HB9 := Lib.hid s4
      clear hown2 s4
      refine bodyPost_ret (v := .agg #[.int .i64 most, .int .i64 last, .slice va acc.length vc]) (by simp [results, Try.results19, go_sem, s1, s2, s3]) rfl ⟨_, _, _, rfl, HMA, HB9.out⟩
end Go.Proofs.Ytecgfghmmlpghaa.O
