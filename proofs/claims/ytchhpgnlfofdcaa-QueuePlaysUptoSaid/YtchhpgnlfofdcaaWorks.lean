/- Walks: works. -/
import Derived.Test.YtchhpgnlfofdcaaSame
import Derived.Outline
set_option linter.unusedVariables false
set_option linter.unusedSimpArgs false
namespace Go.Proofs.Ytchhpgnlfofdcaa.Q
open Go.RowKit Go.Sort Go.Proofs.Ytchhpgnlfofdcaa.Hp Go.Proofs.Ytchhpgnlfofdcaa.Mp
set_option maxRecDepth 100000

def ev (k f : Int) : Ev := ⟨k, f, 0, 0, []⟩
theorem PAt.nil (T : Nat → Prop) (w : World) (va : Option Addr) : PAt T w va [] := ⟨0, 0, fun h => by simp at h, fun j u hu => by simp [flatP] at hu⟩
/-- A queue out of its plain words. -/
theorem abs_one {l : List (Int × Qr)} {k : Int} {p : Pl} (h : abs l = [(k, p)]) : ∃ q, l = [(k, q)] ∧ q.evs = p.1 ∧ q.lost = p.2 := by
  match l, h with
  | [(k2, q)], h =>
    simp only [abs, List.map_cons, List.map_nil, plain, List.cons.injEq, Prod.mk.injEq, and_true] at h
    obtain ⟨rfl, h2⟩ := h
    exact ⟨q, rfl, by rw [← h2], by rw [← h2]⟩
set_option maxHeartbeats 4000000 in
theorem works_calls (hS : SortC) (w : World) : Calls Try.prog 14 #[] w fun e w' => e = .returned (.bool true) ∧ Below w.heap.size w w' := by
  have HSO := Lib.hid hS
  clear hS
  go_enter Try.func14, Try.ntmps14
  go_wp2_with fail
  refine (new_yes 2 _ (by omega)).mono ?_
  rintro e w1 ⟨rfl, hT, hB⟩
  have HT := Lib.hid hT
  have HB := Lib.hid hB
  clear hT hB
  generalize hb : w.heap.size + 1 = b at *
  generalize hm : w.heap.size = m at *
  have HBM := Lib.hid (And.intro hb hm)
  clear hb hm
  go_wp2_with fail
  refine (open_yes 4 _ HT.out (by omega) rfl).mono ?_
  rintro e w2 ⟨rfl, hT2, hC2⟩
  have HT2 : Hid (Tq w2 b m 2 [(4, freshQ w1.heap.size)]) := Lib.hid hT2
  have HQ2 := Lib.hid hC2
  clear hT2 hC2
  go_wp2_with fail
  refine (open_there 4 _ HT2.out _ rfl).mono ?_
  rintro e w' ⟨rfl, rfl⟩
  go_wp2_with fail
  have hblk := blk_new w2 (.cells #[.int .i64 1, .int .i64 4, .int .i64 0, .int .i64 0, .slice none 0 0, .int .i64 2, .int .i64 5, .int .i64 0, .int .i64 0, .slice none 0 0, .int .i64 3, .int .i64 4, .int .i64 0, .int .i64 0, .slice none 0 0, .int .i64 4, .int .i64 4, .int .i64 0, .int .i64 0, .slice none 0 0] 28)
  have hb3 := (Below.refl _ w2).alloc (Nat.le_refl _) (.cells #[.int .i64 1, .int .i64 4, .int .i64 0, .int .i64 0, .slice none 0 0, .int .i64 2, .int .i64 5, .int .i64 0, .int .i64 0, .slice none 0 0, .int .i64 3, .int .i64 4, .int .i64 0, .int .i64 0, .slice none 0 0, .int .i64 4, .int .i64 4, .int .i64 0, .int .i64 0, .slice none 0 0] 28)
  have HB3 := Lib.hid hb3
  have HT3 := Lib.hid (HT2.out.below hb3)
  have hrow : EAt (fun i => i = w2.heap.size) (w2.alloc (.cells #[.int .i64 1, .int .i64 4, .int .i64 0, .int .i64 0, .slice none 0 0, .int .i64 2, .int .i64 5, .int .i64 0, .int .i64 0, .slice none 0 0, .int .i64 3, .int .i64 4, .int .i64 0, .int .i64 0, .slice none 0 0, .int .i64 4, .int .i64 4, .int .i64 0, .int .i64 0, .slice none 0 0] 28)) (some ⟨w2.heap.size, 0, none⟩) w2.heap.size 0 [ev 1 4, ev 2 5, ev 3 4, ev 4 4] := by
    refine ⟨fun _ => ⟨rfl, rfl⟩, fun j hj => ?_⟩
    match j, hj with
    | 0, _ => exact ⟨none, 0, blk_cell hblk 0, blk_cell hblk 1, blk_cell hblk 2, blk_cell hblk 3, blk_cell hblk 4, PAt.nil _ _ _⟩
    | 1, _ => exact ⟨none, 0, blk_cell hblk 5, blk_cell hblk 6, blk_cell hblk 7, blk_cell hblk 8, blk_cell hblk 9, PAt.nil _ _ _⟩
    | 2, _ => exact ⟨none, 0, blk_cell hblk 10, blk_cell hblk 11, blk_cell hblk 12, blk_cell hblk 13, blk_cell hblk 14, PAt.nil _ _ _⟩
    | 3, _ => exact ⟨none, 0, blk_cell hblk 15, blk_cell hblk 16, blk_cell hblk 17, blk_cell hblk 18, blk_cell hblk 19, PAt.nil _ _ _⟩
    | j + 4, hj => exact absurd hj (by simp)
  have K8 := Lib.hid (putAll_calls b m 2 [(4, freshQ w1.heap.size)] _ _ _ _ 4 0 _ _ HT3.out (by omega) (fun k q hk => by
      simp only [mget] at hk
      split at hk
      · injection hk with hk; rw [← hk]; simp [freshQ]
      · simp at hk) (by simp) (fun i hi => ⟨by rw [hi]; simp, fun ho => by have := HT2.out.own_lt i ho; omega⟩) hrow (fun e he => by
      simp only [List.mem_cons, List.not_mem_nil, or_false] at he
      rcases he with rfl | rfl | rfl | rfl <;> simp [ev]))
  clear hrow hblk hb3
  refine K8.out.mono ?_
  rintro e w3 ⟨l', rfl, hq, ha, hbd⟩
  have hh : hits (abs [(4, freshQ w1.heap.size)]) [ev 1 4, ev 2 5, ev 3 4, ev 4 4] = 3 := rfl
  have hp : putsF 2 (abs [(4, freshQ w1.heap.size)]) [ev 1 4, ev 2 5, ev 3 4, ev 4 4] = [(4, ([ev 3 4, ev 4 4], 1))] := rfl
  rw [hp] at ha
  obtain ⟨q, rfl, he, hl⟩ := abs_one ha
  rw [hh]
  have HQ3 := Lib.hid hq
  have HE := Lib.hid he
  have HL := Lib.hid hl
  clear hh hp ha hbd hq he hl K8
  go_wp2_with fail
  refine (takeAll_calls b m 2 [(4, q)] 4 1 q _ HQ3.out.tq rfl (by rw [HE.out]; simp)).mono ?_
  rintro e w4 ⟨fa, fc, rfl, hq4, hrow4⟩
  rw [HE.out] at hq4 hrow4 ⊢
  have e1 : [ev 3 4, ev 4 4].take (takeN [ev 3 4, ev 4 4] 1) = [ev 3 4] := rfl
  have e2 : [ev 3 4, ev 4 4].drop (takeN [ev 3 4, ev 4 4] 1) = [ev 4 4] := rfl
  rw [e1] at hrow4 ⊢
  rw [e2] at hq4
  obtain ⟨g, o, hlt4, hat4⟩ := hrow4
  obtain ⟨hfa, hT4⟩ := hlt4 (by simp)
  subst hfa
  obtain ⟨va, vc, hev⟩ := hat4 0 (by simp)
  have c0 := hev.c0
  simp only [List.getElem_cons_zero, Nat.zero_mul, Nat.add_zero] at c0
  have HQ4 := Lib.hid hq4
  clear e1 e2 hq4 hlt4 hat4 hT4 hev
  have K9 := lost_calls 4 w4 HQ4.out.tq
  have K10 := long_calls 4 w4 HQ4.out.tq
  rw [show lostF (mput [(4, q)] 4 { q with evs := [ev 4 4] }) 4 = 1 from HL.out] at K9
  rw [show longF (mput [(4, q)] 4 { q with evs := [ev 4 4] }) 4 = 1 from rfl] at K10
  have K9h := Lib.hid K9
  have K10h := Lib.hid K10
  have K13 := Lib.hid (those_calls HSO.out w4 HQ4.out.tq (by simp [mput]) (by simp [mput]))
  clear K9 K10
  simp only [ev, List.length_cons, List.length_nil] at c0 ⊢
  go_wp2_with (first | (go_at_call 9; refine K9h.out.mono ?_; rintro e w' ⟨rfl, rfl⟩) | (go_at_call 10; refine K10h.out.mono ?_; rintro e w' ⟨rfl, rfl⟩))
  refine K13.out.mono ?_
  rintro e w5 ⟨v, ss, rfl, _, _, hrow5, hb5⟩
  have hv : ∃ fa fc, v = .slice fa 1 fc := by
    rcases hrow5.2 with ⟨rfl, h0⟩ | ⟨g, cp, cur, rfl, _⟩
    · exact absurd h0 (by simp [mput])
    · exact ⟨_, _, rfl⟩
  obtain ⟨fa5, fc5, rfl⟩ := hv
  have HB5 := Lib.hid hb5
  clear hrow5 hb5 K13 K9h K10h
  go_wp2
  go_ret
  refine ⟨rfl, ?_⟩
  have hm := HBM.out.2
  have own0 : ∀ i, Own m [(4, freshQ w1.heap.size)] i → m ≤ i := fun i hi => by
    rcases hi with rfl | ⟨k, q2, hk, hi⟩
    · omega
    · simp only [mget] at hk
      split at hk
      · injection hk with hk
        rw [← hk] at hi
        have := HB.out.size
        rcases hi with rfl | rfl <;> simp only [freshQ] <;> omega
      · simp at hk
  have own1 : ∀ i, Own m [(4, q)] i → m ≤ i := fun i hi => by
    rcases HQ3.out.own i hi with h1 | h1
    · exact own0 i h1
    · have h2 := HB3.out.size
      have h3 := HQ2.out.size
      have h4 := HB.out.size
      omega
  have s0 := HB.out.size
  have k1 := HB.out.trans (HQ2.out.below (fun i hi => by omega) (by omega))
  have s1 := k1.size
  have k2 := k1.trans (HB3.out.mono (by omega))
  have s2 := k2.size
  have k3 := k2.trans (HQ3.out.chg.below own0 (by omega))
  have s3 := k3.size
  have k4 := k3.trans (HQ4.out.chg.below own1 (by omega))
  have s4 := k4.size
  rw [hm]
  exact k4.trans (HB5.out.mono (by omega))
end Go.Proofs.Ytchhpgnlfofdcaa.Q
