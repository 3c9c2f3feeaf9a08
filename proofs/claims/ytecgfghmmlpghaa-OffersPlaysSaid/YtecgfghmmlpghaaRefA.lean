/- Walks: the reference's sums. -/
import Derived.Test.YtecgfghmmlpghaaRefV
import Derived.Test.YtecgfghmmlpghaaSums2
set_option linter.unusedVariables false
set_option linter.unusedSimpArgs false
namespace Go.Proofs.Ytecgfghmmlpghaa.O
open Go.RowKit Go.Proofs.Ytecgfghmmlpghaa.Hp Go.Proofs.Ytecgfghmmlpghaa.Mp
set_option maxRecDepth 100000
attribute [local irreducible] Go.wpQuiet
theorem S4.cell9 (s : S4) {w : World} {N : Nat} (h : w.heap[N]? = some (.cells #[.int .i64 s.a, .int .i64 s.b, .int .i64 s.c, .int .i64 s.d] 49 (0, 0))) {k : Nat} (hk : k < 4) : w.cell? ⟨N, k, none⟩ = some (.int .i64 (s.nth k)) := by
  rw [blk_cell h]
  match k, hk with
  | 0, _ => rfl
  | 1, _ => rfl
  | 2, _ => rfl
  | 3, _ => rfl
set_option maxHeartbeats 2000000 in
theorem refOkS_calls (s : S4) (w : World) : Calls Try.prog 46 #[.agg #[.int .i64 s.a, .int .i64 s.b, .int .i64 s.c, .int .i64 s.d]] w fun e w' => e = .returned (.bool (okS s)) ∧ Below w.heap.size w w' := by
  have HC := Lib.hid (fun k hk => s.cell9 (blk_new w (.cells #[.int .i64 s.a, .int .i64 s.b, .int .i64 s.c, .int .i64 s.d] 49)) (k := k) hk)
  have HB := Lib.hid ((Below.refl _ w).alloc (Nat.le_refl _) (.cells #[.int .i64 s.a, .int .i64 s.b, .int .i64 s.c, .int .i64 s.d] 49))
  go_enter Try.func46, Try.ntmps46
  go_wp2_with fail
  generalize w.alloc (.cells #[.int .i64 s.a, .int .i64 s.b, .int .i64 s.c, .int .i64 s.d] 49) = W at *
  go_loopg [3] 4 (fun n i wr => ∃ (k : Nat), k ≤ 4 ∧ n = 4 - k ∧ i = .int .i64 k ∧ wr = W ∧ Hid (∀ j, j < k → okI (s.nth j) = true))
  case atStart => exact ⟨0, by omega, rfl, rfl, rfl, Lib.hid (fun j hj => by omega)⟩
  case round =>
    obtain ⟨k, hk, rfl, rfl, rfl, HK⟩ := hrel
    by_cases hlt : k < 4
    · have y := HC.out k hlt
      have hki : (k : Int) < 4 := by omega
      have hk0 : (0 : Int) ≤ (k : Int) := by omega
      have hw : IntKind.i64.wrap ((k : Int) + 1) = (k : Int) + 1 := IntWalk.i64_in _ (by omega)
      have HLT := Lib.hid hlt
      have HX := Lib.hid (fun h => okS_no s (k := k) hlt h)
      have HY := Lib.hid (fun (h : okI (s.nth k) = true) => (show ∀ j, j < k + 1 → okI (s.nth j) = true from fun j hj => by rcases Nat.lt_succ_iff_lt_or_eq.1 hj with h1 | rfl; exact HK.out j h1; exact h))
      generalize s.nth k = x at *
      by_cases h1 : x < 0
      · have d1 : decide (x < 0) = true := decide_eq_true h1
        have HR := Lib.hid (HX.out (by unfold okI; rw [decide_eq_false (by omega)]; rfl))
        clear hk HX HY
        go_wp2_with fail
        go_ret
        exact ⟨by rw [HR.out]; rfl, HB.out⟩
      · have d1 : decide (x < 0) = false := decide_eq_false h1
        by_cases h2 : 1152921504606846976 < x
        · have d2 : decide (1152921504606846976 < x) = true := decide_eq_true h2
          have HR := Lib.hid (HX.out (by unfold okI; rw [decide_eq_false (show ¬ x ≤ 1152921504606846976 by omega)]; simp))
          clear hk HX HY
          go_wp2_with fail
          go_ret
          exact ⟨by rw [HR.out]; rfl, HB.out⟩
        · have d2 : decide (1152921504606846976 < x) = false := decide_eq_false h2
          have HR := Lib.hid (HY.out (by unfold okI; rw [decide_eq_true (show 0 ≤ x by omega), decide_eq_true (show x ≤ 1152921504606846976 by omega)]; rfl))
          clear hk HX HY
          go_wp2_with fail
          go_roundg (4 - (k + 1))
          case measure => have := HLT.out; omega
          case rel => exact ⟨k + 1, HLT.out, rfl, by go_num, rfl, HR⟩
    · have hki : decide ((k : Int) < 4) = false := decide_eq_false (by omega)
      have hki2 : ¬ (k : Int) < 4 := by omega
      have HR := Lib.hid (okS_yes s (fun j hj => HK.out j (by omega)))
      clear hk hlt
      go_wp2_with fail
      go_ret
      exact ⟨by rw [HR.out]; rfl, HB.out⟩

def mixZ (s t : S4) (k : Nat) : S4 := ⟨if 0 < k then s.a + t.a else 0, if 1 < k then s.b + t.b else 0, if 2 < k then s.c + t.c else 0, if 3 < k then s.d + t.d else 0⟩
theorem mixZ_0 (s t : S4) : mixZ s t 0 = S4.zero := rfl
theorem mixZ_4 (s t : S4) : mixZ s t 4 = plusS s t := rfl
theorem mixZ_set (s t : S4) {k : Nat} (hk : k < 4) : (#[.int .i64 (mixZ s t k).a, .int .i64 (mixZ s t k).b, .int .i64 (mixZ s t k).c, .int .i64 (mixZ s t k).d] : Array Value).setIfInBounds k (.int .i64 (s.nth k + t.nth k)) = #[.int .i64 (mixZ s t (k + 1)).a, .int .i64 (mixZ s t (k + 1)).b, .int .i64 (mixZ s t (k + 1)).c, .int .i64 (mixZ s t (k + 1)).d] := by
  match k, hk with
  | 0, _ => rfl
  | 1, _ => rfl
  | 2, _ => rfl
  | 3, _ => rfl
/-- In the middle of the reference's Add. -/
structure AdR (s t : S4) (w : World) (k : Nat) (wr : World) : Prop where
  x : wr.heap[w.heap.size]? = some (.cells #[.int .i64 s.a, .int .i64 s.b, .int .i64 s.c, .int .i64 s.d] 49 (0, 0))
  y : wr.heap[w.heap.size + 1]? = some (.cells #[.int .i64 t.a, .int .i64 t.b, .int .i64 t.c, .int .i64 t.d] 49 (0, 0))
  z : wr.heap[w.heap.size + 1 + 1]? = some (.cells #[.int .i64 0, .int .i64 0, .int .i64 0, .int .i64 0] 49 (0, 0))
  u : wr.heap[w.heap.size + 1 + 1 + 1]? = some (.cells #[.int .i64 (mixZ s t k).a, .int .i64 (mixZ s t k).b, .int .i64 (mixZ s t k).c, .int .i64 (mixZ s t k).d] 49 (0, 0))
  b : Below w.heap.size w wr
section
variable {s t : S4} {w wr w' : World} {k : Nat}
theorem AdR.start (s t : S4) (w : World) : AdR s t w 0 ((((w.alloc (.cells #[.int .i64 s.a, .int .i64 s.b, .int .i64 s.c, .int .i64 s.d] 49)).alloc (.cells #[.int .i64 t.a, .int .i64 t.b, .int .i64 t.c, .int .i64 t.d] 49)).alloc (.cells #[.int .i64 0, .int .i64 0, .int .i64 0, .int .i64 0] 49)).alloc (.cells #[.int .i64 0, .int .i64 0, .int .i64 0, .int .i64 0] 49)) := by
  refine ⟨blk_alloc (blk_alloc (blk_alloc (blk_new _ _))), ?_, ?_, ?_, ((((Below.refl _ w).alloc (Nat.le_refl _) _).alloc (by simp) _).alloc (by simp; omega) _).alloc (by simp; omega) _⟩
  · have h := blk_alloc (o' := .cells #[.int .i64 0, .int .i64 0, .int .i64 0, .int .i64 0] 49) (blk_alloc (o' := .cells #[.int .i64 0, .int .i64 0, .int .i64 0, .int .i64 0] 49) (blk_new (w.alloc (.cells #[.int .i64 s.a, .int .i64 s.b, .int .i64 s.c, .int .i64 s.d] 49)) (.cells #[.int .i64 t.a, .int .i64 t.b, .int .i64 t.c, .int .i64 t.d] 49)))
    simpa using h
  · have h := blk_alloc (o' := .cells #[.int .i64 0, .int .i64 0, .int .i64 0, .int .i64 0] 49) (blk_new ((w.alloc (.cells #[.int .i64 s.a, .int .i64 s.b, .int .i64 s.c, .int .i64 s.d] 49)).alloc (.cells #[.int .i64 t.a, .int .i64 t.b, .int .i64 t.c, .int .i64 t.d] 49)) (.cells #[.int .i64 0, .int .i64 0, .int .i64 0, .int .i64 0] 49))
    simpa using h
  · have h := blk_new (((w.alloc (.cells #[.int .i64 s.a, .int .i64 s.b, .int .i64 s.c, .int .i64 s.d] 49)).alloc (.cells #[.int .i64 t.a, .int .i64 t.b, .int .i64 t.c, .int .i64 t.d] 49)).alloc (.cells #[.int .i64 0, .int .i64 0, .int .i64 0, .int .i64 0] 49)) (.cells #[.int .i64 0, .int .i64 0, .int .i64 0, .int .i64 0] 49)
    change _ = some (Obj.cells #[.int .i64 0, .int .i64 0, .int .i64 0, .int .i64 0] 49 (0, 0))
    simpa using h
theorem AdR.below (h : AdR s t w k wr) (hb : Below wr.heap.size wr w') : AdR s t w k w' :=
  ⟨(hb.block _ (blk_lt h.x)).trans h.x, (hb.block _ (blk_lt h.y)).trans h.y, (hb.block _ (blk_lt h.z)).trans h.z, (hb.block _ (blk_lt h.u)).trans h.u, h.b.trans (hb.mono h.b.size)⟩
theorem AdR.step (h : AdR s t w k wr) (hk : k < 4) : AdR s t w (k + 1) (wr.setCell ⟨w.heap.size + 1 + 1 + 1, k, none⟩ (.int .i64 (s.nth k + t.nth k))) :=
  ⟨blk_far h.x (by show _ ≠ w.heap.size + 1 + 1 + 1; omega) _, blk_far h.y (by show _ ≠ w.heap.size + 1 + 1 + 1; omega) _, blk_far h.z (by show _ ≠ w.heap.size + 1 + 1 + 1; omega) _, by have := blk_set h.u k (.int .i64 (s.nth k + t.nth k)); rw [mixZ_set s t hk] at this; exact this, h.b.setCell (by show w.heap.size ≤ w.heap.size + 1 + 1 + 1; omega) _⟩
end
/-- The fourth variable's cells. -/
theorem AdR.zs {s t : S4} {w wr : World} {k : Nat} (h : AdR s t w k wr) : (wr.cell? ⟨w.heap.size + 1 + 1, 0, none⟩ = some (.int .i64 0) ∧ wr.cell? ⟨w.heap.size + 1 + 1, 1, none⟩ = some (.int .i64 0) ∧ wr.cell? ⟨w.heap.size + 1 + 1, 2, none⟩ = some (.int .i64 0) ∧ wr.cell? ⟨w.heap.size + 1 + 1, 3, none⟩ = some (.int .i64 0)) ∧ wr.frozen? ⟨w.heap.size + 1 + 1, 0, none⟩ = false ∧ wr.frozen? ⟨w.heap.size + 1 + 1, 1, none⟩ = false ∧ wr.frozen? ⟨w.heap.size + 1 + 1, 2, none⟩ = false ∧ wr.frozen? ⟨w.heap.size + 1 + 1, 3, none⟩ = false :=
  ⟨⟨blk_cell h.z 0, blk_cell h.z 1, blk_cell h.z 2, blk_cell h.z 3⟩, blk_frozen h.z 0, blk_frozen h.z 1, blk_frozen h.z 2, blk_frozen h.z 3⟩
theorem AdR.stop {s t : S4} {w wr : World} {k : Nat} (h : AdR s t w k wr) (v0 v1 v2 v3 : Value) : (set4 wr (w.heap.size + 1 + 1) v0 v1 v2 v3).cell? ⟨w.heap.size + 1 + 1, 0, none⟩ = some v0 ∧ (set4 wr (w.heap.size + 1 + 1) v0 v1 v2 v3).cell? ⟨w.heap.size + 1 + 1, 1, none⟩ = some v1 ∧ (set4 wr (w.heap.size + 1 + 1) v0 v1 v2 v3).cell? ⟨w.heap.size + 1 + 1, 2, none⟩ = some v2 ∧ (set4 wr (w.heap.size + 1 + 1) v0 v1 v2 v3).cell? ⟨w.heap.size + 1 + 1, 3, none⟩ = some v3 ∧ Below w.heap.size w (set4 wr (w.heap.size + 1 + 1) v0 v1 v2 v3) := by
  have e := set4_blk v0 v1 v2 v3 h.z
  exact ⟨blk_cell e 0, blk_cell e 1, blk_cell e 2, blk_cell e 3, set4_below h.b (by omega)⟩
set_option maxHeartbeats 2000000 in
theorem refAdd_no1 (s t : S4) (w : World) (hs : okS s = false) : Calls Try.prog 35 #[.agg #[.int .i64 s.a, .int .i64 s.b, .int .i64 s.c, .int .i64 s.d], .agg #[.int .i64 t.a, .int .i64 t.b, .int .i64 t.c, .int .i64 t.d]] w (AddA (addS s t) w) := by
  have HZ : Hid (addS s t = (S4.zero, false)) := Lib.hid (by unfold addS; rw [hs]; rfl)
  (have HA := Lib.hid (AdR.start s t w)
   have KR := Lib.hid (refOkS_calls s ((((w.alloc (.cells #[.int .i64 s.a, .int .i64 s.b, .int .i64 s.c, .int .i64 s.d] 49)).alloc (.cells #[.int .i64 t.a, .int .i64 t.b, .int .i64 t.c, .int .i64 t.d] 49)).alloc (.cells #[.int .i64 0, .int .i64 0, .int .i64 0, .int .i64 0] 49)).alloc (.cells #[.int .i64 0, .int .i64 0, .int .i64 0, .int .i64 0] 49)))
   rw [hs] at KR
   go_enter Try.func35, Try.ntmps35
   go_wp2_with fail
   refine KR.out.mono ?_
   rintro e w1 ⟨rfl, hb1⟩
   have HA1 := Lib.hid (HA.out.below hb1)
   clear hb1 KR HA)
  have hu : w1.heap[w.heap.size + 1 + 1 + 1]? = some (.cells #[.int .i64 0, .int .i64 0, .int .i64 0, .int .i64 0] 49 (0, 0)) := HA1.out.u
  have u0 := blk_cell hu 0
  have u1 := blk_cell hu 1
  have u2 := blk_cell hu 2
  have u3 := blk_cell hu 3
  clear hu
  (obtain ⟨⟨z0, z1, z2, z3⟩, f0, f1, f2, f3⟩ := (HA1).out.zs
   go_wp2_with fail
   obtain ⟨s0, s1, s2, s3, s5⟩ := (HA1).out.stop (.int .i64 0) (.int .i64 0) (.int .i64 0) (.int .i64 0)
   change bodyPost _ _ _ _ _ (set4 w1 (w.heap.size + 1 + 1) (.int .i64 0) (.int .i64 0) (.int .i64 0) (.int .i64 0))
   generalize set4 w1 (w.heap.size + 1 + 1) (.int .i64 0) (.int .i64 0) (.int .i64 0) (.int .i64 0) = W9 at *
   refine bodyPost_ret (v := .tuple #[.agg #[.int .i64 0, .int .i64 0, .int .i64 0, .int .i64 0], .bool false]) (by simp [results, Try.results35, go_sem, s0, s1, s2, s3]) rfl ⟨by rw [HZ.out]; rfl, s5⟩)
set_option maxHeartbeats 2000000 in
theorem refAdd_no2 (s t : S4) (w : World) (hs : okS s = true) (ht : okS t = false) : Calls Try.prog 35 #[.agg #[.int .i64 s.a, .int .i64 s.b, .int .i64 s.c, .int .i64 s.d], .agg #[.int .i64 t.a, .int .i64 t.b, .int .i64 t.c, .int .i64 t.d]] w (AddA (addS s t) w) := by
  have HZ : Hid (addS s t = (S4.zero, false)) := Lib.hid (by unfold addS; rw [hs, ht]; rfl)
  (have HA := Lib.hid (AdR.start s t w)
   have KR := Lib.hid (refOkS_calls s ((((w.alloc (.cells #[.int .i64 s.a, .int .i64 s.b, .int .i64 s.c, .int .i64 s.d] 49)).alloc (.cells #[.int .i64 t.a, .int .i64 t.b, .int .i64 t.c, .int .i64 t.d] 49)).alloc (.cells #[.int .i64 0, .int .i64 0, .int .i64 0, .int .i64 0] 49)).alloc (.cells #[.int .i64 0, .int .i64 0, .int .i64 0, .int .i64 0] 49)))
   rw [hs] at KR
   go_enter Try.func35, Try.ntmps35
   go_wp2_with fail
   refine KR.out.mono ?_
   rintro e w1 ⟨rfl, hb1⟩
   have HA1 := Lib.hid (HA.out.below hb1)
   clear hb1 KR HA)
  have y0 := blk_cell HA1.out.y 0
  have y1 := blk_cell HA1.out.y 1
  have y2 := blk_cell HA1.out.y 2
  have y3 := blk_cell HA1.out.y 3
  have KT := Lib.hid (refOkS_calls t w1)
  rw [ht] at KT
  go_wp2_with fail
  refine KT.out.mono ?_
  rintro e w2 ⟨rfl, hb2⟩
  have HA2 := Lib.hid (HA1.out.below hb2)
  clear hb2 KT HA1 y0 y1 y2 y3
  have hu : w2.heap[w.heap.size + 1 + 1 + 1]? = some (.cells #[.int .i64 0, .int .i64 0, .int .i64 0, .int .i64 0] 49 (0, 0)) := HA2.out.u
  have u0 := blk_cell hu 0
  have u1 := blk_cell hu 1
  have u2 := blk_cell hu 2
  have u3 := blk_cell hu 3
  clear hu
  (obtain ⟨⟨z0, z1, z2, z3⟩, f0, f1, f2, f3⟩ := (HA2).out.zs
   go_wp2_with fail
   obtain ⟨s0, s1, s2, s3, s5⟩ := (HA2).out.stop (.int .i64 0) (.int .i64 0) (.int .i64 0) (.int .i64 0)
   change bodyPost _ _ _ _ _ (set4 w2 (w.heap.size + 1 + 1) (.int .i64 0) (.int .i64 0) (.int .i64 0) (.int .i64 0))
   generalize set4 w2 (w.heap.size + 1 + 1) (.int .i64 0) (.int .i64 0) (.int .i64 0) (.int .i64 0) = W9 at *
   refine bodyPost_ret (v := .tuple #[.agg #[.int .i64 0, .int .i64 0, .int .i64 0, .int .i64 0], .bool false]) (by simp [results, Try.results35, go_sem, s0, s1, s2, s3]) rfl ⟨by rw [HZ.out]; rfl, s5⟩)
set_option maxHeartbeats 2000000 in
theorem refAdd_yes (s t : S4) (w : World) (hs : okS s = true) (ht : okS t = true) : Calls Try.prog 35 #[.agg #[.int .i64 s.a, .int .i64 s.b, .int .i64 s.c, .int .i64 s.d], .agg #[.int .i64 t.a, .int .i64 t.b, .int .i64 t.c, .int .i64 t.d]] w (AddA (addS s t) w) := by
  have HSUM := Lib.hid (fun k (hk : k < 4) => okS_sum hs ht hk)
  have HZ : Hid (addS s t = if okS (plusS s t) then (plusS s t, true) else (S4.zero, false)) := Lib.hid (by unfold addS; rw [hs, ht]; rfl)
  (have HA := Lib.hid (AdR.start s t w)
   have KR := Lib.hid (refOkS_calls s ((((w.alloc (.cells #[.int .i64 s.a, .int .i64 s.b, .int .i64 s.c, .int .i64 s.d] 49)).alloc (.cells #[.int .i64 t.a, .int .i64 t.b, .int .i64 t.c, .int .i64 t.d] 49)).alloc (.cells #[.int .i64 0, .int .i64 0, .int .i64 0, .int .i64 0] 49)).alloc (.cells #[.int .i64 0, .int .i64 0, .int .i64 0, .int .i64 0] 49)))
   rw [hs] at KR
   go_enter Try.func35, Try.ntmps35
   go_wp2_with fail
   refine KR.out.mono ?_
   rintro e w1 ⟨rfl, hb1⟩
   have HA1 := Lib.hid (HA.out.below hb1)
   clear hb1 KR HA)
  have y0 := blk_cell HA1.out.y 0
  have y1 := blk_cell HA1.out.y 1
  have y2 := blk_cell HA1.out.y 2
  have y3 := blk_cell HA1.out.y 3
  have KT := Lib.hid (refOkS_calls t w1)
  rw [ht] at KT
  go_wp2_with fail
  refine KT.out.mono ?_
  rintro e w2 ⟨rfl, hb2⟩
  have HA2 := Lib.hid (HA1.out.below hb2)
  clear hb2 KT HA1 y0 y1 y2 y3 hs ht
  go_wp2_with fail
  go_loopg [7] 4 (fun n i wr => ∃ (k : Nat), k ≤ 4 ∧ n = 4 - k ∧ i = .int .i64 k ∧ Hid (AdR s t w k wr))
  case atStart => exact ⟨0, by omega, rfl, rfl, HA2⟩
  case round =>
    obtain ⟨k, hk, rfl, rfl, HK⟩ := hrel
    by_cases hlt : k < 4
    · have x := S4.cell9 _ HK.out.x hlt
      have xf := blk_frozen HK.out.u k
      have xu := S4.cell9 _ HK.out.u hlt
      have y := S4.cell9 _ HK.out.y hlt
      have hsum := HSUM.out k hlt
      have hki : (k : Int) < 4 := by omega
      have hk0 : (0 : Int) ≤ (k : Int) := by omega
      have hw : IntKind.i64.wrap ((k : Int) + 1) = (k : Int) + 1 := IntWalk.i64_in _ (by omega)
      have HLT := Lib.hid hlt
      have HN := Lib.hid ((HK.out.below (below_drew (Below.refl _ wr))).step hlt)
      clear hk hlt
      generalize s.nth k = xx at *
      generalize t.nth k = yy at *
      go_wp2_with fail
      go_region
      go_wp2_with fail
      go_roundg (4 - (k + 1))
      case measure => have := HLT.out; omega
      case rel => exact ⟨k + 1, HLT.out, rfl, by go_num, HN⟩
    · have h4 : k = 4 := by omega
      subst h4
      have HX := HK.out.u
      rw [mixZ_4] at HX
      have x0 := blk_cell HX 0
      have x1 := blk_cell HX 1
      have x2 := blk_cell HX 2
      have x3 := blk_cell HX 3
      have KU := Lib.hid (refOkS_calls (plusS s t) wr)
      clear HX hlt hk
      go_wp2_with fail
      refine KU.out.mono ?_
      rintro e w3 ⟨rfl, hb3⟩
      have HK3 := Lib.hid (HK.out.below hb3)
      clear hb3 KU x0 x1 x2 x3 HK
      rcases Bool.eq_false_or_eq_true (okS (plusS s t)) with hu | hu
      · rw [hu] at HZ
        have HX3 := HK3.out.u
        rw [mixZ_4] at HX3
        have x0 := blk_cell HX3 0
        have x1 := blk_cell HX3 1
        have x2 := blk_cell HX3 2
        have x3 := blk_cell HX3 3
        clear HX3
        obtain ⟨⟨z0, z1, z2, z3⟩, f0, f1, f2, f3⟩ := HK3.out.zs
        go_wp2_with fail
        obtain ⟨s0, s1, s2, s3, s5⟩ := HK3.out.stop (.int .i64 (plusS s t).a) (.int .i64 (plusS s t).b) (.int .i64 (plusS s t).c) (.int .i64 (plusS s t).d)
        change bodyPost _ _ _ _ _ (set4 w3 (w.heap.size + 1 + 1) (.int .i64 (plusS s t).a) (.int .i64 (plusS s t).b) (.int .i64 (plusS s t).c) (.int .i64 (plusS s t).d))
        generalize set4 w3 (w.heap.size + 1 + 1) (.int .i64 (plusS s t).a) (.int .i64 (plusS s t).b) (.int .i64 (plusS s t).c) (.int .i64 (plusS s t).d) = W9 at *
        refine bodyPost_ret (v := .tuple #[.agg #[.int .i64 (plusS s t).a, .int .i64 (plusS s t).b, .int .i64 (plusS s t).c, .int .i64 (plusS s t).d], .bool true]) (by simp [results, Try.results35, go_sem, s0, s1, s2, s3]) rfl ⟨by rw [HZ.out]; rfl, s5⟩
      · rw [hu] at HZ
        (obtain ⟨⟨z0, z1, z2, z3⟩, f0, f1, f2, f3⟩ := (HK3).out.zs
         go_wp2_with fail
         obtain ⟨s0, s1, s2, s3, s5⟩ := (HK3).out.stop (.int .i64 0) (.int .i64 0) (.int .i64 0) (.int .i64 0)
         change bodyPost _ _ _ _ _ (set4 w3 (w.heap.size + 1 + 1) (.int .i64 0) (.int .i64 0) (.int .i64 0) (.int .i64 0))
         generalize set4 w3 (w.heap.size + 1 + 1) (.int .i64 0) (.int .i64 0) (.int .i64 0) (.int .i64 0) = W9 at *
         refine bodyPost_ret (v := .tuple #[.agg #[.int .i64 0, .int .i64 0, .int .i64 0, .int .i64 0], .bool false]) (by simp [results, Try.results35, go_sem, s0, s1, s2, s3]) rfl ⟨by rw [HZ.out]; rfl, s5⟩)
theorem refAdd_calls (s t : S4) (w : World) : Calls Try.prog 35 #[.agg #[.int .i64 s.a, .int .i64 s.b, .int .i64 s.c, .int .i64 s.d], .agg #[.int .i64 t.a, .int .i64 t.b, .int .i64 t.c, .int .i64 t.d]] w (AddA (addS s t) w) := by
  rcases Bool.eq_false_or_eq_true (okS s) with hs | hs
  · rcases Bool.eq_false_or_eq_true (okS t) with ht | ht
    · exact refAdd_yes s t w hs ht
    · exact refAdd_no2 s t w hs ht
  · exact refAdd_no1 s t w hs
end Go.Proofs.Ytecgfghmmlpghaa.O
