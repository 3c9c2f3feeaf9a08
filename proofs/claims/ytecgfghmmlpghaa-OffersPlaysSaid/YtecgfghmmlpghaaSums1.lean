/- Walks: Sums.Add. -/
import Derived.Test.YtecgfghmmlpghaaSums0
set_option linter.unusedVariables false
set_option linter.unusedSimpArgs false
namespace Go.Proofs.Ytecgfghmmlpghaa.O
open Go.RowKit Go.Proofs.Ytecgfghmmlpghaa.Hp Go.Proofs.Ytecgfghmmlpghaa.Mp
set_option maxRecDepth 100000
attribute [local irreducible] Go.wpQuiet
def plusS (s t : S4) : S4 := ⟨s.a + t.a, s.b + t.b, s.c + t.c, s.d + t.d⟩
/-- The sum of two, if all is right. -/
def addS (s t : S4) : S4 × Bool := if okS s && okS t && okS (plusS s t) then (plusS s t, true) else (S4.zero, false)
def mixS (s t : S4) (k : Nat) : S4 := ⟨if 0 < k then s.a + t.a else s.a, if 1 < k then s.b + t.b else s.b, if 2 < k then s.c + t.c else s.c, if 3 < k then s.d + t.d else s.d⟩
theorem mix_0 (s t : S4) : mixS s t 0 = s := rfl
theorem mix_4 (s t : S4) : mixS s t 4 = plusS s t := rfl
theorem mix_nth (s t : S4) {k : Nat} (hk : k < 4) : (mixS s t k).nth k = s.nth k := by
  match k, hk with
  | 0, _ => rfl
  | 1, _ => rfl
  | 2, _ => rfl
  | 3, _ => rfl
theorem mix_set (s t : S4) {k : Nat} (hk : k < 4) : (#[.int .i64 (mixS s t k).a, .int .i64 (mixS s t k).b, .int .i64 (mixS s t k).c, .int .i64 (mixS s t k).d] : Array Value).setIfInBounds k (.int .i64 (s.nth k + t.nth k)) = #[.int .i64 (mixS s t (k + 1)).a, .int .i64 (mixS s t (k + 1)).b, .int .i64 (mixS s t (k + 1)).c, .int .i64 (mixS s t (k + 1)).d] := by
  match k, hk with
  | 0, _ => rfl
  | 1, _ => rfl
  | 2, _ => rfl
  | 3, _ => rfl
theorem okS_nth {s : S4} (h : okS s = true) {k : Nat} (hk : k < 4) : 0 ≤ s.nth k ∧ s.nth k ≤ 1152921504606846976 := by
  unfold okS okI at h
  simp only [Bool.and_eq_true, decide_eq_true_eq] at h
  obtain ⟨⟨⟨h1, h2⟩, h3⟩, h4⟩ := h
  match k, hk with
  | 0, _ => exact h1
  | 1, _ => exact h2
  | 2, _ => exact h3
  | 3, _ => exact h4
/-- In the middle of Add. -/
structure AdS (s t : S4) (w : World) (k : Nat) (wr : World) : Prop where
  x : wr.heap[w.heap.size]? = some (.cells #[.int .i64 (mixS s t k).a, .int .i64 (mixS s t k).b, .int .i64 (mixS s t k).c, .int .i64 (mixS s t k).d] 50 (0, 0))
  y : wr.heap[w.heap.size + 1]? = some (.cells #[.int .i64 t.a, .int .i64 t.b, .int .i64 t.c, .int .i64 t.d] 50 (0, 0))
  z : wr.heap[w.heap.size + 1 + 1]? = some (.cells #[.int .i64 0, .int .i64 0, .int .i64 0, .int .i64 0] 50 (0, 0))
  b : Below w.heap.size w wr
theorem AdS.start (s t : S4) (w : World) : AdS s t w 0 (((w.alloc (.cells #[.int .i64 s.a, .int .i64 s.b, .int .i64 s.c, .int .i64 s.d] 50)).alloc (.cells #[.int .i64 t.a, .int .i64 t.b, .int .i64 t.c, .int .i64 t.d] 50)).alloc (.cells #[.int .i64 0, .int .i64 0, .int .i64 0, .int .i64 0] 50)) := by
  refine ⟨blk_alloc (blk_alloc (blk_new _ _)), ?_, ?_, (((Below.refl _ w).alloc (Nat.le_refl _) _).alloc (by simp) _).alloc (by simp; omega) _⟩
  · have h := blk_alloc (o' := .cells #[.int .i64 0, .int .i64 0, .int .i64 0, .int .i64 0] 50) (blk_new (w.alloc (.cells #[.int .i64 s.a, .int .i64 s.b, .int .i64 s.c, .int .i64 s.d] 50)) (.cells #[.int .i64 t.a, .int .i64 t.b, .int .i64 t.c, .int .i64 t.d] 50))
    simpa using h
  · have h := blk_new ((w.alloc (.cells #[.int .i64 s.a, .int .i64 s.b, .int .i64 s.c, .int .i64 s.d] 50)).alloc (.cells #[.int .i64 t.a, .int .i64 t.b, .int .i64 t.c, .int .i64 t.d] 50)) (.cells #[.int .i64 0, .int .i64 0, .int .i64 0, .int .i64 0] 50)
    simpa using h
theorem AdS.below {s t : S4} {w wr w' : World} {k : Nat} (h : AdS s t w k wr) (hb : Below wr.heap.size wr w') : AdS s t w k w' :=
  ⟨(hb.block _ (blk_lt h.x)).trans h.x, (hb.block _ (blk_lt h.y)).trans h.y, (hb.block _ (blk_lt h.z)).trans h.z, h.b.trans (hb.mono h.b.size)⟩
theorem AdS.step {s t : S4} {w wr : World} {k : Nat} (h : AdS s t w k wr) (hk : k < 4) : AdS s t w (k + 1) (wr.setCell ⟨w.heap.size, k, none⟩ (.int .i64 (s.nth k + t.nth k))) :=
  ⟨by have := blk_set h.x k (.int .i64 (s.nth k + t.nth k)); rw [mix_set s t hk] at this; exact this, blk_far h.y (by simp) _, blk_far h.z (by show _ ≠ w.heap.size; omega) _, h.b.setCell (by simp) _⟩
def set4 (w : World) (N : Nat) (v0 v1 v2 v3 : Value) : World := (((w.setCell ⟨N, 0, none⟩ v0).setCell ⟨N, 1, none⟩ v1).setCell ⟨N, 2, none⟩ v2).setCell ⟨N, 3, none⟩ v3
theorem set4_blk {wr : World} {N : Nat} {a0 a1 a2 a3 : Value} (v0 v1 v2 v3 : Value) {t : TypeId} (h : wr.heap[N]? = some (.cells #[a0, a1, a2, a3] t (0, 0))) : (set4 wr N v0 v1 v2 v3).heap[N]? = some (.cells #[v0, v1, v2, v3] t (0, 0)) :=
  blk_set (blk_set (blk_set (blk_set h 0 v0) 1 v1) 2 v2) 3 v3
theorem set4_far {wr : World} {N : Nat} {v0 v1 v2 v3 : Value} {i : Nat} (h : i ≠ N) : (set4 wr N v0 v1 v2 v3).heap[i]? = wr.heap[i]? := by
  unfold set4
  rw [Below.heap_setCell _ _ _ _ h, Below.heap_setCell _ _ _ _ h, Below.heap_setCell _ _ _ _ h, Below.heap_setCell _ _ _ _ h]
theorem set4_below {w wr : World} {N B : Nat} {v0 v1 v2 v3 : Value} (h : Below B w wr) (hN : B ≤ N) : Below B w (set4 wr N v0 v1 v2 v3) := (((h.setCell hN _).setCell hN _).setCell hN _).setCell hN _
/-- The fourth variable's cells. -/
theorem AdS.zs {s t : S4} {w wr : World} {k : Nat} (h : AdS s t w k wr) : (wr.cell? ⟨w.heap.size + 1 + 1, 0, none⟩ = some (.int .i64 0) ∧ wr.cell? ⟨w.heap.size + 1 + 1, 1, none⟩ = some (.int .i64 0) ∧ wr.cell? ⟨w.heap.size + 1 + 1, 2, none⟩ = some (.int .i64 0) ∧ wr.cell? ⟨w.heap.size + 1 + 1, 3, none⟩ = some (.int .i64 0)) ∧ wr.frozen? ⟨w.heap.size + 1 + 1, 0, none⟩ = false ∧ wr.frozen? ⟨w.heap.size + 1 + 1, 1, none⟩ = false ∧ wr.frozen? ⟨w.heap.size + 1 + 1, 2, none⟩ = false ∧ wr.frozen? ⟨w.heap.size + 1 + 1, 3, none⟩ = false :=
  ⟨⟨blk_cell h.z 0, blk_cell h.z 1, blk_cell h.z 2, blk_cell h.z 3⟩, blk_frozen h.z 0, blk_frozen h.z 1, blk_frozen h.z 2, blk_frozen h.z 3⟩
theorem AdS.stop {s t : S4} {w wr : World} {k : Nat} (h : AdS s t w k wr) (v0 v1 v2 v3 : Value) : (set4 wr (w.heap.size + 1 + 1) v0 v1 v2 v3).cell? ⟨w.heap.size + 1 + 1, 0, none⟩ = some v0 ∧ (set4 wr (w.heap.size + 1 + 1) v0 v1 v2 v3).cell? ⟨w.heap.size + 1 + 1, 1, none⟩ = some v1 ∧ (set4 wr (w.heap.size + 1 + 1) v0 v1 v2 v3).cell? ⟨w.heap.size + 1 + 1, 2, none⟩ = some v2 ∧ (set4 wr (w.heap.size + 1 + 1) v0 v1 v2 v3).cell? ⟨w.heap.size + 1 + 1, 3, none⟩ = some v3 ∧ Below w.heap.size w (set4 wr (w.heap.size + 1 + 1) v0 v1 v2 v3) := by
  have e := set4_blk v0 v1 v2 v3 h.z
  exact ⟨blk_cell e 0, blk_cell e 1, blk_cell e 2, blk_cell e 3, set4_below h.b (by omega)⟩
/-- What Add answers. -/
def AddA (r : S4 × Bool) (w : World) (e : Ending) (w' : World) : Prop := e = .returned (.tuple #[.agg #[.int .i64 r.1.a, .int .i64 r.1.b, .int .i64 r.1.c, .int .i64 r.1.d], .bool r.2]) ∧ Below w.heap.size w w'
set_option maxHeartbeats 2000000 in
theorem sumsAdd_no1 (s t : S4) (w : World) (hs : okS s = false) : Calls Try.prog 31 #[.agg #[.int .i64 s.a, .int .i64 s.b, .int .i64 s.c, .int .i64 s.d], .agg #[.int .i64 t.a, .int .i64 t.b, .int .i64 t.c, .int .i64 t.d]] w (AddA (addS s t) w) := by
  have HZ : Hid (addS s t = (S4.zero, false)) := Lib.hid (by unfold addS; rw [hs]; rfl)
  (have HA := Lib.hid (AdS.start s t w)
   have KR := Lib.hid (sumsRight_calls s (((w.alloc (.cells #[.int .i64 s.a, .int .i64 s.b, .int .i64 s.c, .int .i64 s.d] 50)).alloc (.cells #[.int .i64 t.a, .int .i64 t.b, .int .i64 t.c, .int .i64 t.d] 50)).alloc (.cells #[.int .i64 0, .int .i64 0, .int .i64 0, .int .i64 0] 50)))
   rw [hs] at KR
   go_enter Try.func31, Try.ntmps31
   go_wp2_with fail
   refine KR.out.mono ?_
   rintro e w1 ⟨rfl, hb1⟩
   have HA1 := Lib.hid (HA.out.below hb1)
   clear hb1 KR HA)
  (obtain ⟨⟨z0, z1, z2, z3⟩, f0, f1, f2, f3⟩ := (HA1).out.zs
   go_wp2_with fail
   obtain ⟨s0, s1, s2, s3, s5⟩ := (HA1).out.stop (.int .i64 0) (.int .i64 0) (.int .i64 0) (.int .i64 0)
   change bodyPost _ _ _ _ _ (set4 w1 (w.heap.size + 1 + 1) (.int .i64 0) (.int .i64 0) (.int .i64 0) (.int .i64 0))
   generalize set4 w1 (w.heap.size + 1 + 1) (.int .i64 0) (.int .i64 0) (.int .i64 0) (.int .i64 0) = W9 at *
   refine bodyPost_ret (v := .tuple #[.agg #[.int .i64 0, .int .i64 0, .int .i64 0, .int .i64 0], .bool false]) (by simp [results, Try.results31, go_sem, s0, s1, s2, s3]) rfl ⟨by rw [HZ.out]; rfl, s5⟩)
set_option maxHeartbeats 2000000 in
theorem sumsAdd_no2 (s t : S4) (w : World) (hs : okS s = true) (ht : okS t = false) : Calls Try.prog 31 #[.agg #[.int .i64 s.a, .int .i64 s.b, .int .i64 s.c, .int .i64 s.d], .agg #[.int .i64 t.a, .int .i64 t.b, .int .i64 t.c, .int .i64 t.d]] w (AddA (addS s t) w) := by
  have HZ : Hid (addS s t = (S4.zero, false)) := Lib.hid (by unfold addS; rw [hs, ht]; rfl)
  (have HA := Lib.hid (AdS.start s t w)
   have KR := Lib.hid (sumsRight_calls s (((w.alloc (.cells #[.int .i64 s.a, .int .i64 s.b, .int .i64 s.c, .int .i64 s.d] 50)).alloc (.cells #[.int .i64 t.a, .int .i64 t.b, .int .i64 t.c, .int .i64 t.d] 50)).alloc (.cells #[.int .i64 0, .int .i64 0, .int .i64 0, .int .i64 0] 50)))
   rw [hs] at KR
   go_enter Try.func31, Try.ntmps31
   go_wp2_with fail
   refine KR.out.mono ?_
   rintro e w1 ⟨rfl, hb1⟩
   have HA1 := Lib.hid (HA.out.below hb1)
   clear hb1 KR HA)
  have y0 := blk_cell HA1.out.y 0
  have y1 := blk_cell HA1.out.y 1
  have y2 := blk_cell HA1.out.y 2
  have y3 := blk_cell HA1.out.y 3
  have KT := Lib.hid (sumsRight_calls t w1)
  rw [ht] at KT
  go_wp2_with fail
  refine KT.out.mono ?_
  rintro e w2 ⟨rfl, hb2⟩
  have HA2 := Lib.hid (HA1.out.below hb2)
  clear hb2 KT HA1 y0 y1 y2 y3
  (obtain ⟨⟨z0, z1, z2, z3⟩, f0, f1, f2, f3⟩ := (HA2).out.zs
   go_wp2_with fail
   obtain ⟨s0, s1, s2, s3, s5⟩ := (HA2).out.stop (.int .i64 0) (.int .i64 0) (.int .i64 0) (.int .i64 0)
   change bodyPost _ _ _ _ _ (set4 w2 (w.heap.size + 1 + 1) (.int .i64 0) (.int .i64 0) (.int .i64 0) (.int .i64 0))
   generalize set4 w2 (w.heap.size + 1 + 1) (.int .i64 0) (.int .i64 0) (.int .i64 0) (.int .i64 0) = W9 at *
   refine bodyPost_ret (v := .tuple #[.agg #[.int .i64 0, .int .i64 0, .int .i64 0, .int .i64 0], .bool false]) (by simp [results, Try.results31, go_sem, s0, s1, s2, s3]) rfl ⟨by rw [HZ.out]; rfl, s5⟩)
theorem okS_sum {s t : S4} (hs : okS s = true) (ht : okS t = true) {k : Nat} (hk : k < 4) : IntKind.i64.wrap (s.nth k + t.nth k) = s.nth k + t.nth k :=
  IntWalk.i64_in _ (by have := okS_nth hs hk; have := okS_nth ht hk; omega)
set_option maxHeartbeats 2000000 in
theorem sumsAdd_yes (s t : S4) (w : World) (hs : okS s = true) (ht : okS t = true) : Calls Try.prog 31 #[.agg #[.int .i64 s.a, .int .i64 s.b, .int .i64 s.c, .int .i64 s.d], .agg #[.int .i64 t.a, .int .i64 t.b, .int .i64 t.c, .int .i64 t.d]] w (AddA (addS s t) w) := by
  have HSUM := Lib.hid (fun k (hk : k < 4) => okS_sum hs ht hk)
  have HZ : Hid (addS s t = if okS (plusS s t) then (plusS s t, true) else (S4.zero, false)) := Lib.hid (by unfold addS; rw [hs, ht]; rfl)
  (have HA := Lib.hid (AdS.start s t w)
   have KR := Lib.hid (sumsRight_calls s (((w.alloc (.cells #[.int .i64 s.a, .int .i64 s.b, .int .i64 s.c, .int .i64 s.d] 50)).alloc (.cells #[.int .i64 t.a, .int .i64 t.b, .int .i64 t.c, .int .i64 t.d] 50)).alloc (.cells #[.int .i64 0, .int .i64 0, .int .i64 0, .int .i64 0] 50)))
   rw [hs] at KR
   go_enter Try.func31, Try.ntmps31
   go_wp2_with fail
   refine KR.out.mono ?_
   rintro e w1 ⟨rfl, hb1⟩
   have HA1 := Lib.hid (HA.out.below hb1)
   clear hb1 KR HA)
  have y0 := blk_cell HA1.out.y 0
  have y1 := blk_cell HA1.out.y 1
  have y2 := blk_cell HA1.out.y 2
  have y3 := blk_cell HA1.out.y 3
  have KT := Lib.hid (sumsRight_calls t w1)
  rw [ht] at KT
  go_wp2_with fail
  refine KT.out.mono ?_
  rintro e w2 ⟨rfl, hb2⟩
  have HA2 := Lib.hid (HA1.out.below hb2)
  clear hb2 KT HA1 y0 y1 y2 y3 hs ht
  go_wp2_with fail
  go_loopg [16] 4 (fun n i wr => ∃ (k : Nat), k ≤ 4 ∧ n = 4 - k ∧ i = .int .i64 k ∧ Hid (AdS s t w k wr))
  case atStart => exact ⟨0, by omega, rfl, rfl, HA2⟩
  case round =>
    obtain ⟨k, hk, rfl, rfl, HK⟩ := hrel
    by_cases hlt : k < 4
    · have x := S4.cell _ HK.out.x hlt
      rw [mix_nth s t hlt] at x
      have xf := blk_frozen HK.out.x k
      have y := S4.cell _ HK.out.y hlt
      have hsum := HSUM.out k hlt
      have hki : (k : Int) < 4 := by omega
      have hk0 : (0 : Int) ≤ (k : Int) := by omega
      have hw : IntKind.i64.wrap ((k : Int) + 1) = (k : Int) + 1 := IntWalk.i64_in _ (by omega)
      have HLT := Lib.hid hlt
      have HN := Lib.hid ((HK.out.below (below_drew (Below.refl _ wr))).step hlt)
      clear hk hlt
      generalize s.nth k = xx at *
      generalize t.nth k = yy at *
      go_wp2_with fail
      go_region
      go_wp2_with fail
      go_roundg (4 - (k + 1))
      case measure => have := HLT.out; omega
      case rel => exact ⟨k + 1, HLT.out, rfl, by go_num, HN⟩
    · have h4 : k = 4 := by omega
      subst h4
      have HX := HK.out.x
      rw [mix_4] at HX
      have x0 := blk_cell HX 0
      have x1 := blk_cell HX 1
      have x2 := blk_cell HX 2
      have x3 := blk_cell HX 3
      have KU := Lib.hid (sumsRight_calls (plusS s t) wr)
      clear HX hlt hk
      go_wp2_with fail
      refine KU.out.mono ?_
      rintro e w3 ⟨rfl, hb3⟩
      have HK3 := Lib.hid (HK.out.below hb3)
      clear hb3 KU x0 x1 x2 x3 HK
      rcases Bool.eq_false_or_eq_true (okS (plusS s t)) with hu | hu
      · rw [hu] at HZ
        have HX3 := HK3.out.x
        rw [mix_4] at HX3
        have x0 := blk_cell HX3 0
        have x1 := blk_cell HX3 1
        have x2 := blk_cell HX3 2
        have x3 := blk_cell HX3 3
        clear HX3
        obtain ⟨⟨z0, z1, z2, z3⟩, f0, f1, f2, f3⟩ := HK3.out.zs
        go_wp2_with fail
        obtain ⟨s0, s1, s2, s3, s5⟩ := HK3.out.stop (.int .i64 (plusS s t).a) (.int .i64 (plusS s t).b) (.int .i64 (plusS s t).c) (.int .i64 (plusS s t).d)
        change bodyPost _ _ _ _ _ (set4 w3 (w.heap.size + 1 + 1) (.int .i64 (plusS s t).a) (.int .i64 (plusS s t).b) (.int .i64 (plusS s t).c) (.int .i64 (plusS s t).d))
        generalize set4 w3 (w.heap.size + 1 + 1) (.int .i64 (plusS s t).a) (.int .i64 (plusS s t).b) (.int .i64 (plusS s t).c) (.int .i64 (plusS s t).d) = W9 at *
        refine bodyPost_ret (v := .tuple #[.agg #[.int .i64 (plusS s t).a, .int .i64 (plusS s t).b, .int .i64 (plusS s t).c, .int .i64 (plusS s t).d], .bool true]) (by simp [results, Try.results31, go_sem, s0, s1, s2, s3]) rfl ⟨by rw [HZ.out]; rfl, s5⟩
      · rw [hu] at HZ
        (obtain ⟨⟨z0, z1, z2, z3⟩, f0, f1, f2, f3⟩ := (HK3).out.zs
         go_wp2_with fail
         obtain ⟨s0, s1, s2, s3, s5⟩ := (HK3).out.stop (.int .i64 0) (.int .i64 0) (.int .i64 0) (.int .i64 0)
         change bodyPost _ _ _ _ _ (set4 w3 (w.heap.size + 1 + 1) (.int .i64 0) (.int .i64 0) (.int .i64 0) (.int .i64 0))
         generalize set4 w3 (w.heap.size + 1 + 1) (.int .i64 0) (.int .i64 0) (.int .i64 0) (.int .i64 0) = W9 at *
         refine bodyPost_ret (v := .tuple #[.agg #[.int .i64 0, .int .i64 0, .int .i64 0, .int .i64 0], .bool false]) (by simp [results, Try.results31, go_sem, s0, s1, s2, s3]) rfl ⟨by rw [HZ.out]; rfl, s5⟩)
theorem sumsAdd_calls (s t : S4) (w : World) : Calls Try.prog 31 #[.agg #[.int .i64 s.a, .int .i64 s.b, .int .i64 s.c, .int .i64 s.d], .agg #[.int .i64 t.a, .int .i64 t.b, .int .i64 t.c, .int .i64 t.d]] w (AddA (addS s t) w) := by
  rcases Bool.eq_false_or_eq_true (okS s) with hs | hs
  · rcases Bool.eq_false_or_eq_true (okS t) with ht | ht
    · exact sumsAdd_yes s t w hs ht
    · exact sumsAdd_no2 s t w hs ht
  · exact sumsAdd_no1 s t w hs
end Go.Proofs.Ytecgfghmmlpghaa.O
