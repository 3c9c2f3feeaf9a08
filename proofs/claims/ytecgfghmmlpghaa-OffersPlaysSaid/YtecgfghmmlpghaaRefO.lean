/- Walks: the reference's sums.Of. -/
import Derived.Test.YtecgfghmmlpghaaRefA
import Derived.Test.YtecgfghmmlpghaaSums2
set_option linter.unusedVariables false
set_option linter.unusedSimpArgs false
namespace Go.Proofs.Ytecgfghmmlpghaa.O
open Go.RowKit Go.Proofs.Ytecgfghmmlpghaa.Hp Go.Proofs.Ytecgfghmmlpghaa.Mp
set_option maxRecDepth 100000
attribute [local irreducible] Go.wpQuiet
/-- In the middle of Of. -/
structure OfR (w : World) (acc : S4) (wr : World) : Prop where
  x : wr.heap[w.heap.size + 1]? = some (.cells #[.int .i64 acc.a, .int .i64 acc.b, .int .i64 acc.c, .int .i64 acc.d] 49 (0, 0))
  z : wr.heap[w.heap.size]? = some (.cells #[.int .i64 0, .int .i64 0, .int .i64 0, .int .i64 0] 49 (0, 0))
  b : Below w.heap.size w wr
section
variable {w wr w' : World} {acc : S4}
theorem OfR.start (w : World) : OfR w S4.zero ((w.alloc (.cells #[.int .i64 0, .int .i64 0, .int .i64 0, .int .i64 0] 49)).alloc (.cells #[.int .i64 0, .int .i64 0, .int .i64 0, .int .i64 0] 49)) := by
  refine ⟨?_, blk_alloc (blk_new _ _), ((Below.refl _ w).alloc (Nat.le_refl _) _).alloc (by simp) _⟩
  have h := blk_new (w.alloc (.cells #[.int .i64 0, .int .i64 0, .int .i64 0, .int .i64 0] 49)) (.cells #[.int .i64 0, .int .i64 0, .int .i64 0, .int .i64 0] 49)
  rw [show (w.alloc (.cells #[.int .i64 0, .int .i64 0, .int .i64 0, .int .i64 0] 49)).heap.size = w.heap.size + 1 by simp] at h
  exact h
theorem OfR.below (h : OfR w acc wr) (hb : Below wr.heap.size wr w') : OfR w acc w' :=
  ⟨(hb.block _ (blk_lt h.x)).trans h.x, (hb.block _ (blk_lt h.z)).trans h.z, h.b.trans (hb.mono h.b.size)⟩
theorem OfR.step (h : OfR w acc wr) {k : Nat} (hk : k < 4) (n : Int) : OfR w (bumpS acc k n) (wr.setCell ⟨w.heap.size + 1, k, none⟩ (.int .i64 (acc.nth k + n))) :=
  ⟨by have := blk_set h.x k (.int .i64 (acc.nth k + n)); rw [bump_set acc hk] at this; exact this, blk_far h.z (by show _ ≠ w.heap.size + 1; omega) _, h.b.setCell (by simp) _⟩
theorem OfR.zs (h : OfR w acc wr) : (wr.cell? ⟨w.heap.size, 0, none⟩ = some (.int .i64 0) ∧ wr.cell? ⟨w.heap.size, 1, none⟩ = some (.int .i64 0) ∧ wr.cell? ⟨w.heap.size, 2, none⟩ = some (.int .i64 0) ∧ wr.cell? ⟨w.heap.size, 3, none⟩ = some (.int .i64 0)) ∧ wr.frozen? ⟨w.heap.size, 0, none⟩ = false ∧ wr.frozen? ⟨w.heap.size, 1, none⟩ = false ∧ wr.frozen? ⟨w.heap.size, 2, none⟩ = false ∧ wr.frozen? ⟨w.heap.size, 3, none⟩ = false :=
  ⟨⟨blk_cell h.z 0, blk_cell h.z 1, blk_cell h.z 2, blk_cell h.z 3⟩, blk_frozen h.z 0, blk_frozen h.z 1, blk_frozen h.z 2, blk_frozen h.z 3⟩
theorem OfR.xs (h : OfR w acc wr) : wr.cell? ⟨w.heap.size + 1, 0, none⟩ = some (.int .i64 acc.a) ∧ wr.cell? ⟨w.heap.size + 1, 1, none⟩ = some (.int .i64 acc.b) ∧ wr.cell? ⟨w.heap.size + 1, 2, none⟩ = some (.int .i64 acc.c) ∧ wr.cell? ⟨w.heap.size + 1, 3, none⟩ = some (.int .i64 acc.d) :=
  ⟨blk_cell h.x 0, blk_cell h.x 1, blk_cell h.x 2, blk_cell h.x 3⟩
theorem OfR.stop (h : OfR w acc wr) (v0 v1 v2 v3 : Value) : (set4 wr w.heap.size v0 v1 v2 v3).cell? ⟨w.heap.size, 0, none⟩ = some v0 ∧ (set4 wr w.heap.size v0 v1 v2 v3).cell? ⟨w.heap.size, 1, none⟩ = some v1 ∧ (set4 wr w.heap.size v0 v1 v2 v3).cell? ⟨w.heap.size, 2, none⟩ = some v2 ∧ (set4 wr w.heap.size v0 v1 v2 v3).cell? ⟨w.heap.size, 3, none⟩ = some v3 ∧ Below w.heap.size w (set4 wr w.heap.size v0 v1 v2 v3) := by
  have e := set4_blk v0 v1 v2 v3 h.z
  exact ⟨blk_cell e 0, blk_cell e 1, blk_cell e 2, blk_cell e 3, set4_below h.b (Nat.le_refl _)⟩
end
set_option maxHeartbeats 4000000 in
theorem refOf_no (T : Nat → Prop) (va : Option Addr) (vc : Nat) (vec : List Pt) (w : World) (hp : PAt T w va vec) (hT : ∀ i, T i → i < w.heap.size) (hlen : vec.length ≤ 700) (hr : rightV vec = false) :
    Calls Try.prog 36 #[.slice va vec.length vc] w (SumA (sumsOf vec) w) := by
  have HZ : Hid (sumsOf vec = S4.zero) := Lib.hid (by unfold sumsOf; rw [hr]; rfl)
  have HA := Lib.hid (OfR.start w)
  have hrc := refV_calls T va vc vec _ (fun i hi => by have := hT i hi; have := HA.out.b.size; exact Nat.lt_of_lt_of_le ‹i < _› ‹_ ≤ _›) (by omega) (hp.keep (fun i hi => HA.out.b.block i (hT i hi)) (fun _ h => h))
  rw [hr] at hrc
  have KR := Lib.hid hrc
  clear hrc hp hT hlen hr
  go_enter Try.func36, Try.ntmps36
  go_wp2_with fail
  refine KR.out.mono ?_
  rintro e w1 ⟨rfl, hb1⟩
  have HE := Lib.hid (HA.out.below hb1)
  clear hb1 KR HA
  obtain ⟨⟨z0, z1, z2, z3⟩, f0, f1, f2, f3⟩ := HE.out.zs
  obtain ⟨x0, x1, x2, x3⟩ := HE.out.xs
  go_wp2_with fail
  (obtain ⟨s0, s1, s2, s3, s5⟩ := HE.out.stop (.int .i64 (S4.zero).a) (.int .i64 (S4.zero).b) (.int .i64 (S4.zero).c) (.int .i64 (S4.zero).d)
   change bodyPost _ _ _ _ _ (set4 w1 w.heap.size (.int .i64 (S4.zero).a) (.int .i64 (S4.zero).b) (.int .i64 (S4.zero).c) (.int .i64 (S4.zero).d))
   generalize set4 w1 w.heap.size (.int .i64 (S4.zero).a) (.int .i64 (S4.zero).b) (.int .i64 (S4.zero).c) (.int .i64 (S4.zero).d) = W9 at *
   refine bodyPost_ret (v := .agg #[.int .i64 (S4.zero).a, .int .i64 (S4.zero).b, .int .i64 (S4.zero).c, .int .i64 (S4.zero).d]) (by simp [results, Try.results36, go_sem, s0, s1, s2, s3]) rfl ⟨by rw [HZ.out], s5⟩)
set_option maxHeartbeats 4000000 in
theorem refOf_yes (T : Nat → Prop) (va : Option Addr) (vc : Nat) (vec : List Pt) (w : World) (hp : PAt T w va vec) (hT : ∀ i, T i → i < w.heap.size) (hlen : vec.length ≤ 700) (hr : rightV vec = true) :
    Calls Try.prog 36 #[.slice va vec.length vc] w (SumA (sumsOf vec) w) := by
  have HZ : Hid (sumsOf vec = vec.foldl addP S4.zero) := Lib.hid (by unfold sumsOf; rw [hr]; rfl)
  have HA := Lib.hid (OfR.start w)
  have hrc := refV_calls T va vc vec _ (fun i hi => by have := hT i hi; have := HA.out.b.size; exact Nat.lt_of_lt_of_le ‹i < _› ‹_ ≤ _›) (by omega) (hp.keep (fun i hi => HA.out.b.block i (hT i hi)) (fun _ h => h))
  rw [hr] at hrc
  have KR := Lib.hid hrc
  have HRT := Lib.hid (fun j (hj : j < vec.length) => right_at hr hj)
  obtain ⟨g, o, h1, h2⟩ := hp.part
  have H1 := Lib.hid (fun h0 => (h1 h0).1)
  have HG := Lib.hid (fun h0 => hT g (h1 h0).2)
  have HC := Lib.hid h2
  have HL := Lib.hid hlen
  clear hrc hp hT hlen hr h1 h2
  go_enter Try.func36, Try.ntmps36
  go_wp2_with fail
  refine KR.out.mono ?_
  rintro e w1 ⟨rfl, hb1⟩
  have HE := Lib.hid (HA.out.below hb1)
  clear hb1 KR HA
  go_wp2_with fail
  go_loopg [4] vec.length (fun n i wr => ∃ (k : Nat) (acc : S4), k ≤ vec.length ∧ n = vec.length - k ∧ i = .int .i64 k ∧ Hid (OfR w acc wr) ∧ Hid (acc = (vec.take k).foldl addP S4.zero ∧ ∀ j, j < 4 → 0 ≤ acc.nth j ∧ acc.nth j ≤ k * 9007199254740992))
  case atStart => exact ⟨0, S4.zero, by omega, rfl, rfl, HE, Lib.hid ⟨rfl, fun j hj => by match j, hj with | 0, _ => exact ⟨Int.le_refl _, Int.le_refl _⟩ | 1, _ => exact ⟨Int.le_refl _, Int.le_refl _⟩ | 2, _ => exact ⟨Int.le_refl _, Int.le_refl _⟩ | 3, _ => exact ⟨Int.le_refl _, Int.le_refl _⟩⟩⟩
  case round =>
    obtain ⟨k, acc, hk, rfl, rfl, HB, HK⟩ := hrel
    by_cases hlt : k < vec.length
    · have ha := H1.out (by omega)
      subst ha
      have hgl := HG.out (by omega)
      obtain ⟨c1, c2, c3⟩ := HC.out k hlt
      have x0 := below_cell HB.out.b hgl c1
      have x1 := below_cell HB.out.b hgl c2
      have x2 := below_cell HB.out.b hgl c3
      obtain ⟨r1, r2, r3, r4⟩ := HRT.out k hlt
      have HLT := Lib.hid hlt
      have HFO := Lib.hid (fold_snoc hlt)
      clear c1 c2 c3 hgl
      generalize vec[k] = p at *
      obtain ⟨kd, ro, am⟩ := p
      simp only at *
      obtain ⟨kn, rfl⟩ := Int.eq_ofNat_of_zero_le r1
      have hkn : kn < 4 := by omega
      have hbd := HK.out.2 kn hkn
      have hlenk : (k : Int) * 9007199254740992 ≤ 700 * 9007199254740992 := by have := HL.out; omega
      have hki : (k : Int) < (vec.length : Int) := by omega
      have hk0 : (0 : Int) ≤ (k : Int) := by omega
      have hw : IntKind.i64.wrap ((k : Int) + 1) = (k : Int) + 1 := IntWalk.i64_in _ (by have := HL.out; omega)
      have hs : IntKind.i64.wrap (acc.nth kn + am) = acc.nth kn + am := IntWalk.i64_in _ (by omega)
      have hn0 : (0 : Int) ≤ (kn : Int) := by omega
      have hn4 : (kn : Int) < 4 := by omega
      have HB1 := HB
      have y := S4.cell9 _ HB1.out.x hkn
      have yf := blk_frozen HB1.out.x kn
      have HN := Lib.hid ((HB1.out.below (below_drew (Below.refl _ _))).step hkn am)
      have HM : Hid (bumpS acc kn am = (vec.take (k + 1)).foldl addP S4.zero ∧ ∀ j, j < 4 → 0 ≤ (bumpS acc kn am).nth j ∧ (bumpS acc kn am).nth j ≤ ((k + 1 : Nat) : Int) * 9007199254740992) := Lib.hid ⟨by rw [HFO.out, ← HK.out.1]; rfl, fun j hj => by
        have h7 := HK.out.2 j hj
        rw [bump_nth acc hkn am j hj]
        split <;> omega⟩
      clear hbd hlenk r1 r2 r3 r4 HK hk
      generalize acc.nth kn = an at *
      go_wp2_with fail
      go_region
      go_wp2_with fail
      go_roundg (vec.length - (k + 1))
      case measure => have := HLT.out; omega
      case rel => exact ⟨k + 1, _, HLT.out, rfl, by go_num, HN, HM⟩
    · have hki : decide ((k : Int) < (vec.length : Int)) = false := decide_eq_false (by omega)
      have hkl : k = vec.length := by omega
      have hacc := HK.out.1
      rw [hkl, List.take_length] at hacc
      have HE := Lib.hid HB.out
      rw [← hacc] at HZ
      clear hk hkl hacc HK HB
      obtain ⟨⟨z0, z1, z2, z3⟩, f0, f1, f2, f3⟩ := HE.out.zs
      obtain ⟨x0, x1, x2, x3⟩ := HE.out.xs
      go_wp2_with fail
      (obtain ⟨s0, s1, s2, s3, s5⟩ := HE.out.stop (.int .i64 (acc).a) (.int .i64 (acc).b) (.int .i64 (acc).c) (.int .i64 (acc).d)
       change bodyPost _ _ _ _ _ (set4 wr w.heap.size (.int .i64 (acc).a) (.int .i64 (acc).b) (.int .i64 (acc).c) (.int .i64 (acc).d))
       generalize set4 wr w.heap.size (.int .i64 (acc).a) (.int .i64 (acc).b) (.int .i64 (acc).c) (.int .i64 (acc).d) = W9 at *
       refine bodyPost_ret (v := .agg #[.int .i64 (acc).a, .int .i64 (acc).b, .int .i64 (acc).c, .int .i64 (acc).d]) (by simp [results, Try.results36, go_sem, s0, s1, s2, s3]) rfl ⟨by rw [HZ.out], s5⟩)
theorem refOf_calls (T : Nat → Prop) (va : Option Addr) (vc : Nat) (vec : List Pt) (w : World) (hp : PAt T w va vec) (hT : ∀ i, T i → i < w.heap.size) (hlen : vec.length ≤ 700) :
    Calls Try.prog 36 #[.slice va vec.length vc] w (SumA (sumsOf vec) w) := by
  rcases Bool.eq_false_or_eq_true (rightV vec) with hr | hr
  · exact refOf_yes T va vc vec w hp hT hlen hr
  · exact refOf_no T va vc vec w hp hT hlen hr
end Go.Proofs.Ytecgfghmmlpghaa.O
