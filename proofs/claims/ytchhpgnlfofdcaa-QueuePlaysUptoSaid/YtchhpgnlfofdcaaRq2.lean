/- The reference's Open. -/
import Derived.Test.YtchhpgnlfofdcaaRq1
set_option linter.unusedVariables false
set_option linter.unusedSimpArgs false
namespace Go.Proofs.Ytchhpgnlfofdcaa.Q
open Go.RowKit Go.Proofs.Ytchhpgnlfofdcaa.Hp Go.Proofs.Ytchhpgnlfofdcaa.Mp
set_option maxRecDepth 100000

/-- What an answer of the reference's reads as. -/
def MAns (T : Nat → Prop) (most : Int) (w : World) (A : List On) (sl : Value) (w' : World) : Prop :=
  ∃ (ys : List Oe) (fa : Option Addr) (g fc : Nat), ys.map (·.1) = A ∧ sl = .slice fa ys.length fc ∧ MAt (Up T w w') w' fa g ys
theorem keyO_map (xs : List Oe) (f : Oe) : (withK keyO xs f).map (·.1) = withK (·.frame) (xs.map (·.1)) f.1 := withK_map (·.1) (fun _ => rfl) xs f
theorem with_calls (T : Nat → Prop) (most : Int) (f : Oe) (fa : Option Addr) (g fc : Nat) (xs : List Oe) (w : World) (hlen : xs.length ≤ 900) (hT : ∀ i, T i → i < w.heap.size) (h : MAt T w fa g xs) (he : EO T w f) :
    Calls Try.prog 33 #[.agg #[.int .i64 most, .slice fa xs.length fc], .agg #[.int .i64 f.1.frame, .slice f.2.1 f.1.evs.length f.2.2, .int .i64 f.1.lost]] w fun e w' => ∃ sl, e = .returned (.agg #[.int .i64 most, sl]) ∧ MAns T most w (withK (·.frame) (xs.map (·.1)) f.1) sl w' ∧ Below w.heap.size w w' := by
  refine (with_row T most f fa g fc xs w hlen hT h).mono fun e w' ⟨v, e1, h1, h2⟩ => ⟨v, e1, ?_, h2⟩
  obtain ⟨fa', g', fc', e2, h3⟩ := MAt.of_row (T := Up T w w') h1 (fun y hy => by
    rcases withK_mem (key := keyO) f xs y hy with rfl | hy
    · exact he.keep (fun i hi => h2.block i (hT i hi)) (fun i hi => .inl hi)
    · exact (h.evs y hy).keep (fun i hi => h2.block i (hT i hi)) (fun i hi => .inl hi)) (fun g hg => by
      obtain ⟨cs, hb⟩ := row_tag h1 hg.symm
      exact .inr ⟨row_own h1 hg.symm, blk_lt hb⟩)
  exact ⟨_, fa', g', fc', keyO_map xs f, e2, h3⟩
/-- The first two blocks of a reference's function: the receiver, the result. -/
structure BSt (w wr : World) (N : Nat) (most : Int) (sl : Value) : Prop where
  box : wr.heap[N]? = some (.cells #[.int .i64 most, sl] 46 (0, 0))
  res : wr.heap[N + 1]? = some (.cells #[.int .i64 0, .slice none 0 0] 46 (0, 0))
  chg : Below N w wr
section
variable {w wr w' : World} {N : Nat} {most : Int} {sl sl' : Value}
theorem BSt.lt (h : BSt w wr N most sl) : N + 2 ≤ wr.heap.size := blk_lt h.res
theorem BSt.below (h : BSt w wr N most sl) {B : Nat} (hb : Below B wr w') (hB : N + 2 ≤ B) : BSt w w' N most sl :=
  ⟨(hb.block _ (by omega)).trans h.box, (hb.block _ (by omega)).trans h.res, h.chg.trans (hb.mono (by omega))⟩
theorem BSt.drewN (h : BSt w wr N most sl) (n : Nat) : BSt w (wr.drewN n) N most sl := ⟨h.box, h.res, below_drewN h.chg n⟩
theorem BSt.drew (h : BSt w wr N most sl) : BSt w wr.drew N most sl := ⟨h.box, h.res, below_drew h.chg⟩
theorem BSt.alloc (h : BSt w wr N most sl) (o : Obj) : BSt w (wr.alloc o) N most sl := ⟨blk_alloc h.box, blk_alloc h.res, h.chg.alloc (by have := h.lt; omega) _⟩
theorem BSt.facts (h : BSt w wr N most sl) : (wr.cell? ⟨N, 0, none⟩ = some (.int .i64 most) ∧ wr.cell? ⟨N, 1, none⟩ = some sl) ∧ wr.cell? ⟨N + 1, 0, none⟩ = some (.int .i64 0) ∧ wr.cell? ⟨N + 1, 1, none⟩ = some (.slice none 0 0) ∧ wr.frozen? ⟨N + 1, 0, none⟩ = false ∧ wr.frozen? ⟨N + 1, 1, none⟩ = false :=
  ⟨⟨blk_cell h.box 0, blk_cell h.box 1⟩, blk_cell h.res 0, blk_cell h.res 1, blk_frozen h.res 0, blk_frozen h.res 1⟩
theorem BSt.stop (h : BSt w wr N most sl) (u : Value) : ((wr.setCell ⟨N + 1, 0, none⟩ (.int .i64 most)).setCell ⟨N + 1, 1, none⟩ u).cell? ⟨N + 1, 0, none⟩ = some (.int .i64 most) ∧ ((wr.setCell ⟨N + 1, 0, none⟩ (.int .i64 most)).setCell ⟨N + 1, 1, none⟩ u).cell? ⟨N + 1, 1, none⟩ = some u ∧
    Below N w ((wr.setCell ⟨N + 1, 0, none⟩ (.int .i64 most)).setCell ⟨N + 1, 1, none⟩ u) := by
  have e1 := blk_set (blk_set h.res 0 (.int .i64 most)) 1 u
  exact ⟨blk_cell e1 0, blk_cell e1 1, (h.chg.setCell (by simp) _).setCell (by simp) _⟩
theorem BSt.start (w : World) (most : Int) (sl : Value) : BSt w ((w.alloc (.cells #[.int .i64 most, sl] 46)).alloc (.cells #[.int .i64 0, .slice none 0 0] 46)) w.heap.size most sl := by
  have b0 := blk_new w (.cells #[.int .i64 most, sl] 46)
  have hB := (Below.refl _ w).alloc (Nat.le_refl _) (.cells #[.int .i64 most, sl] 46)
  have s1 : (w.alloc (.cells #[.int .i64 most, sl] 46)).heap.size = w.heap.size + 1 := by simp
  generalize w.alloc (.cells #[.int .i64 most, sl] 46) = w1 at *
  have b1 := blk_new w1 (.cells #[.int .i64 0, .slice none 0 0] 46)
  rw [s1] at b1
  exact ⟨blk_alloc b0, b1, hB.alloc (by omega) _⟩
/-- The result's store moves nothing that lies in blocks besides it. -/
theorem MAns.stop {T : Nat → Prop} {A : List On} {w1 : World} (h : MAns T most w1 A sl w') (hT : ∀ i, T i → i < N) (hN : N + 2 ≤ w1.heap.size) (u1 u2 : Value) (hw : w.heap.size = N) : MAns T most w A sl ((w'.setCell ⟨N + 1, 0, none⟩ u1).setCell ⟨N + 1, 1, none⟩ u2) := by
  obtain ⟨ys, fa, g, fc, e1, e2, h1⟩ := h
  have hk : ∀ i, i ≠ N + 1 → ((w'.setCell ⟨N + 1, 0, none⟩ u1).setCell ⟨N + 1, 1, none⟩ u2).heap[i]? = w'.heap[i]? := fun i hi => (Below.heap_setCell _ _ _ _ hi).trans (Below.heap_setCell _ _ _ _ hi)
  refine ⟨ys, fa, g, fc, e1, e2, h1.keep (fun i hi => hk i ?_) (fun i hi => ?_)⟩
  · rcases hi with hi | hi
    · have := hT i hi; omega
    · omega
  · rcases hi with hi | hi
    · exact .inl hi
    · exact .inr ⟨by omega, by simpa [World.setCell] using hi.2⟩
theorem MAns.same {T : Nat → Prop} {xs : List Oe} {fa : Option Addr} {g fc : Nat} (h : MAt T w fa g xs) (hT : ∀ i, T i → i < w.heap.size) (hb : Below w.heap.size w w') : MAns T most w (xs.map (·.1)) (.slice fa xs.length fc) w' :=
  ⟨xs, fa, g, fc, rfl, rfl, h.keep (fun i hi => hb.block i (hT i hi)) (fun i hi => .inl hi)⟩
end
/-- What Open answers. -/
def openF (A : List On) (id : Int) : List On × Bool := if 0 ≤ atO A id then (A, false) else (withK (·.frame) A ⟨id, [], 0⟩, true)
set_option maxHeartbeats 4000000 in
theorem mOpen_calls (T : Nat → Prop) (most id : Int) (fa : Option Addr) (g fc : Nat) (xs : List Oe) (w : World) (hlen : xs.length ≤ 900) (hT : ∀ i, T i → i < w.heap.size) (h : MAt T w fa g xs) :
    Calls Try.prog 24 #[.agg #[.int .i64 most, .slice fa xs.length fc], .int .i64 id] w fun e w' => ∃ sl, e = .returned (.tuple #[.agg #[.int .i64 most, sl], .bool (openF (xs.map (·.1)) id).2]) ∧ MAns T most w (openF (xs.map (·.1)) id).1 sl w' ∧ Below w.heap.size w w' := by
  have HS := Lib.hid (BSt.start w most (.slice fa xs.length fc))
  have HA := Lib.hid h
  have HT := Lib.hid hT
  have HL := Lib.hid hlen
  have K1 := Lib.hid (atO_calls T most id fa g fc xs _ hlen (fun i hi => Nat.lt_of_lt_of_le (hT i hi) HS.out.chg.size) (h.below hT HS.out.chg))
  clear h hT hlen
  obtain ⟨⟨b0, b1⟩, r0, r1, r2, r3⟩ := HS.out.facts
  go_enter Try.func24, Try.ntmps24
  go_wp2_with fail
  refine K1.out.mono ?_
  rintro e w1 ⟨rfl, hb1⟩
  have HS1 := Lib.hid (HS.out.below hb1 HS.out.lt)
  clear K1 HS hb1 b0 b1 r0 r1 r2 r3
  obtain ⟨⟨b0, b1⟩, r0, r1, r2, r3⟩ := HS1.out.facts
  by_cases hq : 0 ≤ atO (xs.map (·.1)) id
  · have HE : Hid (openF (xs.map (·.1)) id = (xs.map (·.1), false)) := Lib.hid (by unfold openF; rw [if_pos hq])
    go_wp2
    obtain ⟨s1, s2, s3⟩ := HS1.out.stop (.slice fa xs.length fc)
    refine bodyPost_ret (v := .tuple #[.agg #[.int .i64 most, .slice fa xs.length fc], .bool false]) (by simp [results, Try.results24, go_sem, s1, s2]) rfl ⟨_, by rw [HE.out], by rw [HE.out]; exact MAns.same HA.out HT.out s3, s3⟩
  · have HE : Hid (openF (xs.map (·.1)) id = (withK (·.frame) (xs.map (·.1)) ⟨id, [], 0⟩, true)) := Lib.hid (by unfold openF; rw [if_neg hq])
    have hq' : decide (0 ≤ atO (xs.map (·.1)) id) = false := decide_eq_false hq
    clear hq
    have K3 := Lib.hid (with_calls T most (⟨id, [], 0⟩, none, 0) fa g fc xs w1 HL.out (fun i hi => Nat.lt_of_lt_of_le (HT.out i hi) HS1.out.chg.size) (HA.out.below HT.out HS1.out.chg) ⟨ERow.nil _ _ _, Nat.le_refl _⟩)
    go_wp2_with fail
    refine K3.out.mono ?_
    rintro e w2 ⟨sl, rfl, hm, hb2⟩
    have hsl : ∃ a n c, sl = .slice a n c := by obtain ⟨ys, fa, g, fc, _, e, _⟩ := hm; exact ⟨_, _, _, e⟩
    obtain ⟨sa, sn, sc, rfl⟩ := hsl
    have HS2 := Lib.hid (HS1.out.below hb2 HS1.out.lt)
    have HM := Lib.hid (hm.stop HT.out HS1.out.lt (.int .i64 most) (.slice sa sn sc) rfl)
    clear K3 HS1 hb2 hm b0 b1 r0 r1 r2 r3
    obtain ⟨⟨b0, b1⟩, r0, r1, r2, r3⟩ := HS2.out.facts
    go_wp2
    obtain ⟨s1, s2, s3⟩ := HS2.out.stop (.slice sa sn sc)
    refine bodyPost_ret (v := .tuple #[.agg #[.int .i64 most, .slice sa sn sc], .bool true]) (by simp [results, Try.results24, go_sem, s1, s2]) rfl ⟨_, by rw [HE.out], by rw [HE.out]; exact HM.out, s3⟩
end Go.Proofs.Ytchhpgnlfofdcaa.Q
