/- The reference's Put, walked. -/
import Derived.Test.YtchhpgnlfofdcaaRq5
set_option linter.unusedVariables false
set_option linter.unusedSimpArgs false
namespace Go.Proofs.Ytchhpgnlfofdcaa.Q
open Go.RowKit Go.Proofs.Ytchhpgnlfofdcaa.Hp Go.Proofs.Ytchhpgnlfofdcaa.Mp Go.Proofs.Ytchhpgnlfofdcaa.Ap
set_option maxRecDepth 100000

/-- Blocks of T, and those from B on. -/
def UpB (T : Nat → Prop) (B : Nat) (w : World) : Nat → Prop := fun i => T i ∨ (B ≤ i ∧ i < w.heap.size)
/-- The queue that is being made, in block X, with an own row of events. -/
structure XSt (W0 wr : World) (X : Nat) (frame lost : Int) (v : Value) (ys : List Ex) : Prop where
  eq : W0.heap.size = X
  xb : wr.heap[X]? = some (.cells #[.int .i64 frame, v, .int .i64 lost] 52 (0, 0))
  own : wr.ownsRow (X + 1) 28 5 v ys.length (flatX ys)
  chg : Below X W0 wr
section
variable {W0 wr w1 w' : World} {X : Nat} {frame lost : Int} {v v' : Value} {ys zs : List Ex}
theorem flatX_one : ∀ (ys : List Ex), ∀ u ∈ flatX ys, u.oneCell' = true
  | [], u, hu => by simp [flatX] at hu
  | y :: ys, u, hu => by
    simp only [flatX, List.mem_append] at hu
    rcases hu with hu | hu
    · exact one_five y.1 y.2.1 y.2.2 u (by simpa [flatX] using hu)
    · exact flatX_one ys u hu
theorem XSt.lt (h : XSt W0 wr X frame lost v ys) : X + 1 ≤ wr.heap.size := blk_lt h.xb
theorem XSt.drew (h : XSt W0 wr X frame lost v ys) : XSt W0 wr.drew X frame lost v ys := ⟨h.eq, h.xb, h.own, below_drew h.chg⟩
theorem XSt.alloc (h : XSt W0 wr X frame lost v ys) (o : Obj) : XSt W0 (wr.alloc o) X frame lost v ys := ⟨h.eq, blk_alloc h.xb, h.own.alloc _, h.chg.alloc (by have := h.lt; omega) _⟩
theorem XSt.start (W0 : World) (X : Nat) (hX : W0.heap.size = X) (frame lost : Int) : XSt W0 (W0.alloc (.cells #[.int .i64 frame, .slice none 0 0, .int .i64 lost] 52)) X frame lost (.slice none 0 0) [] := by
  subst hX
  exact ⟨rfl, blk_new _ _, ⟨by simp [flatX], .inl ⟨rfl, rfl⟩⟩, (Below.refl _ _).alloc (Nat.le_refl _) _⟩
theorem XSt.facts (h : XSt W0 wr X frame lost v ys) : wr.cell? ⟨X, 0, none⟩ = some (.int .i64 frame) ∧ wr.cell? ⟨X, 1, none⟩ = some v ∧ wr.cell? ⟨X, 2, none⟩ = some (.int .i64 lost) ∧ ∀ j, wr.frozen? ⟨X, j, none⟩ = false :=
  ⟨blk_cell h.xb 0, blk_cell h.xb 1, blk_cell h.xb 2, fun j => blk_frozen h.xb j⟩
theorem XSt.grown (h : XSt W0 wr X frame lost v ys) (hg : wr.grownBy w1 v.ownBlock) (ho : w1.ownsRow (X + 1) 28 5 v' zs.length (flatX zs)) : XSt W0 (w1.setCell ⟨X, 1, none⟩ v') X frame lost v' zs := by
  have hl := h.lt
  have hx : w1.heap[X]? = some (.cells #[.int .i64 frame, v, .int .i64 lost] 52 (0, 0)) := (hg.block X (by omega) (fun e => by have := row_own h.own e; omega)).trans h.xb
  exact ⟨h.eq, blk_set hx 1 v', row_far ho (by simp) _, (h.chg.grown hg (by omega) (fun j hj => by have := row_own h.own hj.symm; omega)).setCell (by simp) _⟩
theorem XSt.after (h : XSt W0 wr X frame lost v ys) (hg : wr.grownBy w1 v.ownBlock) : w1.cell? ⟨X, 0, none⟩ = some (.int .i64 frame) ∧ w1.cell? ⟨X, 1, none⟩ = some v ∧ w1.cell? ⟨X, 2, none⟩ = some (.int .i64 lost) ∧ ∀ j, w1.frozen? ⟨X, j, none⟩ = false := by
  have hl := h.lt
  have hx : w1.heap[X]? = some (.cells #[.int .i64 frame, v, .int .i64 lost] 52 (0, 0)) := (hg.block X (by omega) (fun e => by have := row_own h.own e; omega)).trans h.xb
  exact ⟨blk_cell hx 0, blk_cell hx 1, blk_cell hx 2, fun j => blk_frozen hx j⟩
end
/-- Where the reference's Put is. -/
structure RpSt (T : Nat → Prop) (w wr : World) (N : Nat) (most : Int) (fa : Option Addr) (g fc : Nat) (xs : List Oe) (A : List On) (c L : Nat) : Prop where
  b : BSt w wr N most (.slice fa xs.length fc)
  m : MAt (UpB T (N + 2) wr) wr fa g xs
  eq : xs.map (·.1) = A
  bd : BdO c A
  len : A.length ≤ L
theorem RpSt.below {T : Nat → Prop} {w wr w' : World} {N : Nat} {most : Int} {fa : Option Addr} {g fc : Nat} {xs : List Oe} {A : List On} {c L : Nat} (h : RpSt T w wr N most fa g fc xs A c L) (hT : ∀ i, T i → i < N) (hb : Below wr.heap.size wr w') : RpSt T w w' N most fa g fc xs A c L :=
  ⟨h.b.below hb h.b.lt, h.m.keep (fun i hi => hb.block i (by have := h.b.lt; rcases hi with hi | hi; have := hT i hi; omega; exact hi.2)) (fun i hi => by have := hb.size; rcases hi with hi | hi; exact .inl hi; exact .inr ⟨hi.1, by omega⟩), h.eq, h.bd, h.len⟩
theorem put_with {T : Nat → Prop} {w w2 wr : World} {N X : Nat} {most : Int} {fa : Option Addr} {g fc : Nat} {xs : List Oe} {A : List On} {c L c' L' : Nat} (h : RpSt T w w2 N most fa g fc xs A c L) (hN : w.heap.size = N) (hT : ∀ i, T i → i < N) (hX : w2.heap.size = X) (hb : Below X w2 wr) (xo : Oe) (nl : Nat) (hnl : nl = xo.1.evs.length) (he : EO (UpB T (N + 2) wr) wr xo) (hlen : A.length ≤ 900) (hbd : BdO c' (withK (·.frame) A xo.1)) (hle : (withK (·.frame) A xo.1).length ≤ L') :
    Calls Try.prog 33 #[.agg #[.int .i64 most, .slice fa xs.length fc], .agg #[.int .i64 xo.1.frame, .slice xo.2.1 nl xo.2.2, .int .i64 xo.1.lost]] wr fun e w4 => ∃ (fa' : Option Addr) (g' fc' : Nat) (ys : List Oe), e = .returned (.agg #[.int .i64 most, .slice fa' ys.length fc']) ∧
      Hid (RpSt T w ((w4.setCell ⟨N, 0, none⟩ (.int .i64 most)).setCell ⟨N, 1, none⟩ (.slice fa' ys.length fc')) N most fa' g' fc' ys (withK (·.frame) A xo.1) c' L') ∧
      (w4.cell? ⟨N, 0, none⟩ = some (.int .i64 most) ∧ w4.cell? ⟨N, 1, none⟩ = some (.slice fa xs.length fc) ∧ w4.frozen? ⟨N, 0, none⟩ = false ∧ w4.frozen? ⟨N, 1, none⟩ = false) := by
  subst hX hnl
  have hr := h.below hT hb
  have hlt := hr.b.lt
  have hTU : ∀ i, UpB T (N + 2) wr i → i < wr.heap.size := fun i hi => by rcases hi with hi | hi; have := hT i hi; omega; exact hi.2
  refine (with_calls (UpB T (N + 2) wr) most xo fa g fc xs wr (by have h5 := hlen; rw [← h.eq, List.length_map] at h5; exact h5) hTU hr.m he).mono fun e w4 ⟨sl, e1, hm, hb4⟩ => ?_
  obtain ⟨ys, fa', g', fc', e2, e3, hm2⟩ := hm
  subst e3
  have hb2 := hr.b.below hb4 hlt
  rw [hr.eq] at e2
  refine ⟨fa', g', fc', ys, e1, Lib.hid ⟨⟨blk_set (blk_set hb2.box 0 _) 1 _, blk_far (blk_far hb2.res (by simp) _) (by simp) _, (hb2.chg.setCell (by simp) _).setCell (by simp) _⟩, hm2.keep (fun i hi => ?_) (fun i hi => ?_), e2, hbd, hle⟩, blk_cell hb2.box 0, blk_cell hb2.box 1, blk_frozen hb2.box 0, blk_frozen hb2.box 1⟩
  · have hne : i ≠ N := fun e => by
      rcases hi with (hi | hi) | hi
      · have := hT i hi; omega
      · omega
      · omega
    exact (Below.heap_setCell _ _ _ _ hne).trans (Below.heap_setCell _ _ _ _ hne)
  · have hs : ((w4.setCell ⟨N, 0, none⟩ (.int .i64 most)).setCell ⟨N, 1, none⟩ (.slice fa' ys.length fc')).heap.size = w4.heap.size := by simp [World.setCell]
    have h4 := hb4.size
    rcases hi with (hi | hi) | hi
    · exact .inl hi
    · exact .inr ⟨hi.1, by rw [hs]; omega⟩
    · exact .inr ⟨by omega, by rw [hs]; exact hi.2⟩
set_option maxHeartbeats 4000000 in
theorem mPut_calls (T : Nat → Prop) (most : Int) (fa : Option Addr) (g fc : Nat) (xs : List Oe) (fe : Option Addr) (ge oe ec : Nat) (es : List Ev) (c : Nat) (w : World) (hm : 1 ≤ most) (hlen : xs.length + es.length ≤ 900) (hc : c + es.length ≤ 900) (hT : ∀ i, T i → i < w.heap.size) (h : MAt T w fa g xs) (hbd : BdO c (xs.map (·.1))) (hrow : EAt T w fe ge oe es) :
    Calls Try.prog 27 #[.agg #[.int .i64 most, .slice fa xs.length fc], .slice fe es.length ec] w fun e w' => ∃ sl, e = .returned (.tuple #[.agg #[.int .i64 most, sl], .int .i64 (hitsO most (xs.map (·.1)) es)]) ∧ MAns T most w (putsO most (xs.map (·.1)) es) sl w' ∧ Below w.heap.size w w' := by
  have HS0 : Hid (RpSt T w ((w.alloc (.cells #[.int .i64 most, .slice fa xs.length fc] 46)).alloc (.cells #[.int .i64 0, .slice none 0 0] 46)) w.heap.size most fa g fc xs (xs.map (·.1)) c xs.length) :=
    Lib.hid ⟨BSt.start w most _, h.keep (fun i hi => (BSt.start w most (.slice fa xs.length fc)).chg.block i (hT i hi)) (fun i hi => .inl hi), rfl, hbd, by simp⟩
  have HT := Lib.hid hT
  have HL := Lib.hid (And.intro hm (And.intro hlen hc))
  have HROW := Lib.hid hrow
  obtain ⟨A, hA⟩ : ∃ A, A = xs.map (·.1) := ⟨_, rfl⟩
  obtain ⟨L, hLen⟩ : ∃ L, L = xs.length := ⟨_, rfl⟩
  rw [← hA] at HS0 ⊢
  have HLL := Lib.hid (show L + es.length ≤ 900 by omega)
  have HS : Hid (RpSt T w ((w.alloc (.cells #[.int .i64 most, .slice fa xs.length fc] 46)).alloc (.cells #[.int .i64 0, .slice none 0 0] 46)) w.heap.size most fa g fc xs A c L) := by rw [hLen]; exact HS0
  clear h hT hlen hc hbd hrow hm HS0 hA hLen
  go_enter Try.func27, Try.ntmps27
  go_wp2_with fail
  go_loopg [6, 7] es.length (fun gg n x wr => ∃ (k : Nat) (fa : Option Addr) (g fc : Nat) (xs : List Oe), k ≤ es.length ∧ gg = es.length - k ∧ n = .int .i64 (hitsO most A (es.take k)) ∧ x = .int .i64 k ∧ Hid (RpSt T w wr w.heap.size most fa g fc xs (putsO most A (es.take k)) (c + k) (L + k)))
  case atStart => exact ⟨0, fa, g, fc, xs, by omega, rfl, by simp [hitsO], rfl, HS⟩
  case round =>
    obtain ⟨k, fa, g, fc, xs, hk, rfl, rfl, rfl, H⟩ := hrel
    clear HS
    obtain ⟨⟨b0, b1⟩, r0, r1, r2, r3⟩ := H.out.b.facts
    by_cases hlt : k < es.length
    · obtain ⟨h1, h2⟩ := HROW.out.lt (by omega)
      subst h1
      obtain ⟨va, vc, hev⟩ := HROW.out.at' k hlt
      have HEV := Lib.hid (fun (W : World) (hW : Below w.heap.size w W) => hev.keep (T' := T) (hW.block ge (HT.out ge h2)) (fun i hi => hW.block i (HT.out i hi)) (fun i hi => hi))
      obtain ⟨y0, y1, y2, y3, y4, _⟩ := HEV.out _ H.out.b.chg
      have hki : (k : Int) < (es.length : Int) := by omega
      have hk0 : (0 : Int) ≤ (k : Int) := by omega
      have hw : IntKind.i64.wrap ((k : Int) + 1) = (k : Int) + 1 := IntWalk.i64_in _ (by have := HL.out; omega)
      have HLT := Lib.hid hlt
      have HP := Lib.hid (putsO_take most A es k hlt)
      have HH := Lib.hid (hitsO_take most A es k hlt)
      have HG := Lib.hid (HT.out ge h2)
      clear hev h2
      generalize es[k] = ev at *
      have HN0 := Lib.hid (show w.heap.size < wr.heap.size by have := H.out.b.lt; omega)
      have HGL := Lib.hid (show ge < wr.heap.size from Nat.lt_of_lt_of_le HG.out H.out.b.chg.size)
      have KA := Lib.hid (fun (W : World) (hW : Below wr.heap.size wr W) => atO_calls (UpB T (w.heap.size + 2) W) most ev.frame fa g fc xs W (by have h5 := H.out.len; have := HLL.out; have := HLT.out; rw [← H.out.eq, List.length_map] at h5; omega) (fun i hi => by have := hW.size; have := H.out.b.lt; rcases hi with hi | hi; have := HT.out i hi; omega; exact hi.2) (H.out.below HT.out hW).m)
      rw [H.out.eq] at KA
      go_wp2_with fail
      go_region_held3 (fun w' => w'.cell? ⟨w.heap.size, 0, none⟩ = some (.int .i64 most) ∧ w'.cell? ⟨w.heap.size, 1, none⟩ = some (.slice fa xs.length fc) ∧ w'.cell? ⟨ge, oe + k * 5 + 1, none⟩ = some (.int .i64 ev.frame)) (go_keep)
        ((go_at_call 32; refine (KA.out _ (by exact below_drew (Below.refl _ _))).mono ?_; rintro e w2 ⟨rfl, hb2⟩; have hb2' : Below wr.heap.size wr w2 := (below_drew (Below.refl _ wr)).trans hb2; have z0 := below_cell hb2' (by exact HN0.out) b0; have z1 := below_cell hb2' (by exact HN0.out) b1; have z2 := below_cell hb2' (by exact HGL.out) y1))
      have H2 := Lib.hid (H.out.below HT.out hb2')
      clear KA b0 b1 r0 r1 r2 r3 y0 y1 y2 y3 y4 z0 z1 z2 hb2 hb2' HN0 HGL H
      obtain ⟨⟨b0, b1⟩, r0, r1, r2, r3⟩ := H2.out.b.facts
      obtain ⟨y0, y1, y2, y3, y4, hvp⟩ := HEV.out _ H2.out.b.chg
      have HVP := Lib.hid hvp
      clear hvp
      rcases atO_cases (putsO most A (es.take k)) ev.frame with ⟨hf, ha⟩ | ⟨q, x, hq, hf, ha, hx, hxf⟩
      · have HE := Lib.hid (show putsO most A (es.take (k + 1)) = putsO most A (es.take k) by rw [HP.out]; unfold putO; rw [hf])
        have HHE := Lib.hid (show ((hitsO most A (es.take (k + 1)) : Nat) : Int) = (hitsO most A (es.take k) : Nat) by rw [HH.out, hf]; rfl)
        have hneg : (atO (putsO most A (es.take k)) ev.frame < 0) = True := by rw [ha]; simp
        clear hf ha
        go_wp2
        go_roundg (es.length - (k + 1))
        case measure => have := HLT.out; omega
        case rel => exact ⟨k + 1, fa, g, fc, xs, HLT.out, rfl, by rw [HHE.out], by go_num, Lib.hid (by rw [HE.out]; exact ⟨H2.out.b, H2.out.m, H2.out.eq, H2.out.bd.mono (by omega), by have := H2.out.len; omega⟩)⟩
      · have HE := Lib.hid (show putsO most A (es.take (k + 1)) = withK (·.frame) (putsO most A (es.take k)) (putN most x ev) by rw [HP.out]; unfold putO; rw [hf])
        have HHE := Lib.hid (show ((hitsO most A (es.take (k + 1)) : Nat) : Int) = (hitsO most A (es.take k) : Nat) + 1 by rw [HH.out, hf]; rfl)
        have HBX := Lib.hid (H2.out.bd x (by rw [← hx]; exact List.getElem_mem hq))
        have hqx : q < xs.length := by rw [← H2.out.eq, List.length_map] at hq; exact hq
        have hxx : xs[q].1 = x := by have := hx; simp only [← H2.out.eq, List.getElem_map] at this; exact this
        have hpos : ¬ atO (putsO most A (es.take k)) ev.frame < 0 := by rw [ha]; omega
        obtain ⟨m1, m2⟩ := H2.out.m.lt (by omega)
        subst m1
        obtain ⟨x0, x1, x2⟩ := H2.out.m.cells q hqx
        have HXE := Lib.hid (H2.out.m.evs _ (List.getElem_mem hqx))
        have HNX := Lib.hid H2.out.b.lt
        have HTX := Lib.hid (show ∀ i, UpB T (w.heap.size + 2) w2 i → i < w2.heap.size from fun i hi => by have := HNX.out; rcases hi with hi | hi; have := HT.out i hi; omega; exact hi.2)
        have HQC := Lib.hid (fun (W : World) (hW : Below w2.heap.size w2 W) => (H2.out.m.keep (T' := fun _ => True) (fun i hi => hW.block i (HTX.out i hi)) (fun _ _ => trivial)).cells q hqx)
        generalize xs[q] = xo at *
        obtain ⟨x', ea, cx⟩ := xo
        simp only at hxx x0 x1 x2 HQC
        subst hxx
        obtain ⟨ys, ey1, ey2, ey3⟩ := HXE.out.row.ex
        simp only at ey1 ey2
        have HYS := Lib.hid (And.intro ey1 (And.intro ey2 ey3))
        have HYL := Lib.hid (show ys.length ≤ 900 by have h5 := congrArg List.length ey1; rw [List.length_map] at h5; have := HBX.out; have := HL.out; have := HLT.out; omega)
        have hwh : IntKind.i64.wrap ((hitsO most A (es.take k) : Int) + 1) = (hitsO most A (es.take k) : Int) + 1 := IntWalk.i64_in _ (by have h6 := hitsO_le most (es.take k) A; have := HL.out; simp at h6; omega)
        have hkq : (q : Int) < (xs.length : Int) := by omega
        have hq0 : (0 : Int) ≤ (q : Int) := by omega
        have hqn : ¬ (q : Int) < 0 := by omega
        have HF := Lib.hid hf
        have HGX := Lib.hid (show g < w2.heap.size by have := H2.out.b.lt; rcases m2 with m2 | m2; have := HT.out g m2; omega; exact m2.2)
        rw [ha]
        clear hpos ha hq hx hxf m2 ey1 ey2 ey3 hf hqx
        go_wp2_with fail
        go_region_held3 (fun w' => w'.cell? ⟨w.heap.size, 1, none⟩ = some (.slice (some ⟨g, 0, none⟩) xs.length fc) ∧ w'.cell? ⟨ge, oe + k * 5 + 1, none⟩ = some (.int .i64 ev.frame) ∧ w'.cell? ⟨g, q * 3 + 2, none⟩ = some (.int .i64 x'.lost)) (go_keep)
          (fail)
        have HX3 := Lib.hid ((XSt.start w2 w2.heap.size rfl ev.frame x'.lost).drew)
        clear b0 b1 r0 r1 r2 r3 y0 y1 y2 y3 y4 x0 x1 x2
        generalize (w2.alloc (.cells #[.int .i64 ev.frame, .slice none 0 0, .int .i64 x'.lost] 52)).drew = W3 at *
        generalize w2.heap.size = X at *
        have HBW := Lib.hid (fun (W : World) (hW : Below X w2 W) => (H2.out.b.below hW HNX.out).facts)
        have HYC := Lib.hid (fun (W : World) (hW : Below X w2 W) => HEV.out W (H2.out.b.chg.trans (hW.mono (by have := HNX.out; omega))))
        have HSRC : Hid (∀ W, Below X w2 W → 0 < x'.evs.length → ∃ ad, ea = some ad ∧ ∀ j u, (flatX ys)[j]? = some u → W.cell? (ad.add j) = some u) := Lib.hid (fun W hW hl => by
          obtain ⟨ad, e1, e2, e3⟩ := HYS.out.2.1 (by rw [← List.length_map (f := (·.1)), HYS.out.1]; exact hl)
          exact ⟨ad, e1, fun j u hu => by
            rw [← e3 j u hu]
            have hb : (ad.add j).block = ad.block := by unfold Addr.add; split <;> rfl
            exact World.cell?_of_block (a := ad.add j) (by rw [hb]; exact hW.block ad.block (HTX.out _ e2))⟩)
        have HYE := Lib.hid (show ys.length = x'.evs.length by rw [← HYS.out.1, List.length_map])
        obtain ⟨⟨b0, b1⟩, _⟩ := HBW.out _ HX3.out.chg
        obtain ⟨x0, x1, x2⟩ := HQC.out _ HX3.out.chg
        obtain ⟨c0, c1, c2, c3⟩ := HX3.out.facts
        have HD3 := Lib.hid HX3.out.drew
        obtain ⟨i0, hi, hz0, hz1, hz2⟩ := info_parts info28
        go_wp2_with fail
        have ne1 : ¬ X = w.heap.size := by have := HNX.out; omega
        have ne2 : ¬ w.heap.size = X := by have := HNX.out; omega
        have ne3 : ¬ X = g := by have := HGX.out; omega
        have ne4 : ¬ g = X := by have := HGX.out; omega
        have ne5 : ¬ X = ge := by have := HNX.out; have := HG.out; omega
        have ne6 : ¬ ge = X := by have := HNX.out; have := HG.out; omega
        go_region_law
          ((refine step_append_rows _ (by rfl) _ _ 22 (by rfl) (X + 1) 28 i0 (.agg #[.int .i64 0, .int .i64 0, .int .i64 0, .int .i64 0, .slice none 0 0]) 5 56 Try.underlying22 hi hz0 hz1 hz2 rfl (by decide) (.slice none 0 0) 0 (flatX []) (by rfl) HD3.out.own ea x'.evs.length cx (flatX ys) (by rfl) (by rw [flatX_length, HYE.out]) (HSRC.out _ HD3.out.chg) (flatX_one ys) (by have := HYE.out; have := HYL.out; unfold maxLen; omega) (by have := HYE.out; have := HYL.out; omega) (by have := HD3.out.lt; omega) ?_; intro fs5 fc5 w5 hown5 hg5 hat5; obtain ⟨k0, k1, k2, k3⟩ := HD3.out.after hg5; have HX5 : Hid (XSt w2 (w5.setCell ⟨X, 1, none⟩ (.slice fs5 x'.evs.length fc5)) X ev.frame x'.lost (.slice fs5 x'.evs.length fc5) ys) := Lib.hid (HD3.out.grown (zs := ys) hg5 (by rw [HYE.out]; simpa [flatX] using hown5)); have hbg := HD3.out.chg.grown hg5 (by have := HD3.out.lt; omega) (fun j hj => by simp [Value.ownBlock] at hj)))
        all_goals
          clear b0 b1 x0 x1 x2 c0 c1 c2 c3 HD3 k0 k1 k2 k3 hown5 hg5 hat5 hbg HX3
          generalize w5.setCell ⟨X, 1, none⟩ (.slice fs5 x'.evs.length fc5) = W5 at *
          obtain ⟨y0, y1, y2, y3, y4, _⟩ := HYC.out _ HX5.out.chg
          obtain ⟨c0, c1, c2, c3⟩ := HX5.out.facts
          have HA5 := Lib.hid ((HX5.out.alloc (.cells #[.int .i64 ev.kind, .int .i64 ev.frame, .int .i64 ev.id, .int .i64 ev.agent, .slice va ev.vec.length vc] 28)).drew)
          have n1 := (HX5.out.alloc (.cells #[.int .i64 ev.kind, .int .i64 ev.frame, .int .i64 ev.id, .int .i64 ev.agent, .slice va ev.vec.length vc] 28)).facts.2.1
          have HLt := Lib.hid HX5.out.lt
          go_wp2_with fail
          go_region_law
            ((refine step_append_rows _ (by rfl) _ _ 22 (by rfl) (X + 1) 28 i0 (.agg #[.int .i64 0, .int .i64 0, .int .i64 0, .int .i64 0, .slice none 0 0]) 5 56 Try.underlying22 hi hz0 hz1 hz2 rfl (by decide) (.slice fs5 x'.evs.length fc5) x'.evs.length (flatX ys) (by rfl) (by have h9 := HA5.out.own; rw [HYE.out] at h9; exact h9) (some ⟨W5.heap.size, 0, none⟩) 1 1 (flatX [(ev, va, vc)]) (by rfl) (by rfl) (fun _ => ⟨_, rfl, fun j u hj => cells_new W5 (cellsE ev va vc).toArray 28 (flatX [(ev, va, vc)]) rfl j u hj⟩) (flatX_one _) (by have := HYE.out; have := HYL.out; unfold maxLen; omega) (by have := HYE.out; have := HYL.out; omega) (by have := HLt.out; simp; omega) ?_; intro fs6 fc6 w6 hown6 hg6 hat6; obtain ⟨k0, k1, k2, k3⟩ := HA5.out.after hg6; have HX6 : Hid (XSt w2 (w6.setCell ⟨X, 1, none⟩ (.slice fs6 (x'.evs.length + 1) fc6)) X ev.frame x'.lost (.slice fs6 (x'.evs.length + 1) fc6) (ys ++ [(ev, va, vc)])) := Lib.hid (HA5.out.grown (zs := ys ++ [(ev, va, vc)]) hg6 (by rw [List.length_append, flatX_append, HYE.out]; exact hown6)); have hbg := HA5.out.chg.grown hg6 (by have := HA5.out.lt; omega) (fun j hj => by have := row_own HA5.out.own hj.symm; omega)))
        all_goals
          clear y0 y1 y2 y3 y4 c0 c1 c2 c3 n1 HA5 k0 k1 k2 k3 hown6 hg6 hat6 hbg HX5
          generalize w6.setCell ⟨X, 1, none⟩ (.slice fs6 (x'.evs.length + 1) fc6) = W6 at *
          have HYS6 : Hid ((ys ++ [(ev, va, vc)]).map (·.1) = x'.evs ++ [ev]) := Lib.hid (by rw [List.map_append, HYS.out.1]; rfl)
          obtain ⟨g6, fc7, e7, hle7, hge7, hrow7⟩ := own_events (T := fun i => UpB T (w.heap.size + 2) W6 i ∧ i ≠ X) HX6.out.own (by simp) (fun gg hg => by
            obtain ⟨cs, hb⟩ := row_tag HX6.out.own hg.symm
            exact ⟨.inr ⟨by have := row_own HX6.out.own hg.symm; have := HNX.out; omega, blk_lt hb⟩, by have := row_own HX6.out.own hg.symm; omega⟩) (fun y hy => by
            rcases List.mem_append.1 hy with hy | hy
            · exact (HYS.out.2.2 y hy).keep (fun i hi => HX6.out.chg.block i (HTX.out i hi)) (fun i hi => by
                have h1 := HX6.out.chg.size; have h2 := HX6.out.eq; have h3 := HTX.out i hi
                refine ⟨?_, by omega⟩
                rcases hi with hi | hi
                · exact .inl hi
                · exact .inr ⟨hi.1, by omega⟩)
            · obtain rfl : y = (ev, va, vc) := by simpa using hy
              exact HVP.out.keep (fun i hi => HX6.out.chg.block i (by have := HT.out i hi; have := HNX.out; omega)) (fun i hi => ⟨.inl hi, by have := HT.out i hi; have := HNX.out; omega⟩))
          injection e7 with e7 e7' e7''
          subst e7 e7''
          rw [HYS6.out] at hrow7
          have HROW7 := Lib.hid hrow7
          have hlc : x'.evs.length + 1 ≤ fc6 := by rw [List.length_append, HYE.out] at hle7; simpa using hle7
          have HG6 := Lib.hid hge7
          clear hrow7 hle7 hge7 e7'
          have HBD := Lib.hid (show BdO (c + (k + 1)) (withK (·.frame) (putsO most A (es.take k)) (putN most x' ev)) by rw [← HE.out, HP.out]; exact H2.out.bd.put most ev)
          have HLE := Lib.hid (show (withK (·.frame) (putsO most A (es.take k)) (putN most x' ev)).length ≤ L + (k + 1) by have h8 := withK_length (key := (·.frame)) (putsO most A (es.take k)) (putN most x' ev); have := H2.out.len; omega)
          have HLA := Lib.hid (show (putsO most A (es.take k)).length ≤ 900 by have := H2.out.len; have := HLL.out; have := HLT.out; omega)
          by_cases hgt : most < (x'.evs.length : Int) + 1
          · have HPN : Hid (putN most x' ev = ⟨ev.frame, (x'.evs ++ [ev]).drop 1, x'.lost + 1⟩) := Lib.hid (by unfold putN; rw [if_pos (by simpa using hgt)])
            have hl1 : (1 : Int) ≤ (x'.evs.length : Int) + 1 := by omega
            have hl2 : 1 ≤ x'.evs.length + 1 := by omega
            have hl3 : ¬ fc6 = 1 := by have := HL.out.1; omega
            have hl4 : ¬ 1 = fc6 := by omega
            have hl5 : (1 : Int) ≤ (fc6 : Int) := by omega
            have hwl : IntKind.i64.wrap (x'.lost + 1) = x'.lost + 1 := IntWalk.i64_in _ (by have := HBX.out; have := HL.out; have := HLT.out; omega)
            obtain ⟨c0, c1, c2, c3⟩ := HX6.out.facts
            obtain ⟨⟨b0, b1⟩, _⟩ := HBW.out _ HX6.out.chg
            have HS8 : Hid (let W8 := (W6.setCell ⟨X, 1, none⟩ (.slice (some ⟨g6, 5, none⟩) x'.evs.length (fc6 - 1))).setCell ⟨X, 2, none⟩ (.int .i64 (x'.lost + 1)); W8.heap[X]? = some (.cells #[.int .i64 ev.frame, .slice (some ⟨g6, 5, none⟩) x'.evs.length (fc6 - 1), .int .i64 (x'.lost + 1)] 52 (0, 0)) ∧ Below X w2 W8 ∧ EO (UpB T (w.heap.size + 2) W8) W8 (⟨ev.frame, (x'.evs ++ [ev]).drop 1, x'.lost + 1⟩, some ⟨g6, 5, none⟩, fc6 - 1)) := Lib.hid (by
              refine ⟨blk_set (blk_set HX6.out.xb 1 _) 2 _, (HX6.out.chg.setCell (by simp) _).setCell (by simp) _, ?_, by simp; omega⟩
              have hd := (HROW7.out.keep (w' := (W6.setCell ⟨X, 1, none⟩ (.slice (some ⟨g6, 5, none⟩) x'.evs.length (fc6 - 1))).setCell ⟨X, 2, none⟩ (.int .i64 (x'.lost + 1))) (T' := UpB T (w.heap.size + 2) ((W6.setCell ⟨X, 1, none⟩ (.slice (some ⟨g6, 5, none⟩) x'.evs.length (fc6 - 1))).setCell ⟨X, 2, none⟩ (.int .i64 (x'.lost + 1)))) (fun i hi => (Below.heap_setCell _ _ _ _ hi.2).trans (Below.heap_setCell _ _ _ _ hi.2)) (fun i hi => by
                rcases hi.1 with hi | hi
                · exact .inl hi
                · exact .inr (by simpa [World.setCell] using hi))).drop 1
              simpa [add_flat] using hd)
            have HG3 := Lib.hid c3
            clear c3
            have c3 := HG3.out 1
            have c4 := HG3.out 2
            have KW := Lib.hid (put_with H2.out rfl HT.out HX6.out.eq HS8.out.2.1 (⟨ev.frame, (x'.evs ++ [ev]).drop 1, x'.lost + 1⟩, some ⟨g6, 5, none⟩, fc6 - 1) x'.evs.length (by simp) HS8.out.2.2 HLA.out (by rw [← HPN.out]; exact HBD.out) (by rw [← HPN.out]; exact HLE.out))
            go_wp2_with fail
            refine KW.out.mono ?_
            rintro e w4 ⟨fa', g', fc', ys', rfl, HR4, q0, q1, q2, q3⟩
            clear c0 c1 c2 c3 c4 b0 b1
            go_wp2
            go_roundg (es.length - (k + 1))
            case measure => have := HLT.out; omega
            case rel => exact ⟨k + 1, fa', g', fc', ys', HLT.out, rfl, by rw [HHE.out], by go_num, Lib.hid (by rw [HE.out, HPN.out]; exact HR4.out)⟩
          · have HPN : Hid (putN most x' ev = ⟨ev.frame, x'.evs ++ [ev], x'.lost⟩) := Lib.hid (by unfold putN; rw [if_neg (by simpa using hgt)])
            have hgt' : decide (most < (x'.evs.length : Int) + 1) = false := decide_eq_false hgt
            obtain ⟨c0, c1, c2, c3⟩ := HX6.out.facts
            obtain ⟨⟨b0, b1⟩, _⟩ := HBW.out _ HX6.out.chg
            have KW := Lib.hid (put_with H2.out rfl HT.out HX6.out.eq HX6.out.chg (⟨ev.frame, x'.evs ++ [ev], x'.lost⟩, some ⟨g6, 0, none⟩, fc6) (x'.evs.length + 1) (by simp) ⟨HROW7.out.keep (fun _ _ => rfl) (fun i hi => hi.1), by simpa using hlc⟩ HLA.out (by rw [← HPN.out]; exact HBD.out) (by rw [← HPN.out]; exact HLE.out))
            clear hgt HBD HLE HLA
            go_wp2_with fail
            refine KW.out.mono ?_
            rintro e w4 ⟨fa', g', fc', ys', rfl, HR4, q0, q1, q2, q3⟩
            clear c0 c1 c2 c3 b0 b1
            go_wp2
            go_roundg (es.length - (k + 1))
            case measure => have := HLT.out; omega
            case rel => exact ⟨k + 1, fa', g', fc', ys', HLT.out, rfl, by rw [HHE.out], by go_num, Lib.hid (by rw [HE.out, HPN.out]; exact HR4.out)⟩
    · have hki : decide ((k : Int) < (es.length : Int)) = false := decide_eq_false (by omega)
      have htk : es.take k = es := List.take_of_length_le (by omega)
      rw [htk] at H
      have HTK := Lib.hid htk
      obtain ⟨s1, s2, s3⟩ := H.out.b.stop (.slice fa xs.length fc)
      have HF : Hid (MAns T most w (putsO most A es) (.slice fa xs.length fc) ((wr.setCell ⟨w.heap.size + 1, 0, none⟩ (.int .i64 most)).setCell ⟨w.heap.size + 1, 1, none⟩ (.slice fa xs.length fc))) := by
        have hk : ∀ i, UpB T (w.heap.size + 2) wr i → ((wr.setCell ⟨w.heap.size + 1, 0, none⟩ (.int .i64 most)).setCell ⟨w.heap.size + 1, 1, none⟩ (.slice fa xs.length fc)).heap[i]? = wr.heap[i]? := fun i hi => by
          have hne : i ≠ w.heap.size + 1 := fun e => by rcases hi with hi | hi; have := HT.out i hi; omega; omega
          exact (Below.heap_setCell _ _ _ _ hne).trans (Below.heap_setCell _ _ _ _ hne)
        refine Lib.hid ⟨xs, fa, g, fc, H.out.eq, rfl, H.out.m.keep hk (fun i hi => ?_)⟩
        rcases hi with hi | hi
        · exact .inl hi
        · exact .inr ⟨by omega, by simpa [World.setCell] using hi.2⟩
      have HS3 := Lib.hid s3
      clear s3 htk hk
      go_wp2
      refine bodyPost_ret (v := .tuple #[.agg #[.int .i64 most, .slice fa xs.length fc], .int .i64 (hitsO most A (es.take k))]) (by simp [results, Try.results27, go_sem, s1, s2]) rfl ⟨_, by rw [HTK.out], HF.out, HS3.out⟩
end Go.Proofs.Ytchhpgnlfofdcaa.Q
