/- The reference's Take. -/
import Derived.Test.YtchhpgnlfofdcaaRq3
import Derived.Deep.RegionHeld3
set_option linter.unusedVariables false
set_option linter.unusedSimpArgs false
namespace Go.Proofs.Ytchhpgnlfofdcaa.Q
open Go.RowKit Go.Proofs.Ytchhpgnlfofdcaa.Hp Go.Proofs.Ytchhpgnlfofdcaa.Mp
set_option maxRecDepth 100000

theorem atO_cases (A : List On) (id : Int) : (A.find? (·.frame == id) = none ∧ atO A id = -1) ∨ ∃ (k : Nat) (x : On) (h : k < A.length), A.find? (·.frame == id) = some x ∧ atO A id = (k : Int) ∧ A[k] = x ∧ x.frame = id := by
  unfold atO
  cases hk : A.findIdx? (·.frame == id) with
  | none =>
    left
    refine ⟨?_, rfl⟩
    rw [List.findIdx?_eq_none_iff] at hk
    rw [List.find?_eq_none]
    intro x hx
    simpa using hk x hx
  | some k =>
    right
    obtain ⟨h1, h2, h3⟩ := List.findIdx?_eq_some_iff_getElem.1 hk
    refine ⟨k, A[k], h1, ?_, rfl, rfl, by simpa using h2⟩
    rw [List.find?_eq_some_iff_getElem]
    exact ⟨h2, k, h1, rfl, fun j hj => by have := h3 j hj; simpa using this⟩
theorem ERow.drop {T : Nat → Prop} {w : World} {fa : Option Addr} {es : List Ev} (h : ERow T w fa es) (n : Nat) : ERow T w (fa.map (·.add (n * 5))) (es.drop n) := by
  obtain ⟨g, o, h1, h2⟩ := h
  refine ⟨g, o + n * 5, fun hl => ?_, fun j hj => ?_⟩
  · rw [List.length_drop] at hl
    obtain ⟨e, hT⟩ := h1 (by omega)
    rw [e, Option.map_some, add_flat]
    exact ⟨rfl, hT⟩
  · rw [List.length_drop] at hj
    obtain ⟨va, vc, he⟩ := h2 (n + j) (by omega)
    refine ⟨va, vc, ?_⟩
    rw [List.getElem_drop, show o + n * 5 + j * 5 = o + (n + j) * 5 by omega]
    exact he
theorem ERow.take {T : Nat → Prop} {w : World} {fa : Option Addr} {es : List Ev} (h : ERow T w fa es) (n : Nat) : ERow T w fa (es.take n) := by
  obtain ⟨g, o, h1, h2⟩ := h
  refine ⟨g, o, fun hl => h1 (by rw [List.length_take] at hl; omega), fun j hj => ?_⟩
  rw [List.length_take] at hj
  obtain ⟨va, vc, he⟩ := h2 j (by omega)
  exact ⟨va, vc, by rw [List.getElem_take]; exact he⟩
/-- What Take answers. -/
def takeF (A : List On) (id n : Int) : List On × List Ev := match A.find? (·.frame == id) with
  | none => (A, [])
  | some x => if n < 1 then (A, []) else (withK (·.frame) A ⟨id, x.evs.drop (min n.toNat x.evs.length), x.lost⟩, x.evs.take (min n.toNat x.evs.length))
set_option maxHeartbeats 4000000 in
theorem mTake_no (T : Nat → Prop) (most id n : Int) (fa : Option Addr) (g fc : Nat) (xs : List Oe) (w : World) (hlen : xs.length ≤ 900) (hT : ∀ i, T i → i < w.heap.size) (h : MAt T w fa g xs) (hq : atO (xs.map (·.1)) id = -1 ∨ (∃ k : Nat, atO (xs.map (·.1)) id = (k : Int)) ∧ n < 1) :
    Calls Try.prog 28 #[.agg #[.int .i64 most, .slice fa xs.length fc], .int .i64 id, .int .i64 n] w fun e w' => e = .returned (.tuple #[.agg #[.int .i64 most, .slice fa xs.length fc], .slice none 0 0]) ∧ Below w.heap.size w w' := by
  have HS := Lib.hid (BSt.start w most (.slice fa xs.length fc))
  have K1 := Lib.hid (atO_calls T most id fa g fc xs _ hlen (fun i hi => Nat.lt_of_lt_of_le (hT i hi) HS.out.chg.size) (h.below hT HS.out.chg))
  have HQ := Lib.hid hq
  clear h hT hlen hq
  obtain ⟨⟨b0, b1⟩, r0, r1, r2, r3⟩ := HS.out.facts
  generalize atO (xs.map (·.1)) id = at' at *
  go_enter Try.func28, Try.ntmps28
  go_wp2_with fail
  refine K1.out.mono ?_
  rintro e w1 ⟨rfl, hb1⟩
  have HS1 := Lib.hid (HS.out.below hb1 HS.out.lt)
  clear K1 HS hb1 b0 b1 r0 r1 r2 r3
  obtain ⟨⟨b0, b1⟩, r0, r1, r2, r3⟩ := HS1.out.facts
  obtain ⟨s1, s2, s3⟩ := HS1.out.stop (.slice fa xs.length fc)
  have HS3 := Lib.hid s3
  clear s3
  have hq := HQ.out
  clear HQ
  rcases hq with rfl | ⟨⟨k, rfl⟩, hn⟩
  · go_wp2
    refine bodyPost_ret (v := .tuple #[.agg #[.int .i64 most, .slice fa xs.length fc], .slice none 0 0]) (by simp [results, Try.results28, go_sem, s1, s2]) rfl ⟨rfl, HS3.out⟩
  · have hk0 : ¬ (k : Int) < 0 := by omega
    go_wp2
    refine bodyPost_ret (v := .tuple #[.agg #[.int .i64 most, .slice fa xs.length fc], .slice none 0 0]) (by simp [results, Try.results28, go_sem, s1, s2]) rfl ⟨rfl, HS3.out⟩
/-- What Take's last statement knows of the world that it begins in. -/
theorem take_with (T : Nat → Prop) (most id lost : Int) (evs : List Ev) (ea : Option Addr) (ec nl : Nat) (hnl : nl = evs.length) (fa : Option Addr) (g fc : Nat) (xs : List Oe) (w wX : World) (B : Nat) (xf : Int) (xl : Nat) (xa : Option Addr) (xc : Nat) (hlen : xs.length ≤ 900) (hT : ∀ i, T i → i < w.heap.size) (h : MAt T w fa g xs) (hS : BSt w wX w.heap.size most (.slice fa xs.length fc)) (hX : wX.heap[B]? = some (.cells #[.int .i64 xf, .slice xa xl xc, .int .i64 lost] 52 (0, 0))) (he : EO T wX (⟨id, evs, lost⟩, ea, ec)) :
    ∀ W, Below wX.heap.size wX W → Calls Try.prog 33 #[.agg #[.int .i64 most, .slice fa xs.length fc], .agg #[.int .i64 id, .slice ea nl ec, .int .i64 lost]] W fun e w2 => ∃ sa sn sc, e = .returned (.agg #[.int .i64 most, .slice sa sn sc]) ∧ Hid (MAns T most w (withK (·.frame) (xs.map (·.1)) ⟨id, evs, lost⟩) (.slice sa sn sc) ((w2.setCell ⟨w.heap.size + 1, 0, none⟩ (.int .i64 most)).setCell ⟨w.heap.size + 1, 1, none⟩ (.slice sa sn sc))) ∧
      Hid (BSt w w2 w.heap.size most (.slice fa xs.length fc)) ∧ (w2.cell? ⟨w.heap.size, 0, none⟩ = some (.int .i64 most) ∧ w2.cell? ⟨w.heap.size, 1, none⟩ = some (.slice fa xs.length fc) ∧ w2.cell? ⟨w.heap.size + 1, 0, none⟩ = some (.int .i64 0) ∧ w2.cell? ⟨w.heap.size + 1, 1, none⟩ = some (.slice none 0 0) ∧ w2.frozen? ⟨w.heap.size + 1, 0, none⟩ = false ∧ w2.frozen? ⟨w.heap.size + 1, 1, none⟩ = false) ∧
      w2.cell? ⟨B, 1, none⟩ = some (.slice xa xl xc) ∧ w2.cell? ⟨B, 2, none⟩ = some (.int .i64 lost) := by
  intro W hW
  subst hnl
  have hSW := hS.below hW hS.lt
  have hc := hS.chg.trans (hW.mono hS.chg.size)
  refine (with_calls T most (⟨id, evs, lost⟩, ea, ec) fa g fc xs W hlen (fun i hi => Nat.lt_of_lt_of_le (hT i hi) hSW.chg.size) (h.below hT hSW.chg) (he.keep (fun i hi => hW.block i (Nat.lt_of_lt_of_le (hT i hi) hS.chg.size)) (fun _ hi => hi))).mono fun e w2 ⟨sl, e1, hm, hb⟩ => ?_
  have hm' := hm
  obtain ⟨ys, fa2, g2, fc2, _, e2, _⟩ := hm'
  subst e2
  have hS2 := hSW.below hb hSW.lt
  have hB : B < W.heap.size := Nat.lt_of_lt_of_le (blk_lt hX) hW.size
  have hX2 := (hb.block B hB).trans ((hW.block B (blk_lt hX)).trans hX)
  obtain ⟨⟨b0, b1⟩, r0, r1, r2, r3⟩ := hS2.facts
  exact ⟨_, _, _, e1, Lib.hid (hm.stop hT hSW.lt _ _ rfl), Lib.hid hS2, ⟨b0, b1, r0, r1, r2, r3⟩, blk_cell hX2 1, blk_cell hX2 2⟩
/-- What Take answers, where there is something to take. -/
def TakeAns (T : Nat → Prop) (most id : Int) (A : List On) (evs : List Ev) (lost : Int) (kk : Nat) (w : World) (e : Ending) (w' : World) : Prop :=
  ∃ sl ta tc, e = .returned (.tuple #[.agg #[.int .i64 most, sl], .slice ta kk tc]) ∧ MAns T most w (withK (·.frame) A ⟨id, evs.drop kk, lost⟩) sl w' ∧ ERow T w' ta (evs.take kk) ∧ Below w.heap.size w w'
set_option maxHeartbeats 1000000 in
theorem mTake_yes (T : Nat → Prop) (most id : Int) (n : Nat) (fa : Option Addr) (g fc : Nat) (xs : List Oe) (w : World) (hlen : xs.length ≤ 900) (hT : ∀ i, T i → i < w.heap.size) (h : MAt T w fa g xs) (k : Nat) (hk : k < xs.length) (hat : atO (xs.map (·.1)) id = (k : Int)) (hn : 1 ≤ n) :
    Calls Try.prog 28 #[.agg #[.int .i64 most, .slice fa xs.length fc], .int .i64 id, .int .i64 n] w (TakeAns T most id (xs.map (·.1)) xs[k].1.evs xs[k].1.lost (min n xs[k].1.evs.length) w) := by
  have HS := Lib.hid (BSt.start w most (.slice fa xs.length fc))
  have K1 := Lib.hid (atO_calls T most id fa g fc xs _ hlen (fun i hi => Nat.lt_of_lt_of_le (hT i hi) HS.out.chg.size) (h.below hT HS.out.chg))
  rw [hat] at K1
  have HL := Lib.hid hlen
  have HT := Lib.hid hT
  have HA := Lib.hid h
  have HK := Lib.hid hk
  obtain ⟨h1, h2⟩ := h.lt (by omega)
  subst h1
  have hki : (k : Int) < (xs.length : Int) := by omega
  have hk0 : (0 : Int) ≤ (k : Int) := by omega
  have hk1 : ¬ (k : Int) < 0 := by omega
  have hn1 : ¬ (n : Int) < 1 := by omega
  have HG := Lib.hid (hT _ h2)
  clear h hT hlen hat h2
  obtain ⟨⟨b0, b1⟩, r0, r1, r2, r3⟩ := HS.out.facts
  have HAX := Lib.hid (fun (W : World) (hW : Below w.heap.size w W) => (HA.out.below HT.out hW).cells k HK.out)
  have HX := Lib.hid (HA.out.evs _ (List.getElem_mem HK.out))
  have hle := HX.out.le
  generalize xs[k] = x at *
  obtain ⟨⟨xf, es, lost⟩, ea, ec⟩ := x
  simp only at hle HAX HX ⊢
  clear hk
  obtain ⟨kk, hkk⟩ : ∃ kk, kk = min n es.length := ⟨_, rfl⟩
  rw [← hkk]
  have HKK := Lib.hid hkk
  clear hkk
  go_enter Try.func28, Try.ntmps28
  go_wp2_with fail
  refine K1.out.mono ?_
  rintro e w1 ⟨rfl, hb1⟩
  have HS1 := Lib.hid (HS.out.below hb1 HS.out.lt)
  clear K1 HS hb1 b0 b1 r0 r1 r2 r3
  obtain ⟨⟨b0, b1⟩, r0, r1, r2, r3⟩ := HS1.out.facts
  obtain ⟨x0, x1, x2⟩ := HAX.out _ HS1.out.chg
  have HX2 := Lib.hid (blk_new w1 (.cells #[.int .i64 xf, .slice ea es.length ec, .int .i64 lost] 52))
  have HS2 := Lib.hid (HS1.out.alloc (.cells #[.int .i64 xf, .slice ea es.length ec, .int .i64 lost] 52))
  have hl0 : (0 : Int) ≤ (kk : Int) := by omega
  have hl1 : (kk : Int) ≤ (es.length : Int) := by have := HKK.out; omega
  have hl2 : (kk : Int) ≤ (ec : Int) := by omega
  have hcase : (es.length : Int) < (n : Int) ∧ es.length = kk ∨ ¬ (es.length : Int) < (n : Int) ∧ n = kk := by have := HKK.out; omega
  rcases hcase with ⟨hc, hkk⟩ | ⟨hc, hkk⟩
  · have HKE := Lib.hid hkk
    clear hkk
    by_cases hce : ec = es.length
    · subst hce
      have hkk := 1
      clear hkk
      generalize hWX : w1.alloc (.cells #[.int .i64 xf, .slice ea es.length es.length, .int .i64 lost] 52) = wX at *
      have HXE := Lib.hid (HX.out.keep (w' := wX) (fun i hi => HS2.out.chg.block i (HT.out i hi)) (fun _ hi => hi))
      have KW : Hid (∀ W, Below wX.heap.size wX W → Calls Try.prog 33 #[.agg #[.int .i64 most, .slice (some ⟨g, 0, none⟩) xs.length fc], .agg #[.int .i64 id, .slice ea 0 0, .int .i64 lost]] W _) := Lib.hid (take_with T most id lost ([] : List Ev) ea 0 0 rfl (some ⟨g, 0, none⟩) g fc xs w wX w1.heap.size xf es.length ea es.length HL.out HT.out HA.out HS2.out HX2.out ⟨ERow.nil _ _ _, Nat.le_refl _⟩)
      obtain ⟨⟨d0, d1⟩, e0, e1, e2, e3⟩ := HS2.out.facts
      have f1 : wX.cell? ⟨w1.heap.size, 1, none⟩ = some (.slice ea es.length es.length) := blk_cell HX2.out 1
      have f2 : wX.cell? ⟨w1.heap.size, 2, none⟩ = some (.int .i64 lost) := blk_cell HX2.out 2
      have n1 : ¬ w.heap.size + 1 = w1.heap.size := by have := HS1.out.lt; omega
      have n2 : ¬ w1.heap.size = w.heap.size + 1 := by have := HS1.out.lt; omega
      go_wp2_with fail
      clear hWX
      go_region_held3 (fun w' => w'.cell? ⟨w.heap.size, 0, none⟩ = some (.int .i64 most) ∧ w'.cell? ⟨w.heap.size, 1, none⟩ = some (.slice (some ⟨g, 0, none⟩) xs.length fc) ∧ w'.cell? ⟨w1.heap.size, 1, none⟩ = some (.slice ea es.length es.length) ∧ w'.cell? ⟨w1.heap.size, 2, none⟩ = some (.int .i64 lost)) (go_keep)
        ((go_at_call 33; refine (KW.out _ (by exact below_drew (Below.refl _ _))).mono ?_; rintro e w2 ⟨sa, sn, sc, rfl, HM2, HS3, ⟨i0, i1, i2, i3, i4, i5⟩, j1, j2⟩))
      obtain ⟨s1, s2, s3⟩ := HS3.out.stop (.slice sa sn sc)
      have HR := Lib.hid (HX.out.row.keep (w' := (w2.setCell ⟨w.heap.size + 1, 0, none⟩ (.int .i64 most)).setCell ⟨w.heap.size + 1, 1, none⟩ (.slice sa sn sc)) (fun i hi => s3.block i (HT.out i hi)) (fun _ hi => hi))
      have HB3 := Lib.hid s3
      clear s3
      go_wp2
      refine bodyPost_ret (v := .tuple #[.agg #[.int .i64 most, .slice sa sn sc], .slice ea es.length es.length]) (by simp [results, Try.results28, go_sem, s1, s2]) rfl ⟨_, ea, es.length, by rw [← HKE.out], by rw [← HKE.out, List.drop_length]; exact HM2.out, HR.out.take _, HB3.out⟩

    · have hkk := 1
      have hce2 : ¬ es.length = ec := fun h => hce h.symm
      have hlz : (es.drop es.length).length = 0 := by simp
      have hl3 : (es.length : Int) ≤ (ec : Int) := by omega
      have hl4 : (0 : Int) ≤ (es.length : Int) := by omega
      clear hkk
      generalize hWX : w1.alloc (.cells #[.int .i64 xf, .slice ea es.length ec, .int .i64 lost] 52) = wX at *
      have HXE := Lib.hid (HX.out.keep (w' := wX) (fun i hi => HS2.out.chg.block i (HT.out i hi)) (fun _ hi => hi))
      have KW : Hid (∀ W, Below wX.heap.size wX W → Calls Try.prog 33 #[.agg #[.int .i64 most, .slice (some ⟨g, 0, none⟩) xs.length fc], .agg #[.int .i64 id, .slice (ea.map (·.add (es.length * 5))) 0 (ec - es.length), .int .i64 lost]] W _) := Lib.hid (take_with T most id lost (es.drop es.length) (ea.map (·.add (es.length * 5))) (ec - es.length) 0 (by simp) (some ⟨g, 0, none⟩) g fc xs w wX w1.heap.size xf es.length ea ec HL.out HT.out HA.out HS2.out HX2.out ⟨HXE.out.row.drop es.length, by simp⟩)
      obtain ⟨⟨d0, d1⟩, e0, e1, e2, e3⟩ := HS2.out.facts
      have f1 : wX.cell? ⟨w1.heap.size, 1, none⟩ = some (.slice ea es.length ec) := blk_cell HX2.out 1
      have f2 : wX.cell? ⟨w1.heap.size, 2, none⟩ = some (.int .i64 lost) := blk_cell HX2.out 2
      have n1 : ¬ w.heap.size + 1 = w1.heap.size := by have := HS1.out.lt; omega
      have n2 : ¬ w1.heap.size = w.heap.size + 1 := by have := HS1.out.lt; omega
      go_wp2_with fail
      clear hWX
      go_region_held3 (fun w' => w'.cell? ⟨w.heap.size, 0, none⟩ = some (.int .i64 most) ∧ w'.cell? ⟨w.heap.size, 1, none⟩ = some (.slice (some ⟨g, 0, none⟩) xs.length fc) ∧ w'.cell? ⟨w1.heap.size, 1, none⟩ = some (.slice ea es.length ec) ∧ w'.cell? ⟨w1.heap.size, 2, none⟩ = some (.int .i64 lost)) (go_keep)
        ((go_at_call 33; refine (KW.out _ (by exact below_drew (Below.refl _ _))).mono ?_; rintro e w2 ⟨sa, sn, sc, rfl, HM2, HS3, ⟨i0, i1, i2, i3, i4, i5⟩, j1, j2⟩))
      obtain ⟨s1, s2, s3⟩ := HS3.out.stop (.slice sa sn sc)
      have HR := Lib.hid (HX.out.row.keep (w' := (w2.setCell ⟨w.heap.size + 1, 0, none⟩ (.int .i64 most)).setCell ⟨w.heap.size + 1, 1, none⟩ (.slice sa sn sc)) (fun i hi => s3.block i (HT.out i hi)) (fun _ hi => hi))
      have HB3 := Lib.hid s3
      clear s3
      go_wp2
      refine bodyPost_ret (v := .tuple #[.agg #[.int .i64 most, .slice sa sn sc], .slice ea es.length ec]) (by simp [results, Try.results28, go_sem, s1, s2]) rfl ⟨_, ea, ec, by rw [← HKE.out], by rw [← HKE.out]; exact HM2.out, HR.out.take _, HB3.out⟩

  · have HKE := Lib.hid hkk
    have hnl : n ≤ es.length := by omega
    by_cases hce : ec = n
    · have hen : n = es.length := by omega
      have hec : ec = es.length := by omega
      subst hec
      clear hce
      subst hen
      clear hkk
      generalize hWX : w1.alloc (.cells #[.int .i64 xf, .slice ea es.length es.length, .int .i64 lost] 52) = wX at *
      have HXE := Lib.hid (HX.out.keep (w' := wX) (fun i hi => HS2.out.chg.block i (HT.out i hi)) (fun _ hi => hi))
      have KW : Hid (∀ W, Below wX.heap.size wX W → Calls Try.prog 33 #[.agg #[.int .i64 most, .slice (some ⟨g, 0, none⟩) xs.length fc], .agg #[.int .i64 id, .slice ea 0 0, .int .i64 lost]] W _) := Lib.hid (take_with T most id lost ([] : List Ev) ea 0 0 rfl (some ⟨g, 0, none⟩) g fc xs w wX w1.heap.size xf es.length ea es.length HL.out HT.out HA.out HS2.out HX2.out ⟨ERow.nil _ _ _, Nat.le_refl _⟩)
      obtain ⟨⟨d0, d1⟩, e0, e1, e2, e3⟩ := HS2.out.facts
      have f1 : wX.cell? ⟨w1.heap.size, 1, none⟩ = some (.slice ea es.length es.length) := blk_cell HX2.out 1
      have f2 : wX.cell? ⟨w1.heap.size, 2, none⟩ = some (.int .i64 lost) := blk_cell HX2.out 2
      have n1 : ¬ w.heap.size + 1 = w1.heap.size := by have := HS1.out.lt; omega
      have n2 : ¬ w1.heap.size = w.heap.size + 1 := by have := HS1.out.lt; omega
      go_wp2_with fail
      clear hWX
      go_region_held3 (fun w' => w'.cell? ⟨w.heap.size, 0, none⟩ = some (.int .i64 most) ∧ w'.cell? ⟨w.heap.size, 1, none⟩ = some (.slice (some ⟨g, 0, none⟩) xs.length fc) ∧ w'.cell? ⟨w1.heap.size, 1, none⟩ = some (.slice ea es.length es.length) ∧ w'.cell? ⟨w1.heap.size, 2, none⟩ = some (.int .i64 lost)) (go_keep)
        ((go_at_call 33; refine (KW.out _ (by exact below_drew (Below.refl _ _))).mono ?_; rintro e w2 ⟨sa, sn, sc, rfl, HM2, HS3, ⟨i0, i1, i2, i3, i4, i5⟩, j1, j2⟩))
      obtain ⟨s1, s2, s3⟩ := HS3.out.stop (.slice sa sn sc)
      have HR := Lib.hid (HX.out.row.keep (w' := (w2.setCell ⟨w.heap.size + 1, 0, none⟩ (.int .i64 most)).setCell ⟨w.heap.size + 1, 1, none⟩ (.slice sa sn sc)) (fun i hi => s3.block i (HT.out i hi)) (fun _ hi => hi))
      have HB3 := Lib.hid s3
      clear s3
      go_wp2
      refine bodyPost_ret (v := .tuple #[.agg #[.int .i64 most, .slice sa sn sc], .slice ea es.length es.length]) (by simp [results, Try.results28, go_sem, s1, s2]) rfl ⟨_, ea, es.length, by rw [← HKE.out], by rw [← HKE.out, List.drop_length]; exact HM2.out, HR.out.take _, HB3.out⟩

    · have hce2 : ¬ n = ec := fun h => hce h.symm
      have hlz : (es.drop n).length = es.length - n := by simp
      have hl3 : (n : Int) ≤ (ec : Int) := by omega
      have hl4 : (0 : Int) ≤ (n : Int) := by omega
      have hl5 : (n : Int) ≤ (es.length : Int) := by omega
      clear hkk
      generalize hWX : w1.alloc (.cells #[.int .i64 xf, .slice ea es.length ec, .int .i64 lost] 52) = wX at *
      have HXE := Lib.hid (HX.out.keep (w' := wX) (fun i hi => HS2.out.chg.block i (HT.out i hi)) (fun _ hi => hi))
      have KW : Hid (∀ W, Below wX.heap.size wX W → Calls Try.prog 33 #[.agg #[.int .i64 most, .slice (some ⟨g, 0, none⟩) xs.length fc], .agg #[.int .i64 id, .slice (ea.map (·.add (n * 5))) (es.length - n) (ec - n), .int .i64 lost]] W _) := Lib.hid (take_with T most id lost (es.drop n) (ea.map (·.add (n * 5))) (ec - n) (es.length - n) (by simp) (some ⟨g, 0, none⟩) g fc xs w wX w1.heap.size xf es.length ea ec HL.out HT.out HA.out HS2.out HX2.out ⟨HXE.out.row.drop n, by simp; omega⟩)
      obtain ⟨⟨d0, d1⟩, e0, e1, e2, e3⟩ := HS2.out.facts
      have f1 : wX.cell? ⟨w1.heap.size, 1, none⟩ = some (.slice ea es.length ec) := blk_cell HX2.out 1
      have f2 : wX.cell? ⟨w1.heap.size, 2, none⟩ = some (.int .i64 lost) := blk_cell HX2.out 2
      have n1 : ¬ w.heap.size + 1 = w1.heap.size := by have := HS1.out.lt; omega
      have n2 : ¬ w1.heap.size = w.heap.size + 1 := by have := HS1.out.lt; omega
      go_wp2_with fail
      clear hWX
      go_region_held3 (fun w' => w'.cell? ⟨w.heap.size, 0, none⟩ = some (.int .i64 most) ∧ w'.cell? ⟨w.heap.size, 1, none⟩ = some (.slice (some ⟨g, 0, none⟩) xs.length fc) ∧ w'.cell? ⟨w1.heap.size, 1, none⟩ = some (.slice ea es.length ec) ∧ w'.cell? ⟨w1.heap.size, 2, none⟩ = some (.int .i64 lost)) (go_keep)
        ((go_at_call 33; refine (KW.out _ (by exact below_drew (Below.refl _ _))).mono ?_; rintro e w2 ⟨sa, sn, sc, rfl, HM2, HS3, ⟨i0, i1, i2, i3, i4, i5⟩, j1, j2⟩))
      obtain ⟨s1, s2, s3⟩ := HS3.out.stop (.slice sa sn sc)
      have HR := Lib.hid (HX.out.row.keep (w' := (w2.setCell ⟨w.heap.size + 1, 0, none⟩ (.int .i64 most)).setCell ⟨w.heap.size + 1, 1, none⟩ (.slice sa sn sc)) (fun i hi => s3.block i (HT.out i hi)) (fun _ hi => hi))
      have HB3 := Lib.hid s3
      clear s3
      go_wp2
      refine bodyPost_ret (v := .tuple #[.agg #[.int .i64 most, .slice sa sn sc], .slice ea n ec]) (by simp [results, Try.results28, go_sem, s1, s2]) rfl ⟨_, ea, ec, by rw [← HKE.out], by rw [← HKE.out]; exact HM2.out, HR.out.take _, HB3.out⟩

end Go.Proofs.Ytchhpgnlfofdcaa.Q
