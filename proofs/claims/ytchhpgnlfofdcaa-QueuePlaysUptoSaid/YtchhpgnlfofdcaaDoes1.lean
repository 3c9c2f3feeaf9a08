/- does, walked: opening. -/
import Derived.Test.YtchhpgnlfofdcaaDoes0
import Derived.Deep.RegionHeld3
set_option linter.unusedVariables false
set_option linter.unusedSimpArgs false
namespace Go.Proofs.Ytchhpgnlfofdcaa.Q
open Go.RowKit Go.Proofs.Ytchhpgnlfofdcaa.Hp Go.Proofs.Ytchhpgnlfofdcaa.Mp
set_option maxRecDepth 100000

set_option maxHeartbeats 4000000 in
theorem does_open (b m : Nat) (most : Int) (l : List (Int × Qr)) (A : List On) (xs : List Oe) (fa : Option Addr) (g fc : Nat) (a : Ac) (ea : Option Addr) (ec c : Nat) (w : World) (hT : Tq w b m most l) (hm : 1 ≤ most) (hsim : Sim most (abs l) A) (hbd : Bd c l) (hxs : xs.map (·.1) = A) (hlen : A.length ≤ 900) (hM : MAt (Fr w m l) w fa g xs) (hk : a.kind = 0) :
    Calls Try.prog 16 #[.pointer (some ⟨b, 0, none⟩), .agg #[.int .i64 most, .slice fa xs.length fc], .agg #[.int .i64 a.kind, .int .i64 a.frame, .int .i64 a.n, .slice ea a.evs.length ec]] w (DAns b m most l w (openP (abs l) a.frame) (openF A a.frame).1 c) := by
  obtain ⟨hd, hb⟩ := DSt.start w most (.slice fa xs.length fc) a ea ec
  have HD := Lib.hid hd
  have HB := Lib.hid hb
  have HT := Lib.hid hT
  have HP := Lib.hid (And.intro hm (And.intro hsim (And.intro hbd hxs)))
  have HBE := Lib.hid (hsim.open (by omega) a.frame)
  have KM := Lib.hid (fun (W : World) (hW : Below w.heap.size w W) => mOpen_calls (Fr w m l) most a.frame fa g fc xs W (by rw [← hxs, List.length_map] at hlen; exact hlen) (fun i hi => Nat.lt_of_lt_of_le hi.1 hW.size) (hM.below (fun i hi => hi.1) hW))
  rw [hxs] at KM
  have KQ := Lib.hid (fun (W : World) (hW : Below w.heap.size w W) => qOpen (c := c) a.frame W (hT.below hW) (by omega) hbd)
  obtain ⟨⟨b0, b1⟩, ⟨a0, a1, a2, a3⟩, r0, r1, r2, r3⟩ := hd.facts
  obtain ⟨akind, aframe, an, aevs⟩ := a
  simp only at hk
  subst hk
  simp only at *
  clear hd hb hT hm hsim hbd hxs hlen hM
  go_enter Try.func16, Try.ntmps16
  go_wp2_with fail
  refine (KM.out _ HB.out).mono ?_
  rintro e w1 ⟨sl, rfl, hm1, hb1⟩
  have hsl : ∃ sa sn sc, sl = .slice sa sn sc := by obtain ⟨ys, fa, g, fc, _, e, _⟩ := hm1; exact ⟨_, _, _, e⟩
  obtain ⟨sa, sn, sc, rfl⟩ := hsl
  have HM1 := Lib.hid hm1
  have HS1 := Lib.hid hb1.size
  have HB1 := Lib.hid ((HB.out.trans (hb1.mono HB.out.size)).alloc (Nat.le_trans HB.out.size hb1.size) (.cells #[.int .i64 most, .slice sa sn sc] 46))
  have HBA := Lib.hid ((Below.refl _ w1).alloc (Nat.le_refl _) (.cells #[.int .i64 most, .slice sa sn sc] 46))
  have HD1 := Lib.hid (HD.out.below (hb1.trans ((Below.refl _ w1).alloc (Nat.le_refl _) (.cells #[.int .i64 most, .slice sa sn sc] 46) |>.mono hb1.size)) HD.out.lt)
  have HPB := Lib.hid (blk_new w1 (.cells #[.int .i64 most, .slice sa sn sc] 46))
  have HPN := Lib.hid (show w.heap.size + 3 ≤ w1.heap.size from Nat.le_trans HD.out.lt hb1.size)
  have p0 := blk_cell HPB.out 0
  have p1 := blk_cell HPB.out 1
  clear hm1 hb1 b0 b1 a0 a1 a2 a3 r0 r1 r2 r3 KM
  obtain ⟨⟨b0, b1⟩, ⟨a0, a1, a2, a3⟩, r0, r1, r2, r3⟩ := HD1.out.facts
  rw [HBE.out.1]
  go_wp2_with fail
  generalize w1.alloc (.cells #[.int .i64 most, .slice sa sn sc] 46) = W1 at *
  have ne1 : ¬ w.heap.size + 1 = w1.heap.size := by have := HPN.out; omega
  have ne2 : ¬ w1.heap.size = w.heap.size + 1 := by have := HPN.out; omega
  have ne3 : ¬ w.heap.size + 1 + 1 = w1.heap.size := by have := HPN.out; omega
  have ne4 : ¬ w1.heap.size = w.heap.size + 1 + 1 := by have := HPN.out; omega
  go_region_held3 (fun w' => w'.cell? ⟨w1.heap.size, 0, none⟩ = some (.int .i64 most) ∧ w'.cell? ⟨w1.heap.size, 1, none⟩ = some (.slice sa sn sc) ∧ w'.cell? ⟨w.heap.size + 1, 1, none⟩ = some (.int .i64 aframe)) (go_keep)
    ((go_at_call 7; refine (KQ.out _ (by exact below_drew HB1.out)).mono ?_; rintro e w2 ⟨rfl, l', hq, ha, hbd'⟩; have hkk : ∀ i, w.heap.size ≤ i → i < W1.heap.size → w2.heap[i]? = W1.heap[i]? := fun i h1 h2 => hq.chg.block i h2 (fun ho => by have := HT.out.own_lt i ho; omega); have HD2 := Lib.hid (HD1.out.keep (fun i h1 h2 => hkk i h1 (by have := HD1.out.lt; omega))); have HPB2 := Lib.hid ((hkk w1.heap.size (by have := HPN.out; omega) (blk_lt HPB.out)).trans HPB.out); have z0 := blk_cell HPB2.out 0; have z1 := blk_cell HPB2.out 1; obtain ⟨_, ⟨_, z2, _⟩, q0, q1, q2, q3⟩ := HD2.out.facts))
  obtain ⟨f1, f2, f3, f4⟩ := DSt.fin rfl HT.out HM1.out HD.out.lt HS1.out (Qs.of_below HT.out (below_drew HB1.out)) (below_drew HBA.out) hq HD2.out
  have HF := Lib.hid (And.intro f3 (And.intro f4 (And.intro ha hbd')))
  clear f3 f4 ha hbd' hq hkk b0 b1 a0 a1 a2 a3 r0 r1 r2 r3 z0 z1 z2 q0 q1 q2 q3 p0 p1
  go_wp2
  refine bodyPost_ret (v := .tuple #[.agg #[.int .i64 most, .slice sa sn sc], .bool true]) (by simp [results, Try.results16, go_sem, f1, f2]) rfl ⟨_, l', rfl, HF.out.1, HF.out.2.2.1, HF.out.2.2.2, HF.out.2.1⟩
end Go.Proofs.Ytchhpgnlfofdcaa.Q
