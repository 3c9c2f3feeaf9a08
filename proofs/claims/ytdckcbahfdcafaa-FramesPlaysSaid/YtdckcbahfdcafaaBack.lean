/- FramesBack, walked. -/
import Derived.Test.YtdckcbahfdcafaaWorks
import Derived.Deep.LoopGhost
set_option linter.unusedVariables false
set_option linter.unusedSimpArgs false
namespace Go.Proofs.Ytdckcbahfdcafaa.F
open Go.RowKit Go.Proofs.Ytdckcbahfdcafaa.Hp Go.Proofs.Ytdckcbahfdcafaa.Mp
set_option maxRecDepth 100000
attribute [local go_sem high] eqW30

/-- The acts, as they lie in memory. -/
def Acts (w : World) (xa : Option Addr) (xl : Nat) (xb xo : Nat) (L : Nat → A) : Prop := (0 < xl → xa = some ⟨xb, xo, none⟩) ∧ ∀ j, j < xl → xb < w.heap.size ∧
  w.cell? ⟨xb, xo + j * 5, none⟩ = some (.int .i64 (L j).kind) ∧ w.cell? ⟨xb, xo + j * 5 + 1, none⟩ = some (.int .i64 (L j).id) ∧ w.cell? ⟨xb, xo + j * 5 + 2, none⟩ = some (.int .i64 (L j).role) ∧
  w.cell? ⟨xb, xo + j * 5 + 3, none⟩ = some (.int .i64 (L j).weight) ∧ w.cell? ⟨xb, xo + j * 5 + 4, none⟩ = some (.int .i64 (L j).time)
/-- What a loop over the acts keeps to. -/
structure St (w wr : World) (cap : Int) (j : Nat) (l : List (Int × Fr)) (R : List (Int × Int)) : Prop where
  tab : Tab wr (w.heap.size + 1) w.heap.size cap l R
  inv : Inv cap l R
  len : l.length ≤ j
  chg : Below w.heap.size w wr
theorem own_new {w : World} : ∀ i, Own (w.heap.size + 1) w.heap.size i → w.heap.size ≤ i := fun i hi => by rcases hi with h | h <;> omega
theorem St.chgd {w wr w' : World} {cap : Int} {j : Nat} {l : List (Int × Fr)} {R : List (Int × Int)} (h : St w wr cap j l R) (hc : Chg (Own (w.heap.size + 1) w.heap.size) wr w') : Below w.heap.size w w' :=
  h.chg.trans (hc.below own_new h.chg.size)
theorem below_cell {B : Nat} {w w' : World} (h : Below B w w') {p : Addr} (hp : p.block < B) {v : Value} (hv : w.cell? p = some v) : w'.cell? p = some v := by
  rw [← hv]
  have := h.block p.block hp
  unfold World.cell?
  rw [this]

/-- What Disconnect makes of a framework that is there. -/
theorem disc_there {cap : Int} {l : List (Int × Fr)} {R : List (Int × Int)} (h : Inv cap l R) {id : Int} {f : Fr} (hf : mget l id = some f) :
    ∃ c l1 g, discF l id 5 = (c, l1) ∧ mget l1 id = some g ∧ (f.up = true ∧ c = 0 ∧ g = { f with up := false, till := 5 + f.time } ∨ f.up = false ∧ c = 23 ∧ g = f) := by
  unfold discF
  rw [hf]
  simp only
  cases hu : f.up with
  | false =>
    have e : awayF f 5 = (23, f) := by unfold awayF; rw [if_pos hu]
    rw [e]
    exact ⟨23, l, f, rfl, hf, .inr ⟨rfl, rfl, rfl⟩⟩
  | true =>
    have e : awayF f 5 = (0, { f with up := false, till := 5 + f.time }) := by unfold awayF; rw [if_neg (by rw [hu]; simp), if_neg (by omega)]
    rw [e]
    exact ⟨0, _, _, rfl, by simp only [if_true]; rw [mget_mput, if_pos rfl], .inl ⟨rfl, rfl, rfl⟩⟩
theorem sub_there {cap : Int} {l : List (Int × Fr)} {R : List (Int × Int)} (h : Inv cap l R) {id role weight : Int} {f : Fr} (hf : mget l id = some f) (hw : weight = f.weight) :
    ∃ c l2 R2 g, subF cap l R id role weight 3 = ((false, c), l2, R2) ∧ mget l2 id = some g ∧ (role ≠ f.role ∧ c ≠ 0 ∧ g = f ∨ role = f.role ∧ c = 0 ∧ g = ⟨id, role, weight, true, f.quiet, 3, 0⟩) := by
  have g := h.each id f hf
  subst hw
  unfold subF
  by_cases hr : role = f.role
  · rw [if_neg (fun hh => hh ⟨by have := g.id; have := g.id1; omega, by rw [hr]; exact g.role1, by rw [hr]; exact g.role2, g.weight1, g.weight2, by omega, by omega⟩)]
    rw [hf]
    simp only
    rw [if_neg (by simp [hr]), if_neg (by simp)]
    exact ⟨0, _, R, _, rfl, by rw [mget_mput, if_pos rfl], .inr ⟨hr, rfl, rfl⟩⟩
  · split
    · exact ⟨41, l, R, f, rfl, hf, .inl ⟨hr, by omega, rfl⟩⟩
    · rw [hf]
      simp only
      rw [if_pos (fun hh => hr hh.symm)]
      exact ⟨21, l, R, f, rfl, hf, .inl ⟨hr, by omega, rfl⟩⟩

set_option maxHeartbeats 4000000 in
theorem back_walk (xa : Option Addr) (xb xo xl xc : Nat) (L : Nat → A) (id role : Int) (w : World) (hx : Acts w xa xl xb xo L) :
    Calls Try.prog 3 #[.slice xa xl xc, .int .i64 id, .int .i64 role] w fun e w' => e = .returned (.bool true) ∧ Below w.heap.size w w' := by
  by_cases hbig : 100 < (xl : Int)
  · clear hx
    go_enter Try.func3, Try.ntmps3
    go_wp2
    go_ret
    exact ⟨rfl, Below.refl _ _⟩
  have q0 : decide (100 < (xl : Int)) = false := decide_eq_false hbig
  have HX := Lib.hid hx
  have HS100 := Lib.hid (show xl ≤ 100 by omega)
  clear hx hbig
  go_enter Try.func3, Try.ntmps3
  go_wp2_with fail
  refine (new_yes 40 _ (by omega)).mono ?_
  rintro e w1 ⟨rfl, hT, hB⟩
  have HS := Lib.hid (⟨hT, Inv.start (by omega), by simp, hB⟩ : St w w1 40 0 [] (List.replicate 33 (0, 0)))
  clear hT hB
  go_wp2_with fail
  go_loopg [8] xl (fun g i wr => ∃ (j : Nat) (l : List (Int × Fr)) (R : List (Int × Int)), j ≤ xl ∧ g = xl - j ∧ i = .int .i64 j ∧ Hid (St w wr 40 j l R))
  case atStart => exact ⟨0, _, _, by omega, rfl, rfl, HS⟩
  case round =>
    obtain ⟨j, l, R, hj, rfl, rfl, H⟩ := hrel
    clear HS
    by_cases hlt : j < xl
    · obtain rfl := HX.out.1 (by omega)
      obtain ⟨hb, c0, c1, c2, c3, c4⟩ := HX.out.2 j hlt
      have d0 := below_cell H.out.chg (by exact hb) c0
      have d1 := below_cell H.out.chg (by exact hb) c1
      have d2 := below_cell H.out.chg (by exact hb) c2
      have d3 := below_cell H.out.chg (by exact hb) c3
      have d4 := below_cell H.out.chg (by exact hb) c4
      clear c0 c1 c2 c3 c4 hb
      have hlt' : (j : Int) < (xl : Int) := by omega
      have hj0 : (0 : Int) ≤ (j : Int) := by omega
      have hw : IntKind.i64.wrap ((j : Int) + 1) = (j : Int) + 1 := IntWalk.i64_in _ (by have := HS100.out; omega)
      have HD := Lib.hid (do_calls (L j) _ H.out.tab H.out.inv (by have := H.out.len; have := HS100.out; omega))
      unfold encA at HD
      go_wp2_with fail
      refine HD.out.mono ?_
      rintro e w2 ⟨rfl, e2, e3⟩
      have hI := do_inv H.out.inv (L j)
      have H2 := Lib.hid (⟨e2, hI.1, by have := hI.2; have := H.out.len; omega, H.out.chgd e3⟩ : St w w2 40 (j + 1) _ _)
      clear hI e2 e3 HD d0 d1 d2 d3 d4
      go_wp2
      go_roundg (xl - (j + 1))
      case measure => omega
      case rel => exact ⟨j + 1, _, _, by omega, rfl, by go_num, H2⟩
    · have hlt' : decide ((j : Int) < (xl : Int)) = false := decide_eq_false (by omega)
      have HT := Lib.hid H.out.tab
      have HI := Lib.hid H.out.inv
      have HB := Lib.hid H.out.chg
      have HL := Lib.hid (show l.length ≤ 900 by have := H.out.len; have := HS100.out; omega)
      have HO := Lib.hid (own_new (w := w))
      clear H HX
      generalize w.heap.size + 1 = b at *
      generalize hm0 : w.heap.size = m at *
      have HM0 := Lib.hid hm0
      clear hm0
      have G1 := get_calls id _ HT.out
      cases hf : mget l id with
      | none =>
        simp only [got, hf, Option.getD_none, Option.isSome_none, encF_agg, Fr.zero] at G1
        have K1 := Lib.hid G1
        have K2 := Lib.hid (fun W (hW : Tab W b m 40 l R) => disc_calls id 0 W hW (fun k f hf => ⟨(HI.out.each k f hf).time1, (HI.out.each k f hf).time2⟩))
        simp only [discF, hf] at K2
        clear G1 hf
        go_wp2_with fail
        refine K1.out.mono ?_
        rintro e w2 ⟨rfl, hb⟩
        have HT2 := Lib.hid ((HT.out.below hb).alloc (.cells #[.int .i64 0, .int .i64 0, .int .i64 0, .bool false, .bool false, .int .i64 0, .int .i64 0] 30))
        have HC2 := Lib.hid ((Chg.of_below hb (Own b m)).alloc (.cells #[.int .i64 0, .int .i64 0, .int .i64 0, .bool false, .bool false, .int .i64 0, .int .i64 0] 30))
        clear hb HT
        go_wp2_with fail
        refine (K2.out _ HT2.out).mono ?_
        rintro e w3 ⟨rfl, _, h3⟩
        have HC3 := Lib.hid (HC2.out.trans h3)
        clear h3
        go_wp2_with fail
        refine (works_calls _).mono ?_
        rintro e w4 ⟨rfl, h4⟩
        have HC4 := Lib.hid (HC3.out.trans (Chg.of_below h4 _))
        clear h4
        go_wp2
        go_ret
        refine ⟨rfl, ?_⟩
        rw [HM0.out]
        exact HB.out.trans (HC4.out.below HO.out (by have := HB.out.size; have := HM0.out; omega))
      | some f =>
        simp only [got, hf, Option.getD_some, Option.isSome_some] at G1
        have K1 := Lib.hid G1
        obtain ⟨c, l1, g, D1, D2, D3⟩ := disc_there HI.out hf
        have K2 := Lib.hid (fun W (hW : Tab W b m 40 l R) => disc_calls id 5 W hW (fun k f hf => ⟨(HI.out.each k f hf).time1, (HI.out.each k f hf).time2⟩))
        rw [D1] at K2
        have HI1 := (disc_inv HI.out id 5)
        rw [D1] at HI1
        have HI1 := Lib.hid HI1
        obtain ⟨s, l2, R2, h, S1, S2, S3⟩ := sub_there (role := role) HI1.out.1 D2 (show f.weight = g.weight by rcases D3 with ⟨_, _, e⟩ | ⟨_, _, e⟩ <;> rw [e])
        have K3 := Lib.hid (fun W (hW : Tab W b m 40 l1 R) => get_calls id W hW)
        simp only [got, D2, Option.getD_some, Option.isSome_some] at K3
        have K4 := Lib.hid (fun W (hW : Tab W b m 40 l1 R) (hl : l1.length ≤ 900) => sub_calls id role f.weight 3 W hW HI1.out.1 hl)
        rw [S1] at K4
        have K5 := Lib.hid (fun W (hW : Tab W b m 40 l2 R2) => get_calls id W hW)
        simp only [got, S2, Option.getD_some, Option.isSome_some] at K5
        have HL1 := Lib.hid (show l1.length ≤ 900 by have := HI1.out.1.cap; simp only at this; omega)
        have HD3 := Lib.hid D3
        have HS3 := Lib.hid S3
        have hft := (HI.out.each id f hf).time1
        have hft2 := (HI.out.each id f hf).time2
        clear G1 hf D1 D2 D3 S1 S2 S3 HI HI1 HL
        obtain ⟨fid, frole, fw, fu, fq, ft, fl⟩ := f
        simp only at hft hft2 HS3 HD3 K4
        have hwt : IntKind.i64.wrap (5 + ft) = 5 + ft := IntWalk.i64_in _ (by omega)
        clear hft hft2
        simp only [encF_agg] at K1 K3 K5
        rcases HD3.out with ⟨rfl, rfl, rfl⟩ | ⟨rfl, rfl, rfl⟩ <;> rcases HS3.out with ⟨r1', r2', rfl⟩ | ⟨r1', rfl, rfl⟩
        · clear HD3 HS3
          have r1 := Lib.hid r1'
          have r2 := Lib.hid r2'
          clear r1' r2'
          go_wp2_with fail
          refine K1.out.mono ?_
          rintro e w2 ⟨rfl, hb⟩
          have HT2 := Lib.hid ((HT.out.below hb).alloc (.cells #[.int .i64 fid, .int .i64 frole, .int .i64 fw, .bool true, .bool fq, .int .i64 ft, .int .i64 fl] 30))
          have HC2 := Lib.hid ((Chg.of_below hb (Own b m)).alloc (.cells #[.int .i64 fid, .int .i64 frole, .int .i64 fw, .bool true, .bool fq, .int .i64 ft, .int .i64 fl] 30))
          have HF2 := Lib.hid (blk_new w2 (.cells #[.int .i64 fid, .int .i64 frole, .int .i64 fw, .bool true, .bool fq, .int .i64 ft, .int .i64 fl] 30))
          have HN2 := Lib.hid (show ¬ Own b m w2.heap.size from fun hh => by have h1 := (HT.out.below hb).lt_b; have h2 := (HT.out.below hb).lt_m; rcases hh with hh | hh <;> omega)
          clear hb HT K1
          go_wp2_with fail
          refine (K2.out _ HT2.out).mono ?_
          rintro e w3 ⟨rfl, t3, h3⟩
          have HT3 := Lib.hid t3
          have HC3 := Lib.hid (HC2.out.trans h3)
          have HF3 := Lib.hid (h3.blk HF2.out HN2.out)
          clear h3 t3 HT2 HC2 HF2 K2
          generalize w2.heap.size = g0 at *
          go_wp2_with fail
          refine (K3.out _ HT3.out).mono ?_
          rintro e w4 ⟨rfl, h4⟩
          have HT4 := Lib.hid ((HT3.out.below h4).alloc (.cells #[.int .i64 fid, .int .i64 frole, .int .i64 fw, .bool false, .bool fq, .int .i64 ft, .int .i64 (5 + ft)] 30))
          have HC4 := Lib.hid ((HC3.out.trans (Chg.of_below h4 (Own b m))).alloc (.cells #[.int .i64 fid, .int .i64 frole, .int .i64 fw, .bool false, .bool fq, .int .i64 ft, .int .i64 (5 + ft)] 30))
          have HF4 := Lib.hid (blk_alloc (o' := .cells #[.int .i64 fid, .int .i64 frole, .int .i64 fw, .bool false, .bool fq, .int .i64 ft, .int .i64 (5 + ft)] 30) ((Chg.of_below h4 No).blk HF3.out (fun h => h)))
          have HG4 := Lib.hid (blk_new w4 (.cells #[.int .i64 fid, .int .i64 frole, .int .i64 fw, .bool false, .bool fq, .int .i64 ft, .int .i64 (5 + ft)] 30))
          have HN4 := Lib.hid (show ¬ Own b m w4.heap.size from fun hh => by have h1 := (HT3.out.below h4).lt_b; have h2 := (HT3.out.below h4).lt_m; rcases hh with hh | hh <;> omega)
          clear h4 HT3 HC3 HF3 K3
          obtain ⟨c0, c1, c2, c3, c4, c5, c6⟩ := cellF ⟨fid, frole, fw, true, fq, ft, fl⟩ HF4.out
          obtain ⟨d0, d1, d2, d3, d4, d5, d6⟩ := cellF ⟨fid, frole, fw, false, fq, ft, 5 + ft⟩ HG4.out
          go_wp2_with fail
          refine (K4.out _ HT4.out HL1.out).mono ?_
          rintro e w5 ⟨rfl, t5, h5⟩
          have HT5 := Lib.hid t5
          have HC5 := Lib.hid (HC4.out.trans h5)
          have HF5 := Lib.hid (h5.blk HF4.out HN2.out)
          have HG5 := Lib.hid (h5.blk HG4.out HN4.out)
          clear h5 t5 HT4 HC4 HF4 HG4 K4 c0 c1 c2 c3 c4 c5 c6 d0 d1 d2 d3 d4 d5 d6 hwt
          go_wp2_with fail
          refine (K5.out _ HT5.out).mono ?_
          rintro e w6 ⟨rfl, h6⟩
          have HC6 := Lib.hid ((HC5.out.trans (Chg.of_below h6 (Own b m))).alloc (.cells #[.int .i64 fid, .int .i64 frole, .int .i64 fw, .bool false, .bool fq, .int .i64 ft, .int .i64 (5 + ft)] 30))
          have HF6 := Lib.hid (blk_alloc (o' := .cells #[.int .i64 fid, .int .i64 frole, .int .i64 fw, .bool false, .bool fq, .int .i64 ft, .int .i64 (5 + ft)] 30) ((Chg.of_below h6 No).blk HF5.out (fun h => h)))
          have HG6 := Lib.hid (blk_alloc (o' := .cells #[.int .i64 fid, .int .i64 frole, .int .i64 fw, .bool false, .bool fq, .int .i64 ft, .int .i64 (5 + ft)] 30) ((Chg.of_below h6 No).blk HG5.out (fun h => h)))
          have HH6 := Lib.hid (blk_new w6 (.cells #[.int .i64 fid, .int .i64 frole, .int .i64 fw, .bool false, .bool fq, .int .i64 ft, .int .i64 (5 + ft)] 30))
          clear h6 HC5 HF5 HG5 K5
          obtain ⟨c0, c1, c2, c3, c4, c5, c6⟩ := cellF ⟨fid, frole, fw, true, fq, ft, fl⟩ HF6.out
          obtain ⟨d0, d1, d2, d3, d4, d5, d6⟩ := cellF ⟨fid, frole, fw, false, fq, ft, 5 + ft⟩ HG6.out
          obtain ⟨e0, e1, e2, e3, e4, e5, e6⟩ := cellF ⟨fid, frole, fw, false, fq, ft, 5 + ft⟩ HH6.out
          clear HF6 HG6 HH6
          have hq : frEq ⟨fid, frole, fw, false, fq, ft, 5 + ft⟩ ⟨fid, frole, fw, false, fq, ft, 5 + ft⟩ = true := frEq_self _
          have rq : (role == frole) = false := (by rw [beq_eq_false_iff_ne]; exact r1.out)
          have sq : (s == 0) = false := (by rw [beq_eq_false_iff_ne]; exact r2.out)
          have sp : ¬ s = 0 := r2.out
          go_wp2_with fail
          refine (works_calls _).mono ?_
          rintro e w7 ⟨rfl, h7⟩
          have HC7 := Lib.hid (HC6.out.trans (Chg.of_below h7 _))
          clear h7
          go_wp2
          go_ret
          refine ⟨by show Ending.returned (.bool (s != 0)) = _; rw [show (s != 0) = true from by simpa using r2.out], ?_⟩
          rw [HM0.out]
          exact HB.out.trans (HC7.out.below HO.out (by have := HB.out.size; have := HM0.out; omega))
        · clear HD3 HS3
          have r1 := Lib.hid r1'
          clear r1'
          go_wp2_with fail
          refine K1.out.mono ?_
          rintro e w2 ⟨rfl, hb⟩
          have HT2 := Lib.hid ((HT.out.below hb).alloc (.cells #[.int .i64 fid, .int .i64 frole, .int .i64 fw, .bool true, .bool fq, .int .i64 ft, .int .i64 fl] 30))
          have HC2 := Lib.hid ((Chg.of_below hb (Own b m)).alloc (.cells #[.int .i64 fid, .int .i64 frole, .int .i64 fw, .bool true, .bool fq, .int .i64 ft, .int .i64 fl] 30))
          have HF2 := Lib.hid (blk_new w2 (.cells #[.int .i64 fid, .int .i64 frole, .int .i64 fw, .bool true, .bool fq, .int .i64 ft, .int .i64 fl] 30))
          have HN2 := Lib.hid (show ¬ Own b m w2.heap.size from fun hh => by have h1 := (HT.out.below hb).lt_b; have h2 := (HT.out.below hb).lt_m; rcases hh with hh | hh <;> omega)
          clear hb HT K1
          go_wp2_with fail
          refine (K2.out _ HT2.out).mono ?_
          rintro e w3 ⟨rfl, t3, h3⟩
          have HT3 := Lib.hid t3
          have HC3 := Lib.hid (HC2.out.trans h3)
          have HF3 := Lib.hid (h3.blk HF2.out HN2.out)
          clear h3 t3 HT2 HC2 HF2 K2
          generalize w2.heap.size = g0 at *
          go_wp2_with fail
          refine (K3.out _ HT3.out).mono ?_
          rintro e w4 ⟨rfl, h4⟩
          have HT4 := Lib.hid ((HT3.out.below h4).alloc (.cells #[.int .i64 fid, .int .i64 frole, .int .i64 fw, .bool false, .bool fq, .int .i64 ft, .int .i64 (5 + ft)] 30))
          have HC4 := Lib.hid ((HC3.out.trans (Chg.of_below h4 (Own b m))).alloc (.cells #[.int .i64 fid, .int .i64 frole, .int .i64 fw, .bool false, .bool fq, .int .i64 ft, .int .i64 (5 + ft)] 30))
          have HF4 := Lib.hid (blk_alloc (o' := .cells #[.int .i64 fid, .int .i64 frole, .int .i64 fw, .bool false, .bool fq, .int .i64 ft, .int .i64 (5 + ft)] 30) ((Chg.of_below h4 No).blk HF3.out (fun h => h)))
          have HG4 := Lib.hid (blk_new w4 (.cells #[.int .i64 fid, .int .i64 frole, .int .i64 fw, .bool false, .bool fq, .int .i64 ft, .int .i64 (5 + ft)] 30))
          have HN4 := Lib.hid (show ¬ Own b m w4.heap.size from fun hh => by have h1 := (HT3.out.below h4).lt_b; have h2 := (HT3.out.below h4).lt_m; rcases hh with hh | hh <;> omega)
          clear h4 HT3 HC3 HF3 K3
          obtain ⟨c0, c1, c2, c3, c4, c5, c6⟩ := cellF ⟨fid, frole, fw, true, fq, ft, fl⟩ HF4.out
          obtain ⟨d0, d1, d2, d3, d4, d5, d6⟩ := cellF ⟨fid, frole, fw, false, fq, ft, 5 + ft⟩ HG4.out
          go_wp2_with fail
          refine (K4.out _ HT4.out HL1.out).mono ?_
          rintro e w5 ⟨rfl, t5, h5⟩
          have HT5 := Lib.hid t5
          have HC5 := Lib.hid (HC4.out.trans h5)
          have HF5 := Lib.hid (h5.blk HF4.out HN2.out)
          have HG5 := Lib.hid (h5.blk HG4.out HN4.out)
          clear h5 t5 HT4 HC4 HF4 HG4 K4 c0 c1 c2 c3 c4 c5 c6 d0 d1 d2 d3 d4 d5 d6 hwt
          go_wp2_with fail
          refine (K5.out _ HT5.out).mono ?_
          rintro e w6 ⟨rfl, h6⟩
          have HC6 := Lib.hid ((HC5.out.trans (Chg.of_below h6 (Own b m))).alloc (.cells #[.int .i64 id, .int .i64 role, .int .i64 fw, .bool true, .bool fq, .int .i64 3, .int .i64 0] 30))
          have HF6 := Lib.hid (blk_alloc (o' := .cells #[.int .i64 id, .int .i64 role, .int .i64 fw, .bool true, .bool fq, .int .i64 3, .int .i64 0] 30) ((Chg.of_below h6 No).blk HF5.out (fun h => h)))
          have HG6 := Lib.hid (blk_alloc (o' := .cells #[.int .i64 id, .int .i64 role, .int .i64 fw, .bool true, .bool fq, .int .i64 3, .int .i64 0] 30) ((Chg.of_below h6 No).blk HG5.out (fun h => h)))
          have HH6 := Lib.hid (blk_new w6 (.cells #[.int .i64 id, .int .i64 role, .int .i64 fw, .bool true, .bool fq, .int .i64 3, .int .i64 0] 30))
          clear h6 HC5 HF5 HG5 K5
          obtain ⟨c0, c1, c2, c3, c4, c5, c6⟩ := cellF ⟨fid, frole, fw, true, fq, ft, fl⟩ HF6.out
          obtain ⟨d0, d1, d2, d3, d4, d5, d6⟩ := cellF ⟨fid, frole, fw, false, fq, ft, 5 + ft⟩ HG6.out
          obtain ⟨e0, e1, e2, e3, e4, e5, e6⟩ := cellF ⟨id, role, fw, true, fq, 3, 0⟩ HH6.out
          clear HF6 HG6 HH6
          have hq : frEq ⟨id, role, fw, true, fq, 3, 0⟩ ⟨id, role, fw, true, fq, 3, 0⟩ = true := frEq_self _
          have rq : (role == frole) = true := (by rw [r1.out]; exact beq_self_eq_true _)
          clear r1
          go_wp2_with fail
          refine (works_calls _).mono ?_
          rintro e w7 ⟨rfl, h7⟩
          have HC7 := Lib.hid (HC6.out.trans (Chg.of_below h7 _))
          clear h7
          go_wp2
          go_ret
          refine ⟨rfl, ?_⟩
          rw [HM0.out]
          exact HB.out.trans (HC7.out.below HO.out (by have := HB.out.size; have := HM0.out; omega))
        · clear HD3 HS3
          have r1 := Lib.hid r1'
          have r2 := Lib.hid r2'
          clear r1' r2'
          go_wp2_with fail
          refine K1.out.mono ?_
          rintro e w2 ⟨rfl, hb⟩
          have HT2 := Lib.hid ((HT.out.below hb).alloc (.cells #[.int .i64 fid, .int .i64 frole, .int .i64 fw, .bool false, .bool fq, .int .i64 ft, .int .i64 fl] 30))
          have HC2 := Lib.hid ((Chg.of_below hb (Own b m)).alloc (.cells #[.int .i64 fid, .int .i64 frole, .int .i64 fw, .bool false, .bool fq, .int .i64 ft, .int .i64 fl] 30))
          have HF2 := Lib.hid (blk_new w2 (.cells #[.int .i64 fid, .int .i64 frole, .int .i64 fw, .bool false, .bool fq, .int .i64 ft, .int .i64 fl] 30))
          have HN2 := Lib.hid (show ¬ Own b m w2.heap.size from fun hh => by have h1 := (HT.out.below hb).lt_b; have h2 := (HT.out.below hb).lt_m; rcases hh with hh | hh <;> omega)
          clear hb HT K1
          go_wp2_with fail
          refine (K2.out _ HT2.out).mono ?_
          rintro e w3 ⟨rfl, t3, h3⟩
          have HT3 := Lib.hid t3
          have HC3 := Lib.hid (HC2.out.trans h3)
          have HF3 := Lib.hid (h3.blk HF2.out HN2.out)
          clear h3 t3 HT2 HC2 HF2 K2
          generalize w2.heap.size = g0 at *
          go_wp2_with fail
          refine (K3.out _ HT3.out).mono ?_
          rintro e w4 ⟨rfl, h4⟩
          have HT4 := Lib.hid ((HT3.out.below h4).alloc (.cells #[.int .i64 fid, .int .i64 frole, .int .i64 fw, .bool false, .bool fq, .int .i64 ft, .int .i64 fl] 30))
          have HC4 := Lib.hid ((HC3.out.trans (Chg.of_below h4 (Own b m))).alloc (.cells #[.int .i64 fid, .int .i64 frole, .int .i64 fw, .bool false, .bool fq, .int .i64 ft, .int .i64 fl] 30))
          have HF4 := Lib.hid (blk_alloc (o' := .cells #[.int .i64 fid, .int .i64 frole, .int .i64 fw, .bool false, .bool fq, .int .i64 ft, .int .i64 fl] 30) ((Chg.of_below h4 No).blk HF3.out (fun h => h)))
          have HG4 := Lib.hid (blk_new w4 (.cells #[.int .i64 fid, .int .i64 frole, .int .i64 fw, .bool false, .bool fq, .int .i64 ft, .int .i64 fl] 30))
          have HN4 := Lib.hid (show ¬ Own b m w4.heap.size from fun hh => by have h1 := (HT3.out.below h4).lt_b; have h2 := (HT3.out.below h4).lt_m; rcases hh with hh | hh <;> omega)
          clear h4 HT3 HC3 HF3 K3
          obtain ⟨c0, c1, c2, c3, c4, c5, c6⟩ := cellF ⟨fid, frole, fw, false, fq, ft, fl⟩ HF4.out
          obtain ⟨d0, d1, d2, d3, d4, d5, d6⟩ := cellF ⟨fid, frole, fw, false, fq, ft, fl⟩ HG4.out
          go_wp2_with fail
          refine (K4.out _ HT4.out HL1.out).mono ?_
          rintro e w5 ⟨rfl, t5, h5⟩
          have HT5 := Lib.hid t5
          have HC5 := Lib.hid (HC4.out.trans h5)
          have HF5 := Lib.hid (h5.blk HF4.out HN2.out)
          have HG5 := Lib.hid (h5.blk HG4.out HN4.out)
          clear h5 t5 HT4 HC4 HF4 HG4 K4 c0 c1 c2 c3 c4 c5 c6 d0 d1 d2 d3 d4 d5 d6 hwt
          go_wp2_with fail
          refine (K5.out _ HT5.out).mono ?_
          rintro e w6 ⟨rfl, h6⟩
          have HC6 := Lib.hid ((HC5.out.trans (Chg.of_below h6 (Own b m))).alloc (.cells #[.int .i64 fid, .int .i64 frole, .int .i64 fw, .bool false, .bool fq, .int .i64 ft, .int .i64 fl] 30))
          have HF6 := Lib.hid (blk_alloc (o' := .cells #[.int .i64 fid, .int .i64 frole, .int .i64 fw, .bool false, .bool fq, .int .i64 ft, .int .i64 fl] 30) ((Chg.of_below h6 No).blk HF5.out (fun h => h)))
          have HG6 := Lib.hid (blk_alloc (o' := .cells #[.int .i64 fid, .int .i64 frole, .int .i64 fw, .bool false, .bool fq, .int .i64 ft, .int .i64 fl] 30) ((Chg.of_below h6 No).blk HG5.out (fun h => h)))
          have HH6 := Lib.hid (blk_new w6 (.cells #[.int .i64 fid, .int .i64 frole, .int .i64 fw, .bool false, .bool fq, .int .i64 ft, .int .i64 fl] 30))
          clear h6 HC5 HF5 HG5 K5
          obtain ⟨c0, c1, c2, c3, c4, c5, c6⟩ := cellF ⟨fid, frole, fw, false, fq, ft, fl⟩ HF6.out
          obtain ⟨d0, d1, d2, d3, d4, d5, d6⟩ := cellF ⟨fid, frole, fw, false, fq, ft, fl⟩ HG6.out
          obtain ⟨e0, e1, e2, e3, e4, e5, e6⟩ := cellF ⟨fid, frole, fw, false, fq, ft, fl⟩ HH6.out
          clear HF6 HG6 HH6
          have hq : frEq ⟨fid, frole, fw, false, fq, ft, fl⟩ ⟨fid, frole, fw, false, fq, ft, fl⟩ = true := frEq_self _
          have rq : (role == frole) = false := (by rw [beq_eq_false_iff_ne]; exact r1.out)
          have sq : (s == 0) = false := (by rw [beq_eq_false_iff_ne]; exact r2.out)
          have sp : ¬ s = 0 := r2.out
          go_wp2_with fail
          refine (works_calls _).mono ?_
          rintro e w7 ⟨rfl, h7⟩
          have HC7 := Lib.hid (HC6.out.trans (Chg.of_below h7 _))
          clear h7
          go_wp2
          go_ret
          refine ⟨by show Ending.returned (.bool (s != 0)) = _; rw [show (s != 0) = true from by simpa using r2.out], ?_⟩
          rw [HM0.out]
          exact HB.out.trans (HC7.out.below HO.out (by have := HB.out.size; have := HM0.out; omega))
        · clear HD3 HS3
          have r1 := Lib.hid r1'
          clear r1'
          go_wp2_with fail
          refine K1.out.mono ?_
          rintro e w2 ⟨rfl, hb⟩
          have HT2 := Lib.hid ((HT.out.below hb).alloc (.cells #[.int .i64 fid, .int .i64 frole, .int .i64 fw, .bool false, .bool fq, .int .i64 ft, .int .i64 fl] 30))
          have HC2 := Lib.hid ((Chg.of_below hb (Own b m)).alloc (.cells #[.int .i64 fid, .int .i64 frole, .int .i64 fw, .bool false, .bool fq, .int .i64 ft, .int .i64 fl] 30))
          have HF2 := Lib.hid (blk_new w2 (.cells #[.int .i64 fid, .int .i64 frole, .int .i64 fw, .bool false, .bool fq, .int .i64 ft, .int .i64 fl] 30))
          have HN2 := Lib.hid (show ¬ Own b m w2.heap.size from fun hh => by have h1 := (HT.out.below hb).lt_b; have h2 := (HT.out.below hb).lt_m; rcases hh with hh | hh <;> omega)
          clear hb HT K1
          go_wp2_with fail
          refine (K2.out _ HT2.out).mono ?_
          rintro e w3 ⟨rfl, t3, h3⟩
          have HT3 := Lib.hid t3
          have HC3 := Lib.hid (HC2.out.trans h3)
          have HF3 := Lib.hid (h3.blk HF2.out HN2.out)
          clear h3 t3 HT2 HC2 HF2 K2
          generalize w2.heap.size = g0 at *
          go_wp2_with fail
          refine (K3.out _ HT3.out).mono ?_
          rintro e w4 ⟨rfl, h4⟩
          have HT4 := Lib.hid ((HT3.out.below h4).alloc (.cells #[.int .i64 fid, .int .i64 frole, .int .i64 fw, .bool false, .bool fq, .int .i64 ft, .int .i64 fl] 30))
          have HC4 := Lib.hid ((HC3.out.trans (Chg.of_below h4 (Own b m))).alloc (.cells #[.int .i64 fid, .int .i64 frole, .int .i64 fw, .bool false, .bool fq, .int .i64 ft, .int .i64 fl] 30))
          have HF4 := Lib.hid (blk_alloc (o' := .cells #[.int .i64 fid, .int .i64 frole, .int .i64 fw, .bool false, .bool fq, .int .i64 ft, .int .i64 fl] 30) ((Chg.of_below h4 No).blk HF3.out (fun h => h)))
          have HG4 := Lib.hid (blk_new w4 (.cells #[.int .i64 fid, .int .i64 frole, .int .i64 fw, .bool false, .bool fq, .int .i64 ft, .int .i64 fl] 30))
          have HN4 := Lib.hid (show ¬ Own b m w4.heap.size from fun hh => by have h1 := (HT3.out.below h4).lt_b; have h2 := (HT3.out.below h4).lt_m; rcases hh with hh | hh <;> omega)
          clear h4 HT3 HC3 HF3 K3
          obtain ⟨c0, c1, c2, c3, c4, c5, c6⟩ := cellF ⟨fid, frole, fw, false, fq, ft, fl⟩ HF4.out
          obtain ⟨d0, d1, d2, d3, d4, d5, d6⟩ := cellF ⟨fid, frole, fw, false, fq, ft, fl⟩ HG4.out
          go_wp2_with fail
          refine (K4.out _ HT4.out HL1.out).mono ?_
          rintro e w5 ⟨rfl, t5, h5⟩
          have HT5 := Lib.hid t5
          have HC5 := Lib.hid (HC4.out.trans h5)
          have HF5 := Lib.hid (h5.blk HF4.out HN2.out)
          have HG5 := Lib.hid (h5.blk HG4.out HN4.out)
          clear h5 t5 HT4 HC4 HF4 HG4 K4 c0 c1 c2 c3 c4 c5 c6 d0 d1 d2 d3 d4 d5 d6 hwt
          go_wp2_with fail
          refine (K5.out _ HT5.out).mono ?_
          rintro e w6 ⟨rfl, h6⟩
          have HC6 := Lib.hid ((HC5.out.trans (Chg.of_below h6 (Own b m))).alloc (.cells #[.int .i64 id, .int .i64 role, .int .i64 fw, .bool true, .bool fq, .int .i64 3, .int .i64 0] 30))
          have HF6 := Lib.hid (blk_alloc (o' := .cells #[.int .i64 id, .int .i64 role, .int .i64 fw, .bool true, .bool fq, .int .i64 3, .int .i64 0] 30) ((Chg.of_below h6 No).blk HF5.out (fun h => h)))
          have HG6 := Lib.hid (blk_alloc (o' := .cells #[.int .i64 id, .int .i64 role, .int .i64 fw, .bool true, .bool fq, .int .i64 3, .int .i64 0] 30) ((Chg.of_below h6 No).blk HG5.out (fun h => h)))
          have HH6 := Lib.hid (blk_new w6 (.cells #[.int .i64 id, .int .i64 role, .int .i64 fw, .bool true, .bool fq, .int .i64 3, .int .i64 0] 30))
          clear h6 HC5 HF5 HG5 K5
          obtain ⟨c0, c1, c2, c3, c4, c5, c6⟩ := cellF ⟨fid, frole, fw, false, fq, ft, fl⟩ HF6.out
          obtain ⟨d0, d1, d2, d3, d4, d5, d6⟩ := cellF ⟨fid, frole, fw, false, fq, ft, fl⟩ HG6.out
          obtain ⟨e0, e1, e2, e3, e4, e5, e6⟩ := cellF ⟨id, role, fw, true, fq, 3, 0⟩ HH6.out
          clear HF6 HG6 HH6
          have hq : frEq ⟨id, role, fw, true, fq, 3, 0⟩ ⟨id, role, fw, true, fq, 3, 0⟩ = true := frEq_self _
          have rq : (role == frole) = true := (by rw [r1.out]; exact beq_self_eq_true _)
          clear r1
          go_wp2_with fail
          refine (works_calls _).mono ?_
          rintro e w7 ⟨rfl, h7⟩
          have HC7 := Lib.hid (HC6.out.trans (Chg.of_below h7 _))
          clear h7
          go_wp2
          go_ret
          refine ⟨rfl, ?_⟩
          rw [HM0.out]
          exact HB.out.trans (HC7.out.below HO.out (by have := HB.out.size; have := HM0.out; omega))
end Go.Proofs.Ytdckcbahfdcafaa.F
