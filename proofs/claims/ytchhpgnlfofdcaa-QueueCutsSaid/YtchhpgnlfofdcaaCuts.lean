/- QueueCuts, walked. -/
import Derived.Test.YtchhpgnlfofdcaaCuts0
import Derived.Outline
set_option linter.unusedVariables false
set_option linter.unusedSimpArgs false
namespace Go.Proofs.Ytchhpgnlfofdcaa.Q
open Go.RowKit Go.Sort Go.Proofs.Ytchhpgnlfofdcaa.Hp Go.Proofs.Ytchhpgnlfofdcaa.Mp
set_option maxRecDepth 100000

/-- Numbers at a slice's place. -/
structure IAt (T : Nat → Prop) (w : World) (pa : Option Addr) (g o : Nat) (ps : List Int) : Prop where
  lt : 0 < ps.length → pa = some ⟨g, o, none⟩ ∧ T g
  at' : ∀ j (hj : j < ps.length), w.cell? ⟨g, o + j, none⟩ = some (.int .i64 ps[j])
theorem IAt.keep {T T' : Nat → Prop} {w w' : World} {pa : Option Addr} {g o : Nat} {ps : List Int} (h : IAt T w pa g o ps) (hk : ∀ i, T i → w'.heap[i]? = w.heap[i]?) (hT : ∀ i, T i → T' i) : IAt T' w' pa g o ps :=
  ⟨fun hl => ⟨(h.lt hl).1, hT _ (h.lt hl).2⟩, fun j hj => by rw [cell_same (hk g (h.lt (by omega)).2)]; exact h.at' j hj⟩

/-- What a piece takes. -/
theorem take_more {α : Type} (F : List α) (j t : Nat) : F.take j ++ (F.drop j).take t = F.take (j + t) := by
  rw [List.take_add]
theorem drop_more {α : Type} (F : List α) (j t : Nat) : (F.drop j).drop t = F.drop (j + t) := by
  rw [List.drop_drop]

theorem bd_fresh (k : Int) (n : Nat) : Bd 0 [(k, freshQ n)] := fun k2 q hk => by
  simp only [mget] at hk
  split at hk
  · injection hk with hk; rw [← hk]; simp [freshQ]
  · simp at hk
theorem about_le (frame : Int) (es : List Ev) : (about frame es).length ≤ es.length := List.length_filter_le _ _
theorem Rw.base {w : World} {B B' : Nat} {v : Value} {xs : List Ex} (h : Rw w B v xs) (hb : B' ≤ B) : Rw w B' v xs := ⟨row_base h.own hb, h.vec⟩
/-- The second table with so many taken. -/
def lbj (frame : Int) (qb : Qr) (F : List Ev) (j : Nat) : List (Int × Qr) := [(frame, { qb with evs := F.drop j })]
theorem lbj_start {frame : Int} {qb : Qr} {F : List Ev} (h : qb.evs = F) : [(frame, qb)] = lbj frame qb F 0 := by
  cases qb; simp only at h; subst h; rfl
theorem lbj_get {frame : Int} {qb : Qr} {F : List Ev} {j : Nat} : mget (lbj frame qb F j) frame = some { qb with evs := F.drop j } := by simp [lbj, mget]
theorem long_lbj {frame : Int} {qb : Qr} {F : List Ev} {j : Nat} : longF (lbj frame qb F j) frame = ((F.length - j : Nat) : Int) := by
  simp [longF, lbj, mget]
theorem long_one {frame : Int} {q : Qr} : longF [(frame, q)] frame = (q.evs.length : Int) := by simp [longF, mget]
theorem takeB_calls (b m : Nat) (frame : Int) (qb : Qr) (F : List Ev) (j : Nat) (p : Int) (W : World) (h : Tq W b m 1000 (lbj frame qb F j)) (hF : F.length ≤ 200) :
    Calls Try.prog 12 #[.pointer (some ⟨b, 0, none⟩), .int .i64 frame, .int .i64 p] W fun e w' => ∃ (ys : List Ex) (fx : Option Addr) (cx : Nat) (t : Nat), e = .returned (.slice fx ys.length cx) ∧ t = min p.toNat (F.length - j) ∧ ys.length = t ∧ ys.map (·.1) = (F.drop j).take t ∧ Rw w' W.heap.size (.slice fx ys.length cx) ys ∧ (ys = [] → fx = none ∧ cx = 0) ∧ Qs W w' b m 1000 (lbj frame qb F j) (lbj frame qb F (j + t)) := by
  refine (takeOwn_calls b m 1000 _ frame p _ W h lbj_get (by simp only [List.length_drop]; omega)).mono fun e w' ⟨ys, fx, cx, e1, e2, e3, e4, e5⟩ => ?_
  simp only at e1 e2 e3 e4 e5
  have ht : takeN (F.drop j) p = min p.toNat (F.length - j) := by unfold takeN; rw [List.length_drop]
  rw [ht] at e1 e2 e3 e4 e5
  have hlen : ys.length = ((F.drop j).take (min p.toNat (F.length - j))).length := by rw [← e2, List.length_map]
  have hlen2 : ((F.drop j).take (min p.toNat (F.length - j))).length = min p.toNat (F.length - j) := by rw [List.length_take, List.length_drop]; omega
  refine ⟨ys, fx, cx, _, by rw [e1, hlen], rfl, by rw [hlen, hlen2], e2, by rw [hlen]; exact e3, fun h0 => e4 (by rw [← e2, h0]; rfl), ?_⟩
  have : mput (lbj frame qb F j) frame { rb := qb.rb, ab := qb.ab, evs := (F.drop j).drop (min p.toNat (F.length - j)), lost := qb.lost } = lbj frame qb F (j + min p.toNat (F.length - j)) := by
    simp [lbj, mput, List.drop_drop]
  rw [← this]
  exact e5
theorem puts_all (frame : Int) (es : List Ev) (h : es.length ≤ 200) : putsF 1000 [(frame, ([], 0))] es = [(frame, (about frame es, 0))] := by
  have h0 := putsF_one (most := 1000) (by omega) frame es []
  have hl : lostN 1000 (about frame es).length = 0 := by unfold lostN; have := about_le frame es; simp; omega
  rw [show lastN 1000 [] = [] from List.drop_nil, show lostN 1000 ([] : List Ev).length = 0 from Nat.zero_sub _, List.nil_append, hl] at h0
  unfold lastN at h0
  rw [hl] at h0
  exact h0

set_option maxHeartbeats 8000000 in
theorem cuts_walk (hS : SortC) (fa : Option Addr) (g o fc : Nat) (es : List Ev) (pa : Option Addr) (gp op pc : Nat) (ps : List Int) (frame : Int) (w : World) (hrow : EAt (Lt w.heap.size) w fa g o es) (hps : IAt (Lt w.heap.size) w pa gp op ps) :
    Calls Try.prog 4 #[.slice fa es.length fc, .slice pa ps.length pc, .int .i64 frame] w fun e w' => e = .returned (.bool true) ∧ Below w.heap.size w w' := by
  by_cases hbig : 200 < (es.length : Int)
  · clear hrow hS hps
    go_enter Try.func4, Try.ntmps4
    go_wp2
    go_ret
    exact ⟨rfl, Below.refl _ _⟩
  have p1 : decide (200 < (es.length : Int)) = false := decide_eq_false hbig
  by_cases hm : 60 < (ps.length : Int)
  · clear hrow hS hbig hps
    go_enter Try.func4, Try.ntmps4
    go_wp2
    go_ret
    exact ⟨rfl, Below.refl _ _⟩
  have p2 : decide (60 < (ps.length : Int)) = false := decide_eq_false hm
  have HROW := Lib.hid hrow
  have HPS := Lib.hid hps
  have HSO := Lib.hid hS
  have HL := Lib.hid (show es.length ≤ 200 by omega)
  have HM := Lib.hid (show ps.length ≤ 60 by omega)
  clear hbig hm hrow hS hps
  go_enter Try.func4, Try.ntmps4
  go_wp2_with fail
  refine (new_yes 1000 _ (by omega)).mono ?_
  rintro e w1 ⟨rfl, hT, hB⟩
  generalize hba : w.heap.size + 1 = ba at *
  generalize hma : w.heap.size = ma at *
  have HBM := Lib.hid (And.intro hba hma)
  have HT1 := Lib.hid hT
  have HB1 := Lib.hid hB
  clear hT hB hba hma
  go_wp2_with fail
  refine (new_yes 1000 _ (by omega)).mono ?_
  rintro e w2 ⟨rfl, hT, hB⟩
  have HSZ := Lib.hid HB1.out.size
  have HLT1 := Lib.hid (And.intro HT1.out.lt_b HT1.out.lt_m)
  have HT1' := Lib.hid (HT1.out.below hB)
  have HB2 := Lib.hid (HB1.out.trans (hB.mono (by have := HSZ.out; have := HBM.out; omega)))
  generalize hbb : w1.heap.size + 1 = bb at *
  generalize hmb : w1.heap.size = mb at *
  have HBMb := Lib.hid (And.intro hbb hmb)
  have H2 : Hid (Two ma w2 ba ma bb mb 1000 [] []) := Lib.hid ⟨HT1'.out, hT, fun i h1 h2 => by
    rw [Own.nil] at h1 h2
    have := HLT1.out.2; have := HBMb.out.2; omega, fun i hi => by rw [Own.nil] at hi; omega, fun i hi => by rw [Own.nil] at hi; have := HSZ.out; have := HBM.out; omega⟩
  clear hT hB HT1 HT1' HB1 hbb hmb
  go_wp2_with fail
  refine (open_yes frame _ H2.out.ta (by omega) rfl).mono ?_
  rintro e w3 ⟨rfl, hT3, hC3⟩
  have HQ3 := Lib.hid (Qs.open hT3 hC3)
  have H3 := Lib.hid (H2.out.stepA HQ3.out (by have := HB2.out.size; have := HBM.out; omega))
  have HB3 := Lib.hid (HB2.out.trans (HQ3.out.chg.below H2.out.oa (by have := HB2.out.size; have := HBM.out; omega)))
  have HQA : Hid (abs [(frame, freshQ w2.heap.size)] = [(frame, ([], 0))] ∧ Bd 0 [(frame, freshQ w2.heap.size)]) := Lib.hid ⟨rfl, bd_fresh _ _⟩
  generalize freshQ w2.heap.size = qa0 at *
  clear hT3 hC3 HQ3 H2 HB2
  go_wp2_with fail
  refine (open_yes frame _ H3.out.tb (by omega) rfl).mono ?_
  rintro e w4 ⟨rfl, hT4, hC4⟩
  have HQ4 := Lib.hid (Qs.open hT4 hC4)
  have H4 := Lib.hid (H3.out.stepB HQ4.out (by have := HB3.out.size; have := HBM.out; omega))
  have HB4 := Lib.hid (HB3.out.trans (HQ4.out.chg.below H3.out.ob (by have := HB3.out.size; have := HBM.out; omega)))
  have HQB : Hid (abs [(frame, freshQ w3.heap.size)] = [(frame, ([], 0))] ∧ Bd 0 [(frame, freshQ w3.heap.size)]) := Lib.hid ⟨rfl, bd_fresh _ _⟩
  generalize freshQ w3.heap.size = qb0 at *
  clear hT4 hC4 HQ4 H3 HB3
  go_wp2_with fail
  go_loopg [9] es.length (fun gg i wr => ∃ (k : Nat), k ≤ es.length ∧ gg = es.length - k ∧ i = .int .i64 k ∧ wr = w4 ∧ Hid (∀ e ∈ es.take k, e.vec.length ≤ 150))
  case atStart => exact ⟨0, by omega, rfl, rfl, rfl, Lib.hid (by simp)⟩
  case round =>
    obtain ⟨k, hk, rfl, rfl, rfl, HV⟩ := hrel
    by_cases hlt : k < es.length
    · obtain ⟨h1, h2⟩ := HROW.out.lt (by omega)
      subst h1
      obtain ⟨va, vc, hev⟩ := HROW.out.at' k hlt
      have hk1 : ∀ i, Lt ma i → wr.heap[i]? = w.heap[i]? := fun i hi => HB4.out.block i hi
      obtain ⟨y0, y1, y2, y3, y4, hvp⟩ := hev.keep (T' := Lt ma) (hk1 g h2) hk1 (fun i hi => hi)
      have hki : (k : Int) < (es.length : Int) := by omega
      have hk0 : (0 : Int) ≤ (k : Int) := by omega
      have hw : IntKind.i64.wrap ((k : Int) + 1) = (k : Int) + 1 := IntWalk.i64_in _ (by have := HL.out; omega)
      have HLT := Lib.hid hlt
      have HEV := Lib.hid (show es[k]? = some es[k] from List.getElem?_eq_getElem hlt)
      clear hvp hev h2 hk1
      generalize es[k] = ev at *
      by_cases hv : 150 < (ev.vec.length : Int)
      · go_wp2
        go_ret
        exact ⟨rfl, HBM.out.2 ▸ HB4.out⟩
      · have hv1 : decide (150 < (ev.vec.length : Int)) = false := decide_eq_false hv
        have HVL := Lib.hid (show ev.vec.length ≤ 150 by omega)
        clear hv
        have HV6 := Lib.hid (show ∀ e ∈ es.take (k + 1), e.vec.length ≤ 150 from fun e he => by
            rw [List.take_add_one, HEV.out, Option.toList_some] at he
            rcases List.mem_append.1 he with he | he
            · exact HV.out e he
            · have : e = ev := by simpa using he
              rw [this]; exact HVL.out)
        go_wp2
        go_roundg (es.length - (k + 1))
        case measure => have := HLT.out; omega
        case rel => exact ⟨k + 1, HLT.out, rfl, by go_num, rfl, HV6⟩
    · have hki : decide ((k : Int) < (es.length : Int)) = false := decide_eq_false (by omega)
      have htk : es.take k = es := List.take_of_length_le (by omega)
      have hvl := HV.out
      rw [htk] at hvl
      have HVL := Lib.hid hvl
      clear htk hvl HV
      go_wp2_with fail
      have HS4 := Lib.hid HB4.out.size
      refine (putAll_calls ba ma 1000 [(frame, qa0)] (Lt ma) fa g o fc 0 es _ H4.out.ta (by omega) HQA.out.2 (by have := HL.out; omega) (fun i hi => ⟨Nat.lt_of_lt_of_le hi (by have := HS4.out; have := HBM.out; omega), fun ho => by have := H4.out.oa i ho; have : i < ma := hi; omega⟩) (HROW.out.keep (fun i hi => HB4.out.block i hi) (fun i hi => hi)) (fun e he => by have := HVL.out e he; omega)).mono ?_
      rintro e w5 ⟨la5, rfl, hq5, ha5, hb5⟩
      rw [HQA.out.1] at ha5
      rw [HQA.out.1]
      rw [puts_all frame es HL.out] at ha5
      obtain ⟨qa, rfl, hqa1, hqa2⟩ := abs_one ha5
      have H5 := Lib.hid (H4.out.stepA hq5 (by have := HS4.out; have := HBM.out; omega))
      have HB5 := Lib.hid (HB4.out.trans (hq5.chg.below H4.out.oa (by have := HS4.out; have := HBM.out; omega)))
      have HA5 := Lib.hid hqa1
      clear hq5 ha5 hb5 hqa1 hqa2 H4 HB4 HS4 HQA
      go_wp2_with fail
      have HS5 := Lib.hid HB5.out.size
      refine (putAll_calls bb mb 1000 [(frame, qb0)] (Lt ma) fa g o fc 0 es _ H5.out.tb (by omega) HQB.out.2 (by have := HL.out; omega) (fun i hi => ⟨Nat.lt_of_lt_of_le hi (by have := HS5.out; have := HBM.out; omega), fun ho => by have := H5.out.ob i ho; have : i < ma := hi; omega⟩) (HROW.out.keep (fun i hi => HB5.out.block i hi) (fun i hi => hi)) (fun e he => by have := HVL.out e he; omega)).mono ?_
      rintro e w6 ⟨lb6, rfl, hq6, ha6, hb6⟩
      rw [HQB.out.1] at ha6
      rw [HQB.out.1]
      rw [puts_all frame es HL.out] at ha6
      obtain ⟨qb, rfl, hqb1, hqb2⟩ := abs_one ha6
      have H6 := Lib.hid (H5.out.stepB hq6 (by have := HS5.out; have := HBM.out; omega))
      have HB6 := Lib.hid (HB5.out.trans (hq6.chg.below H5.out.ob (by have := HS5.out; have := HBM.out; omega)))
      have HB6A := Lib.hid hqb1
      have HVF := Lib.hid (show ∀ e ∈ about frame es, e.vec.length ≤ 150 from fun e he => HVL.out e (List.mem_filter.1 he).1)
      have HLF := Lib.hid (show (about frame es).length ≤ 200 by have := about_le frame es; have := HL.out; omega)
      clear hq6 ha6 hb6 hqb1 hqb2 H5 HB5 HS5 HQB hki hlt hk
      go_wp2_with fail
      generalize hits [(frame, ([], 0))] es = nh at *
      generalize about frame es = F at *
      have K10 := long_calls frame _ H6.out.ta
      rw [long_one, HA5.out] at K10
      refine K10.mono ?_
      rintro e w' ⟨rfl, rfl⟩
      clear K10
      go_wp2_with fail
      refine (takeOwn_calls ba ma 1000 [(frame, qa)] frame (F.length : Int) qa _ H6.out.ta (by simp [mget]) (by rw [HA5.out]; have := HLF.out; omega)).mono ?_
      rintro e w7 ⟨xa, fa7, fc7, rfl, hxa, hrw7, _, hq7⟩
      have htn : takeN qa.evs (F.length : Int) = qa.evs.length := by unfold takeN; rw [HA5.out]; omega
      rw [htn, List.take_length] at hxa hrw7 ⊢
      rw [htn, List.drop_length] at hq7
      rw [HA5.out] at hxa hrw7 ⊢
      have hq7' : Qs w6 w7 ba ma 1000 [(frame, qa)] [(frame, { qa with evs := [] })] := by simpa [mput] using hq7
      have HS6 := Lib.hid (show ma ≤ w6.heap.size by have := HB6.out.size; have := HBM.out; omega)
      have H6' : Two ma w6 ba ma bb mb 1000 [(frame, qa)] (lbj frame qb F 0) := by rw [← lbj_start HB6A.out]; exact H6.out
      have HC7 : Hid (Cs ma w w7 ba ma bb mb [(frame, { qa with evs := [] })] (lbj frame qb F 0) (.slice fa7 F.length fc7) (.slice none 0 0) xa []) := Lib.hid ⟨H6'.stepA hq7' HS6.out, hrw7.base HS6.out, ⟨⟨rfl, .inl ⟨rfl, rfl⟩⟩, by simp⟩, fun g hg ho => by have := hrw7.ge hg; have := H6'.tb.own_lt _ ho; omega, fun g hg => by simp [Value.ownBlock] at hg, fun g hg => by simp [Value.ownBlock], Nat.le_trans HS6.out hq7'.chg.size, HB6.out.trans (hq7'.chg.below H6'.oa HS6.out)⟩
      have HXA := Lib.hid hxa
      clear hq7 hq7' hrw7 htn hxa H6 H6' HB6 HS6
      go_wp2_with fail
      go_loopg [12, 13] ps.length (fun gg u i wr => ∃ (k j : Nat) (xs : List Ex) (fs : Option Addr) (fcs : Nat), k ≤ ps.length ∧ gg = ps.length - k ∧ u = .slice fs xs.length fcs ∧ i = .int .i64 k ∧ j ≤ F.length ∧ Hid (Cs ma w wr ba ma bb mb [(frame, { qa with evs := [] })] (lbj frame qb F j) (.slice fa7 F.length fc7) (.slice fs xs.length fcs) xa xs) ∧ Hid (xs.map (·.1) = F.take j))
      case atStart => exact ⟨0, 0, [], none, 0, by omega, rfl, rfl, rfl, by omega, HC7, Lib.hid rfl⟩
      case round =>
        obtain ⟨k, j, xs, fs, fcs, hk, rfl, rfl, rfl, hj, H, HX⟩ := hrel
        clear HC7
        by_cases hlt : k < ps.length
        · obtain ⟨h1, h2⟩ := HPS.out.lt (by omega)
          subst h1
          have y0 := (HPS.out.keep (T' := Lt ma) (fun i hi => H.out.chg.block i hi) (fun i hi => hi)).at' k hlt
          have hki : (k : Int) < (ps.length : Int) := by omega
          have hk0 : (0 : Int) ≤ (k : Int) := by omega
          have hw : IntKind.i64.wrap ((k : Int) + 1) = (k : Int) + 1 := IntWalk.i64_in _ (by have := HM.out; omega)
          have HLT := Lib.hid hlt
          have HJ := Lib.hid hj
          have HG2 := Lib.hid h2
          clear h2
          generalize ps[k] = p at *
          have K10 := long_calls frame _ H.out.two.tb
          rw [long_lbj] at K10
          have KL := Lib.hid K10
          clear K10 hj hk
          go_wp2_with fail
          refine KL.out.mono ?_
          rintro e w' ⟨rfl, rfl⟩
          go_wp2_with fail
          refine (takeB_calls bb mb frame qb F j p _ H.out.two.tb HLF.out).mono ?_
          rintro e w8 ⟨ys, fx, cx, t, rfl, ht, hyl, hym, hyr, hy0, hq8⟩
          have H8 := Lib.hid (H.out.stepB hq8)
          have K10 := long_calls frame _ H8.out.two.tb
          rw [long_lbj] at K10
          have KL8 := Lib.hid K10
          have HT := Lib.hid ht
          have HYL := Lib.hid hyl
          have HYM := Lib.hid hym
          have HYR := Lib.hid hyr
          have HY0 := Lib.hid hy0
          have y8 := (show w8.cell? ⟨gp, op + k, none⟩ = some (.int .i64 p) from by
            rw [← y0]; exact cell_same ((H8.out.chg.block gp HG2.out).trans (H.out.chg.block gp HG2.out).symm) _)
          clear K10 ht hyl hym hyr hy0 hq8 H KL y0
          rw [HYL.out]
          have e2 : IntKind.i64.wrap (((F.length - j : Nat) : Int) - (t : Int)) = ((F.length - (j + t) : Nat) : Int) := by
            rw [IntWalk.i64_in _ (by have := HT.out; have := HLF.out; omega)]
            have := HT.out; have := HJ.out
            omega
          have hcase : (p < ((F.length - j : Nat) : Int) ∧ 0 < p ∧ ((t : Int) != p) = false) ∨ (p < ((F.length - j : Nat) : Int) ∧ ¬ 0 < p ∧ ((t : Int) != 0) = false) ∨ (¬ p < ((F.length - j : Nat) : Int) ∧ 0 < ((F.length - j : Nat) : Int) ∧ ((t : Int) != ((F.length - j : Nat) : Int)) = false) ∨ (¬ p < ((F.length - j : Nat) : Int) ∧ ¬ 0 < ((F.length - j : Nat) : Int) ∧ ((t : Int) != 0) = false) := by
            have := HT.out
            simp only [bne_eq_false_iff_eq]
            omega
          have HWF := Lib.hid (show ∃ fs' fc', (Value.slice fs xs.length fcs) = .slice fs' xs.length fc' from ⟨_, _, rfl⟩)
          have HLX := Lib.hid (show xs.length ≤ 200 by have h1 := congrArg List.length HX.out; rw [List.length_map, List.length_take] at h1; have := HLF.out; omega)
          have HLY := Lib.hid (show ys.length ≤ 200 by rw [HYL.out, HT.out]; have := HLF.out; omega)
          rcases hcase with ⟨c1, c2, c3⟩ | ⟨c1, c2, c3⟩ | ⟨c1, c2, c3⟩ | ⟨c1, c2, c3⟩ <;>
          · go_wp2_with (first | (go_at_call 10; refine KL8.out.mono ?_; rintro e w' ⟨rfl, rfl⟩) | (at_builtin; refine wpList_append_ev rfl _ _ rfl ma (.slice fs xs.length fcs) xs ys _ fx cx rfl (by rw [HYL.out]; rfl) H8.out.rs.own HWF.out HYR.out HY0.out (by have := HLX.out; have := HLY.out; omega) H8.out.le ?_; intro fs4 fc4 w9 hown4 hg4 hat4; have H9 := Lib.hid (H8.out.app HYR.out hg4 hown4 hat4); clear hown4 hg4 hat4))
            go_roundg (ps.length - (k + 1))
            case measure => have := HLT.out; omega
            case rel => exact ⟨k + 1, j + t, xs ++ ys, _, _, HLT.out, rfl, by rw [List.length_append], by go_num, by have := HT.out; have := HJ.out; omega, H9, Lib.hid (by rw [List.map_append, HX.out, HYM.out, take_more])⟩
        · have hki : decide ((k : Int) < (ps.length : Int)) = false := decide_eq_false (by omega)
          have HJ := Lib.hid hj
          clear hk hj
          go_wp2_with fail
          refine (takeB_calls bb mb frame qb F j (F.length : Int) _ H.out.two.tb HLF.out).mono ?_
          rintro e w8 ⟨ys, fx, cx, t, rfl, ht, hyl, hym, hyr, hy0, hq8⟩
          have H8 := Lib.hid (H.out.stepB hq8)
          have HT := Lib.hid ht
          have HYL := Lib.hid hyl
          have HYM := Lib.hid hym
          have HYR := Lib.hid hyr
          have HY0 := Lib.hid hy0
          clear ht hyl hym hyr hy0 hq8 H
          rw [HYL.out]
          have HWF := Lib.hid (show ∃ fs' fc', (Value.slice fs xs.length fcs) = .slice fs' xs.length fc' from ⟨_, _, rfl⟩)
          have HLX := Lib.hid (show xs.length ≤ 200 by have h1 := congrArg List.length HX.out; rw [List.length_map, List.length_take] at h1; have := HLF.out; omega)
          have HLY := Lib.hid (show ys.length ≤ 200 by rw [HYL.out, HT.out]; have := HLF.out; omega)
          go_wp2_with (first | (at_builtin; refine wpList_append_ev rfl _ _ rfl ma (.slice fs xs.length fcs) xs ys _ fx cx rfl (by rw [HYL.out]; rfl) H8.out.rs.own HWF.out HYR.out HY0.out (by have := HLX.out; have := HLY.out; omega) H8.out.le ?_; intro fs4 fc4 w9 hown4 hg4 hat4; have H9 := Lib.hid (H8.out.app HYR.out hg4 hown4 hat4); clear hown4 hg4 hat4) | fail)
          have hjt : j + t = F.length := by have := HT.out; have := HJ.out; omega
          have hall : (xs ++ ys).map (·.1) = F := by rw [List.map_append, HX.out, HYM.out, take_more, hjt, List.take_length]
          have hxl : xs.length + ys.length = F.length := by rw [← List.length_append, ← hall, List.length_map]
          obtain ⟨fa', fc', e1, r1⟩ := H9.out.ra.events
          obtain ⟨fb', fd', e2, r2⟩ := H9.out.rs.events
          injection e1 with e1 e1' e1''
          injection e2 with e2 e2' e2''
          subst e1 e1'' e2 e2''
          rw [HXA.out] at r1
          rw [hall] at r2
          have K11 := sameEvents_calls _ _ _ fc7 fc4 F _ (by have := HLF.out; omega) (fun e he => by have := HVF.out e he; omega) r1 r2
          rw [hxl]
          have HJT := Lib.hid hjt
          clear hall hxl e1' e2' r1 r2 hjt
          refine K11.mono ?_
          rintro e w' ⟨rfl, n9, rfl⟩
          clear K11
          have H10 := Lib.hid (H9.out.two.below (below_drewN (Below.refl _ _) n9))
          have HB10 := Lib.hid (below_drewN H9.out.chg n9)
          have HS10 := Lib.hid (show ma ≤ (w9.drewN n9).heap.size from H9.out.le)
          clear H9
          generalize w9.drewN n9 = w10 at *
          have K10a := long_calls frame _ H10.out.ta
          have K10b := long_calls frame _ H10.out.tb
          rw [long_one] at K10a
          rw [long_lbj, HJT.out, Nat.sub_self] at K10b
          have KA := Lib.hid K10a
          have KB := Lib.hid K10b
          clear K10a K10b
          go_wp2_with fail
          refine KA.out.mono ?_
          rintro e w' ⟨rfl, rfl⟩
          go_wp2_with fail
          refine KB.out.mono ?_
          rintro e w' ⟨rfl, rfl⟩
          go_wp2_with fail
          refine (works_calls HSO.out _).mono ?_
          rintro e w11 ⟨rfl, hb11⟩
          have HB11 := Lib.hid (hb11.mono HS10.out)
          clear hb11
          go_wp2
          go_ret
          exact ⟨rfl, HBM.out.2 ▸ (HB10.out.trans HB11.out)⟩
end Go.Proofs.Ytchhpgnlfofdcaa.Q
