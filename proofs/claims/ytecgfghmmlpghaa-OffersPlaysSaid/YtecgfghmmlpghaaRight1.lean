/- Walks: vec.Right. -/
import Derived.Test.YtecgfghmmlpghaaRight0
import Derived.Deep.LoopGhost
import Derived.Test.YtecgfghmmlpghaaQc
set_option linter.unusedVariables false
set_option linter.unusedSimpArgs false
namespace Go.Proofs.Ytecgfghmmlpghaa.O
open Go.RowKit Go.Proofs.Ytecgfghmmlpghaa.Hp Go.Proofs.Ytecgfghmmlpghaa.Mp
set_option maxRecDepth 100000
attribute [local irreducible] Go.wpQuiet

def Pt.zero : Pt := ⟨0, 0, 0⟩
def okPt (p : Pt) : Bool := slotB p.kind p.role && decide (1 ≤ p.amount) && quantB p.amount
def okTwo (q p : Pt) : Bool := decide (cmpS (q.kind, q.role) (p.kind, p.role) < 0)
def okAt (vec : List Pt) (i : Nat) : Bool := okPt (vec.getD i Pt.zero) && (decide (i = 0) || okTwo (vec.getD (i - 1) Pt.zero) (vec.getD i Pt.zero))
/-- May a vector be? -/
def rightV (vec : List Pt) : Bool := (List.range vec.length).all (okAt vec)
theorem right_no {vec : List Pt} {k : Nat} (h : k < vec.length) (hk : okAt vec k = false) : rightV vec = false := by
  unfold rightV
  rw [List.all_eq_false]
  exact ⟨k, List.mem_range.2 h, by rw [hk]; simp⟩
theorem right_yes {vec : List Pt} (h : ∀ j, j < vec.length → okAt vec j = true) : rightV vec = true := by
  unfold rightV
  rw [List.all_eq_true]
  exact fun j hj => h j (List.mem_range.1 hj)
/-- The contracts, at any world behind a given one, with the cells that are looked at. -/
structure Kc (w0 : World) (R g : Nat) (o1 : Nat) (p q : Pt) (w : World) : Prop where
  b : Below w0.heap.size w0 w
  p0 : w.cell? ⟨R, 0, none⟩ = some (.int .i64 p.kind)
  p1 : w.cell? ⟨R, 1, none⟩ = some (.int .i64 p.role)
  p2 : w.cell? ⟨R, 2, none⟩ = some (.int .i64 p.amount)
  q0 : w.cell? ⟨g, o1, none⟩ = some (.int .i64 q.kind)
  q1 : w.cell? ⟨g, o1 + 1, none⟩ = some (.int .i64 q.role)
  q2 : w.cell? ⟨g, o1 + 2, none⟩ = some (.int .i64 q.amount)
theorem Kc.below {w0 w w' : World} {R g o1 : Nat} {p q : Pt} (h : Kc w0 R g o1 p q w) (hR : R < w0.heap.size) (hg : g < w0.heap.size) (hb : Below w.heap.size w w') : Kc w0 R g o1 p q w' := by
  have hs := h.b.size
  exact ⟨h.b.trans (hb.mono hs), below_cell hb (show R < _ by omega) h.p0, below_cell hb (show R < _ by omega) h.p1, below_cell hb (show R < _ by omega) h.p2, below_cell hb (show g < _ by omega) h.q0, below_cell hb (show g < _ by omega) h.q1, below_cell hb (show g < _ by omega) h.q2⟩
set_option maxHeartbeats 1000000 in
theorem right_calls (T : Nat → Prop) (va : Option Addr) (vc : Nat) (vec : List Pt) (w : World) (hT : ∀ i, T i → i < w.heap.size) (hlen : vec.length ≤ 100000) (h : PAt T w va vec) :
    Calls Try.prog 26 #[.slice va vec.length vc] w fun e w' => e = .returned (.bool (rightV vec)) ∧ Below w.heap.size w w' := by
  obtain ⟨g, o, h1, h2⟩ := h.part
  have H1 := Lib.hid (fun h0 => (h1 h0).1)
  have HG := Lib.hid (fun h0 => hT g (h1 h0).2)
  have HC := Lib.hid h2
  have HL := Lib.hid hlen
  clear h1 h2 h hT hlen
  go_enter Try.func26, Try.ntmps26
  go_wp2_with fail
  go_loopg [7] vec.length (fun n i wr => ∃ (k : Nat), k ≤ vec.length ∧ n = vec.length - k ∧ i = .int .i64 k ∧ Hid (Below w.heap.size w wr) ∧ Hid (∀ j, j < k → okAt vec j = true))
  case atStart => exact ⟨0, by omega, rfl, rfl, Lib.hid (Below.refl _ _), Lib.hid (fun j hj => by omega)⟩
  case round =>
    obtain ⟨k, hk, rfl, rfl, HB, HK⟩ := hrel
    by_cases hlt : k < vec.length
    · have ha := H1.out (by omega)
      subst ha
      have hgl := HG.out (by omega)
      have hc := fun j hj => HC.out j hj
      have cell : ∀ j (hj : j < vec.length), wr.cell? ⟨g, o + j * 3, none⟩ = some (.int .i64 vec[j].kind) ∧ wr.cell? ⟨g, o + j * 3 + 1, none⟩ = some (.int .i64 vec[j].role) ∧ wr.cell? ⟨g, o + j * 3 + 2, none⟩ = some (.int .i64 vec[j].amount) := fun j hj => ⟨below_cell HB.out hgl (hc j hj).1, below_cell HB.out hgl (hc j hj).2.1, below_cell HB.out hgl (hc j hj).2.2⟩
      obtain ⟨x0, x1, x2⟩ := cell k hlt
      obtain ⟨z0, z1, z2⟩ := cell (k - 1) (by omega)
      have hki : (k : Int) < (vec.length : Int) := by omega
      have hk0 : (0 : Int) ≤ (k : Int) := by omega
      have hw : IntKind.i64.wrap ((k : Int) + 1) = (k : Int) + 1 := IntWalk.i64_in _ (by have := HL.out; omega)
      have HLT := Lib.hid hlt
      have HNO := Lib.hid (fun (hh : okAt vec k = false) => right_no hlt hh)
      have HOK : Hid (okAt vec k = (okPt vec[k] && (decide (k = 0) || okTwo vec[k - 1] vec[k]))) := Lib.hid (by
        unfold okAt
        rw [List.getD_eq_getElem?_getD, List.getElem?_eq_getElem hlt, List.getD_eq_getElem?_getD, List.getElem?_eq_getElem (show k - 1 < vec.length by omega)]
        rfl)
      have hk1 : 0 < k → (0 : Int) ≤ ((k - 1 : Nat) : Int) ∧ ((k - 1 : Nat) : Int) < (vec.length : Int) ∧ IntKind.i64.wrap ((k : Int) - 1) = ((k - 1 : Nat) : Int) := fun h0 => ⟨by omega, by omega, by rw [IntWalk.i64_in _ (by have := HL.out; omega)]; omega⟩
      have HK1 := Lib.hid hk1
      generalize vec[k] = p at *
      generalize vec[k - 1] = q at *
      have hba := (Below.refl _ wr).alloc (Nat.le_refl _) (.cells #[.int .i64 p.kind, .int .i64 p.role, .int .i64 p.amount] 48)
      have hgw : g < wr.heap.size := by have := HB.out.size; omega
      have hbn := blk_new wr (.cells #[.int .i64 p.kind, .int .i64 p.role, .int .i64 p.amount] 48)
      have HKC : Hid (Kc (wr.alloc (.cells #[.int .i64 p.kind, .int .i64 p.role, .int .i64 p.amount] 48)) wr.heap.size g (o + (k - 1) * 3) p q (wr.alloc (.cells #[.int .i64 p.kind, .int .i64 p.role, .int .i64 p.amount] 48)).drew) := Lib.hid ⟨below_drew (Below.refl _ _), blk_cell hbn 0, blk_cell hbn 1, blk_cell hbn 2, below_cell hba hgw z0, below_cell hba hgw z1, below_cell hba hgw z2⟩
      have HR0 := Lib.hid (show wr.heap.size < (wr.alloc (.cells #[.int .i64 p.kind, .int .i64 p.role, .int .i64 p.amount] 48)).heap.size by simp)
      have HG0 := Lib.hid (show g < (wr.alloc (.cells #[.int .i64 p.kind, .int .i64 p.role, .int .i64 p.amount] 48)).heap.size by simp; omega)
      have HB0 := Lib.hid (HB.out.alloc HB.out.size (.cells #[.int .i64 p.kind, .int .i64 p.role, .int .i64 p.amount] 48))
      obtain ⟨_, y0, y1, y2, v0, v1, v2⟩ := HKC.out
      clear cell hc hk1 hba hbn hgw hgl z0 z1 z2
      generalize k - 1 = jj at *
      have HE : Hid (okTwo q p = decide (cmpS (q.kind, q.role) (p.kind, p.role) < 0)) := Lib.hid rfl
      have HF : Hid (okPt p = (slotB p.kind p.role && decide (1 ≤ p.amount) && quantB p.amount)) := Lib.hid rfl
      go_wp2_with fail
      generalize wr.alloc (.cells #[.int .i64 p.kind, .int .i64 p.role, .int .i64 p.amount] 48) = W at *
      rcases Bool.eq_false_or_eq_true (slotB p.kind p.role) with c1 | c1
      · by_cases c2 : p.amount < 1
        · have d2 : decide (p.amount < 1) = true := decide_eq_true c2
          have HX := Lib.hid (HNO.out (by rw [HOK.out, HF.out, c1, decide_eq_false (show ¬ 1 ≤ p.amount by omega)]; rfl))
          ((refine wp_region_quietC (fun w' => Kc W wr.heap.size g (o + jj * 3) p q w') (by kernel_rfl) (by kernel_rfl) ?hc0 ?_
            case hc0 => (exact HKC.out)
            repeat ((first
                      | go_big_quiet_skip
                      | (refine wpQuiet_ex (by kernel_rfl) ?_
                         apply Exists.intro
                         refine ⟨fun w' hC => ?_, ?_⟩
                         · skip
                           ((have hC2 := hC; obtain ⟨_, y0, y1, y2, v0, v1, v2⟩ := hC2))
                           go_simp
                           first
                             | done
                             | (with_reducible rfl)
                             | (first
                                 | (go_at_call 38; exact Calls.quietC_of (of_calls _ _ _ _) (fun _ h2 => Kc.below hC HR0.out HG0.out h2))
                                 | (go_at_call 37; exact Calls.quietC_of (slotRight_calls _ _ _) (fun _ h2 => Kc.below hC HR0.out HG0.out h2))
                                 | (go_at_call 39; exact Calls.quietC_of (quantRight_calls _ _) (fun _ h2 => h2 ▸ hC))
                                 | (go_at_call 40; exact Calls.quietC_of (slotCmp_calls _ _ _ _ _) (fun _ h2 => Kc.below hC HR0.out HG0.out h2)))
                         try simp only [Act.put, List.setIfInBounds_toArray, List.set_cons_zero, List.set_cons_succ])))
            refine wpQuiet_nil ?_
            intro w' hC))
          (all_goals (
             have HY := Lib.hid (HB0.out.trans (hC.b.mono HB0.out.size))
             clear hC
             go_wp2_with fail
             go_ret
             exact ⟨by rw [HX.out]; rfl, HY.out⟩))
        · have d2 : decide (p.amount < 1) = false := decide_eq_false c2
          rcases Bool.eq_false_or_eq_true (quantB p.amount) with c3 | c3
          · have ct : decide (1 ≤ p.amount) = true := decide_eq_true (by omega)
            by_cases c4 : k = 0
            · subst c4
              have HX := Lib.hid (show okAt vec 0 = true by rw [HOK.out, HF.out, c1, c3, ct]; rfl)
              ((refine wp_region_quietC (fun w' => Kc W wr.heap.size g (o + jj * 3) p q w') (by kernel_rfl) (by kernel_rfl) ?hc0 ?_
                case hc0 => (exact HKC.out)
                repeat ((first
                          | go_big_quiet_skip
                          | (refine wpQuiet_ex (by kernel_rfl) ?_
                             apply Exists.intro
                             refine ⟨fun w' hC => ?_, ?_⟩
                             · skip
                               ((have hC2 := hC; obtain ⟨_, y0, y1, y2, v0, v1, v2⟩ := hC2))
                               go_simp
                               first
                                 | done
                                 | (with_reducible rfl)
                                 | (first
                                     | (go_at_call 38; exact Calls.quietC_of (of_calls _ _ _ _) (fun _ h2 => Kc.below hC HR0.out HG0.out h2))
                                     | (go_at_call 37; exact Calls.quietC_of (slotRight_calls _ _ _) (fun _ h2 => Kc.below hC HR0.out HG0.out h2))
                                     | (go_at_call 39; exact Calls.quietC_of (quantRight_calls _ _) (fun _ h2 => h2 ▸ hC))
                                     | (go_at_call 40; exact Calls.quietC_of (slotCmp_calls _ _ _ _ _) (fun _ h2 => Kc.below hC HR0.out HG0.out h2)))
                             try simp only [Act.put, List.setIfInBounds_toArray, List.set_cons_zero, List.set_cons_succ])))
                refine wpQuiet_nil ?_
                intro w' hC))
              (all_goals (
                 have HY := Lib.hid (HB0.out.trans (hC.b.mono HB0.out.size))
                 clear hC
                 go_wp2_with fail
                 go_roundg (vec.length - (0 + 1))
                 case measure => have := HLT.out; omega
                 case rel => exact ⟨0 + 1, HLT.out, rfl, by go_num, HY, Lib.hid (fun j hj => by rcases Nat.lt_succ_iff_lt_or_eq.1 hj with h | rfl; exact HK.out j h; exact HX.out)⟩))
            · obtain ⟨i0, i1, i2⟩ := HK1.out (by omega)
              have c5 : (0 : Int) < (k : Int) := by omega
              have c6 : 0 < k := by omega
              have d5 : decide ((0 : Int) < (k : Int)) = true := decide_eq_true c5
              have d6 : decide (0 < k) = true := decide_eq_true c6
              have ck : decide (k = 0) = false := decide_eq_false c4
              by_cases c7 : cmpS (q.kind, q.role) (p.kind, p.role) < 0
              · have c8 : ¬ 0 ≤ cmpS (q.kind, q.role) (p.kind, p.role) := by omega
                have d8 : decide (0 ≤ cmpS (q.kind, q.role) (p.kind, p.role)) = false := decide_eq_false c8
                have HX := Lib.hid (show okAt vec k = true by rw [HOK.out, HF.out, HE.out, c1, c3, ct, ck, decide_eq_true c7]; rfl)
                ((refine wp_region_quietC (fun w' => Kc W wr.heap.size g (o + jj * 3) p q w') (by kernel_rfl) (by kernel_rfl) ?hc0 ?_
                  case hc0 => (exact HKC.out)
                  repeat ((first
                            | go_big_quiet_skip
                            | (refine wpQuiet_ex (by kernel_rfl) ?_
                               apply Exists.intro
                               refine ⟨fun w' hC => ?_, ?_⟩
                               · skip
                                 ((have hC2 := hC; obtain ⟨_, y0, y1, y2, v0, v1, v2⟩ := hC2))
                                 go_simp
                                 first
                                   | done
                                   | (with_reducible rfl)
                                   | (first
                                       | (go_at_call 38; exact Calls.quietC_of (of_calls _ _ _ _) (fun _ h2 => Kc.below hC HR0.out HG0.out h2))
                                       | (go_at_call 37; exact Calls.quietC_of (slotRight_calls _ _ _) (fun _ h2 => Kc.below hC HR0.out HG0.out h2))
                                       | (go_at_call 39; exact Calls.quietC_of (quantRight_calls _ _) (fun _ h2 => h2 ▸ hC))
                                       | (go_at_call 40; exact Calls.quietC_of (slotCmp_calls _ _ _ _ _) (fun _ h2 => Kc.below hC HR0.out HG0.out h2)))
                               try simp only [Act.put, List.setIfInBounds_toArray, List.set_cons_zero, List.set_cons_succ])))
                  refine wpQuiet_nil ?_
                  intro w' hC))
                (all_goals (
                   have HY := Lib.hid (HB0.out.trans (hC.b.mono HB0.out.size))
                   clear hC
                   go_wp2_with fail
                   go_roundg (vec.length - (k + 1))
                   case measure => have := HLT.out; omega
                   case rel => exact ⟨k + 1, HLT.out, rfl, by go_num, HY, Lib.hid (fun j hj => by rcases Nat.lt_succ_iff_lt_or_eq.1 hj with h | rfl; exact HK.out j h; exact HX.out)⟩))
              · have c8 : 0 ≤ cmpS (q.kind, q.role) (p.kind, p.role) := by omega
                have d8 : decide (0 ≤ cmpS (q.kind, q.role) (p.kind, p.role)) = true := decide_eq_true c8
                have HX := Lib.hid (HNO.out (by rw [HOK.out, HF.out, HE.out, c1, c3, ct, ck, decide_eq_false c7]; rfl))
                ((refine wp_region_quietC (fun w' => Kc W wr.heap.size g (o + jj * 3) p q w') (by kernel_rfl) (by kernel_rfl) ?hc0 ?_
                  case hc0 => (exact HKC.out)
                  repeat ((first
                            | go_big_quiet_skip
                            | (refine wpQuiet_ex (by kernel_rfl) ?_
                               apply Exists.intro
                               refine ⟨fun w' hC => ?_, ?_⟩
                               · skip
                                 ((have hC2 := hC; obtain ⟨_, y0, y1, y2, v0, v1, v2⟩ := hC2))
                                 go_simp
                                 first
                                   | done
                                   | (with_reducible rfl)
                                   | (first
                                       | (go_at_call 38; exact Calls.quietC_of (of_calls _ _ _ _) (fun _ h2 => Kc.below hC HR0.out HG0.out h2))
                                       | (go_at_call 37; exact Calls.quietC_of (slotRight_calls _ _ _) (fun _ h2 => Kc.below hC HR0.out HG0.out h2))
                                       | (go_at_call 39; exact Calls.quietC_of (quantRight_calls _ _) (fun _ h2 => h2 ▸ hC))
                                       | (go_at_call 40; exact Calls.quietC_of (slotCmp_calls _ _ _ _ _) (fun _ h2 => Kc.below hC HR0.out HG0.out h2)))
                               try simp only [Act.put, List.setIfInBounds_toArray, List.set_cons_zero, List.set_cons_succ])))
                  refine wpQuiet_nil ?_
                  intro w' hC))
                (all_goals (
                   have HY := Lib.hid (HB0.out.trans (hC.b.mono HB0.out.size))
                   clear hC
                   go_wp2_with fail
                   go_ret
                   exact ⟨by rw [HX.out]; rfl, HY.out⟩))
          · have HX := Lib.hid (HNO.out (by rw [HOK.out, HF.out, c1, c3]; simp))
            ((refine wp_region_quietC (fun w' => Kc W wr.heap.size g (o + jj * 3) p q w') (by kernel_rfl) (by kernel_rfl) ?hc0 ?_
              case hc0 => (exact HKC.out)
              repeat ((first
                        | go_big_quiet_skip
                        | (refine wpQuiet_ex (by kernel_rfl) ?_
                           apply Exists.intro
                           refine ⟨fun w' hC => ?_, ?_⟩
                           · skip
                             ((have hC2 := hC; obtain ⟨_, y0, y1, y2, v0, v1, v2⟩ := hC2))
                             go_simp
                             first
                               | done
                               | (with_reducible rfl)
                               | (first
                                   | (go_at_call 38; exact Calls.quietC_of (of_calls _ _ _ _) (fun _ h2 => Kc.below hC HR0.out HG0.out h2))
                                   | (go_at_call 37; exact Calls.quietC_of (slotRight_calls _ _ _) (fun _ h2 => Kc.below hC HR0.out HG0.out h2))
                                   | (go_at_call 39; exact Calls.quietC_of (quantRight_calls _ _) (fun _ h2 => h2 ▸ hC))
                                   | (go_at_call 40; exact Calls.quietC_of (slotCmp_calls _ _ _ _ _) (fun _ h2 => Kc.below hC HR0.out HG0.out h2)))
                           try simp only [Act.put, List.setIfInBounds_toArray, List.set_cons_zero, List.set_cons_succ])))
              refine wpQuiet_nil ?_
              intro w' hC))
            (all_goals (
               have HY := Lib.hid (HB0.out.trans (hC.b.mono HB0.out.size))
               clear hC
               go_wp2_with fail
               go_ret
               exact ⟨by rw [HX.out]; rfl, HY.out⟩))
      · have HX := Lib.hid (HNO.out (by rw [HOK.out, HF.out, c1]; rfl))
        ((refine wp_region_quietC (fun w' => Kc W wr.heap.size g (o + jj * 3) p q w') (by kernel_rfl) (by kernel_rfl) ?hc0 ?_
          case hc0 => (exact HKC.out)
          repeat ((first
                    | go_big_quiet_skip
                    | (refine wpQuiet_ex (by kernel_rfl) ?_
                       apply Exists.intro
                       refine ⟨fun w' hC => ?_, ?_⟩
                       · skip
                         ((have hC2 := hC; obtain ⟨_, y0, y1, y2, v0, v1, v2⟩ := hC2))
                         go_simp
                         first
                           | done
                           | (with_reducible rfl)
                           | (first
                               | (go_at_call 38; exact Calls.quietC_of (of_calls _ _ _ _) (fun _ h2 => Kc.below hC HR0.out HG0.out h2))
                               | (go_at_call 37; exact Calls.quietC_of (slotRight_calls _ _ _) (fun _ h2 => Kc.below hC HR0.out HG0.out h2))
                               | (go_at_call 39; exact Calls.quietC_of (quantRight_calls _ _) (fun _ h2 => h2 ▸ hC))
                               | (go_at_call 40; exact Calls.quietC_of (slotCmp_calls _ _ _ _ _) (fun _ h2 => Kc.below hC HR0.out HG0.out h2)))
                       try simp only [Act.put, List.setIfInBounds_toArray, List.set_cons_zero, List.set_cons_succ])))
          refine wpQuiet_nil ?_
          intro w' hC))
        (all_goals (
           have HY := Lib.hid (HB0.out.trans (hC.b.mono HB0.out.size))
           clear hC
           go_wp2_with fail
           go_ret
           exact ⟨by rw [HX.out]; rfl, HY.out⟩))
    · have hki : decide ((k : Int) < (vec.length : Int)) = false := decide_eq_false (by omega)
      have HR := Lib.hid (right_yes (vec := vec) (fun j hj => HK.out j (by omega)))
      go_wp2
      go_ret
      exact ⟨by rw [HR.out]; rfl, HB.out⟩
end Go.Proofs.Ytecgfghmmlpghaa.O
