/- Walks: take, of one ring. -/
import Derived.Test.YtchhpgnlfofdcaaPut3
import Derived.Deep.RegionHeld3
import Derived.Outline
set_option linter.unusedVariables false
set_option linter.unusedSimpArgs false
namespace Go.Proofs.Ytchhpgnlfofdcaa.Q
open Go.RowKit Go.Proofs.Ytchhpgnlfofdcaa.Hp Go.Proofs.Ytchhpgnlfofdcaa.Mp
set_option maxRecDepth 100000

theorem RingC.keepS {w w' : World} {q : Qr} {cap frm : Nat} {cur : Array Value} (h : RingC w q cap frm cur) (hb : Below w.heap.size w w') : RingC w' q cap frm cur :=
  ⟨(hb.block _ (blk_lt h.rb)).trans h.rb, (hb.block _ (blk_lt h.ab)).trans h.ab, h.pos, h.flt, h.len, h.size, h.one, fun i hi => by obtain ⟨va, vc, g1, g2⟩ := h.evs i hi; exact ⟨va, vc, g1, g2.keep (fun i c hc => hb.block i (blk_lt hc))⟩⟩
/-- The first one, where it stands. -/
theorem RingC.first {w : World} {q : Qr} {cap frm : Nat} {cur : Array Value} (h : RingC w q cap frm cur) {x : Ev} {rest : List Ev} (hx : q.evs = x :: rest) :
    ∃ va vc, (w.cell? ⟨q.ab, frm * 5, none⟩ = some (.int .i64 x.kind) ∧ w.cell? ⟨q.ab, frm * 5 + 1, none⟩ = some (.int .i64 x.frame) ∧ w.cell? ⟨q.ab, frm * 5 + 2, none⟩ = some (.int .i64 x.id) ∧ w.cell? ⟨q.ab, frm * 5 + 3, none⟩ = some (.int .i64 x.agent) ∧ w.cell? ⟨q.ab, frm * 5 + 4, none⟩ = some (.slice va x.vec.length vc)) ∧ VAt w va x.vec := by
  obtain ⟨va, vc, g1, g2⟩ := h.evs 0 (by rw [hx]; simp)
  have hget : q.evs[0]'(by rw [hx]; simp) = x := by simp only [hx, List.getElem_cons_zero]
  rw [hget] at g1 g2
  rw [Nat.add_zero, Nat.mod_eq_of_lt h.flt] at g1
  have key : ∀ r u, (cellsE x va vc)[r]? = some u → w.cell? ⟨q.ab, frm * 5 + r, none⟩ = some u := fun r u hu => (blk_cell h.ab _).trans (g1 r u hu)
  exact ⟨va, vc, ⟨key 0 _ rfl, key 1 _ rfl, key 2 _ rfl, key 3 _ rfl, key 4 _ rfl⟩, g2⟩
/-- The first one is taken out. -/
theorem RingC.pop {w : World} {q : Qr} {cap frm : Nat} {cur : Array Value} (h : RingC w q cap frm cur) {x : Ev} {rest : List Ev} (hx : q.evs = x :: rest) :
    RingC (((putE w q.ab (frm * 5) Ev.zero none 0).setCell ⟨q.rb, 1, none⟩ (.int .i64 (((frm + 1) % cap : Nat) : Int))).setCell ⟨q.rb, 2, none⟩ (.int .i64 rest.length)) { q with evs := rest } cap ((frm + 1) % cap) (layE cur (frm * 5) Ev.zero none 0) := by
  have hfit : frm * 5 + 5 ≤ cur.size := by rw [h.size]; have := h.flt; omega
  have hl : rest.length + 1 ≤ cap := by have := h.len; rw [hx] at this; simpa using this
  have hkeep : ∀ (i : Nat) (c : Array Value), w.heap[i]? = some (Obj.cells c 71 (0, 0)) → (((putE w q.ab (frm * 5) Ev.zero none 0).setCell ⟨q.rb, 1, none⟩ (.int .i64 (((frm + 1) % cap : Nat) : Int))).setCell ⟨q.rb, 2, none⟩ (.int .i64 rest.length)).heap[i]? = w.heap[i]? := fun i c hc => by
    obtain ⟨n1, n2⟩ := h.no71 i c hc
    rw [hc]
    exact blk_far (blk_far (putE_far hc n2 _ Ev.zero none 0) n1 _) n1 _
  refine ⟨?_, blk_far (blk_far (putE_blk h.ab _ Ev.zero none 0) (Ne.symm h.ne) _) (Ne.symm h.ne) _, h.pos, Nat.mod_lt _ h.pos, by simp only; omega, by rw [layE_size]; exact h.size, layE_one Ev.zero none 0 hfit h.one, ?_⟩
  · exact blk_set (blk_set (putE_far h.rb h.ne (frm * 5) Ev.zero none 0) 1 (.int .i64 (((frm + 1) % cap : Nat) : Int))) 2 (.int .i64 rest.length)
  · intro i hi
    simp only at hi
    have hi2 : i + 1 < q.evs.length := by rw [hx]; simp only [List.length_cons]; omega
    obtain ⟨va, vc, g1, g2⟩ := h.evs (i + 1) hi2
    have hget : q.evs[i + 1]'hi2 = rest[i] := by simp only [hx, List.getElem_cons_succ]
    rw [hget] at g1 g2
    have hmod : ((frm + 1) % cap + i) % cap = (frm + (i + 1)) % cap := by rw [Nat.mod_add_mod]; congr 1; omega
    refine ⟨va, vc, fun r u hu => ?_, g2.keep hkeep⟩
    have hr : r < 5 := by
      rcases Nat.lt_or_ge r 5 with h' | h'
      · exact h'
      · rw [List.getElem?_eq_none (by simpa [cellsE] using h')] at hu; simp at hu
    have hne := mod_ne (frm := frm) (i := 0) (n := i + 1) h.pos (by omega) (by omega) h.flt
    rw [Nat.add_zero, Nat.mod_eq_of_lt h.flt] at hne
    simp only [hmod]
    rw [layE_out Ev.zero none 0 (by omega)]
    exact g1 r u hu

theorem RingC.heap {w w' : World} {q : Qr} {cap frm : Nat} {cur : Array Value} (h : RingC w q cap frm cur) (e : w'.heap = w.heap) : RingC w' q cap frm cur :=
  ⟨by rw [e]; exact h.rb, by rw [e]; exact h.ab, h.pos, h.flt, h.len, h.size, h.one, fun i hi => by obtain ⟨va, vc, g1, g2⟩ := h.evs i hi; exact ⟨va, vc, g1, g2.keep (fun i c hc => by rw [e])⟩⟩
/-- An event stored into a block that is none of the ring's. -/
theorem RingC.putFar {w : World} {q : Qr} {cap frm : Nat} {cur : Array Value} (h : RingC w q cap frm cur) {N : Nat} {cs : Array Value} (hN : w.heap[N]? = some (.cells cs 28 (0, 0))) (h1 : q.rb ≠ N) (h2 : q.ab ≠ N) (o : Nat) (e : Ev) (va : Option Addr) (vc : Nat) : RingC (putE w N o e va vc) q cap frm cur :=
  ⟨putE_far h.rb h1 o e va vc, putE_far h.ab h2 o e va vc, h.pos, h.flt, h.len, h.size, h.one, fun i hi => by
    obtain ⟨va', vc', g1, g2⟩ := h.evs i hi
    refine ⟨va', vc', g1, g2.keep (fun k c hc => ?_)⟩
    rw [hc]
    exact putE_far hc (fun e => by rw [e, hN] at hc; simp at hc) o _ va vc⟩
theorem layE_five (a0 a1 a2 a3 a4 : Value) (e : Ev) (va : Option Addr) (vc : Nat) : layE #[a0, a1, a2, a3, a4] 0 e va vc = #[.int .i64 e.kind, .int .i64 e.frame, .int .i64 e.id, .int .i64 e.agent, .slice va e.vec.length vc] := by
  simp [layE]
/-- What take tells and leaves. -/
def Took (most : Int) (q : Qr) (x : Ev) (rest : List Ev) (w : World) (e : Ending) (w' : World) : Prop := ∃ va vc cap' frm', e = .returned (.agg #[.int .i64 x.kind, .int .i64 x.frame, .int .i64 x.id, .int .i64 x.agent, .slice va x.vec.length vc]) ∧ VAt w' va x.vec ∧ RingAt w' most { q with evs := rest } cap' frm' ∧ Chg (Rb q) w w'
set_option maxHeartbeats 4000000 in
theorem take_calls (most : Int) (q : Qr) (cap frm : Nat) (w : World) (h : RingAt w most q cap frm) (x : Ev) (rest : List Ev) (hx : q.evs = x :: rest) (hlen : q.evs.length ≤ 900) :
    Calls Try.prog 22 #[.pointer (some ⟨q.rb, 0, none⟩)] w (Took most q x rest w) := by
  have hB := (Below.refl _ w).alloc (Nat.le_refl _) (.cells #[.int .i64 0, .int .i64 0, .int .i64 0, .int .i64 0, .slice none 0 0] 28)
  have hr0 : RingAt (w.alloc (.cells #[.int .i64 0, .int .i64 0, .int .i64 0, .int .i64 0, .slice none 0 0] 28)) most q cap frm := h.keep (fun i hi => hB.block i (h.lt i hi)) (fun i c hc => hB.block i (blk_lt hc))
  have hcap : 0 < cap := by
    obtain ⟨ea, _, ⟨_, _, _, _, h5⟩ | ⟨h5, _⟩⟩ := h.blk
    · rw [hx] at h5; simp at h5
    · exact h5
  obtain ⟨cur, hC⟩ := hr0.cells hcap
  have HC1 := Lib.hid hC
  have HN := Lib.hid (blk_new w (.cells #[.int .i64 0, .int .i64 0, .int .i64 0, .int .i64 0, .slice none 0 0] 28))
  have HR := Lib.hid h
  have HX := Lib.hid hx
  have HL := Lib.hid hlen
  have HCH := Lib.hid ((Chg.refl (Rb q) w).alloc (.cells #[.int .i64 0, .int .i64 0, .int .i64 0, .int .i64 0, .slice none 0 0] 28))
  have HSZ := Lib.hid (show (w.alloc (.cells #[.int .i64 0, .int .i64 0, .int .i64 0, .int .i64 0, .slice none 0 0] 28)).heap.size = w.heap.size + 1 by simp)
  clear hB hr0 h hx hlen hcap hC
  go_enter Try.func22, Try.ntmps22
  go_wp2_with fail
  generalize w.alloc (.cells #[.int .i64 0, .int .i64 0, .int .i64 0, .int .i64 0, .slice none 0 0] 28) = w1 at *
  have c0 := HC1.out.c0
  have c1 := HC1.out.c1
  obtain ⟨va, vc, ⟨y0, y1, y2, y3, y4⟩, hv⟩ := HC1.out.first HX.out
  have HV := Lib.hid hv
  have z1 : (0 : Int) ≤ (frm : Int) := by omega
  have z2 : (frm : Int) < (cap : Int) := by have := HC1.out.flt; omega
  have n1 : w1.heap.size ≠ q.rb := Nat.ne_of_gt (blk_lt HC1.out.rb)
  have n2 : w1.heap.size ≠ q.ab := Nat.ne_of_gt (blk_lt HC1.out.ab)
  clear hv
  go_region_held3 (fun w' => w'.cell? ⟨q.rb, 0, none⟩ = some (.slice (some ⟨q.ab, 0, none⟩) cap cap) ∧ w'.cell? ⟨q.rb, 1, none⟩ = some (.int .i64 frm) ∧ w'.cell? ⟨q.ab, frm * 5, none⟩ = some (.int .i64 x.kind) ∧ w'.cell? ⟨q.ab, frm * 5 + 1, none⟩ = some (.int .i64 x.frame) ∧ w'.cell? ⟨q.ab, frm * 5 + 2, none⟩ = some (.int .i64 x.id) ∧ w'.cell? ⟨q.ab, frm * 5 + 3, none⟩ = some (.int .i64 x.agent) ∧ w'.cell? ⟨q.ab, frm * 5 + 4, none⟩ = some (.slice va x.vec.length vc)) (go_keep) (fail)
  have hb2 := below_drew ((Below.refl _ w1).alloc (Nat.le_refl _) (.cells #[.int .i64 x.kind, .int .i64 x.frame, .int .i64 x.id, .int .i64 x.agent, .slice va x.vec.length vc] 28))
  have HC2 := Lib.hid (HC1.out.keepS hb2)
  have HV2 := Lib.hid (HV.out.keep (w' := (w1.alloc (.cells #[.int .i64 x.kind, .int .i64 x.frame, .int .i64 x.id, .int .i64 x.agent, .slice va x.vec.length vc] 28)).drew) (fun i c hc => hb2.block i (blk_lt hc)))
  have HN2 := Lib.hid ((hb2.block w.heap.size (by have := HSZ.out; omega)).trans HN.out)
  have HM2 : Hid ((w1.alloc (.cells #[.int .i64 x.kind, .int .i64 x.frame, .int .i64 x.id, .int .i64 x.agent, .slice va x.vec.length vc] 28)).drew.heap[w1.heap.size]? = some (.cells #[.int .i64 x.kind, .int .i64 x.frame, .int .i64 x.id, .int .i64 x.agent, .slice va x.vec.length vc] 28 (0, 0))) := Lib.hid (blk_new w1 _)
  have HCH2 := Lib.hid ((HCH.out.alloc (.cells #[.int .i64 x.kind, .int .i64 x.frame, .int .i64 x.id, .int .i64 x.agent, .slice va x.vec.length vc] 28)).drew)
  clear hb2 c0 c1 y0 y1 y2 y3 y4 HV HN HCH n1 n2
  go_wp2_with fail
  generalize (w1.alloc (.cells #[.int .i64 x.kind, .int .i64 x.frame, .int .i64 x.id, .int .i64 x.agent, .slice va x.vec.length vc] 28)).drew = w2 at *
  have HBN := Lib.hid (show w1.heap.size = w.heap.size + 1 from HSZ.out)
  have HNB := Lib.hid (And.intro (show q.rb < w1.heap.size from blk_lt HC1.out.rb) (show q.ab < w1.heap.size from blk_lt HC1.out.ab))
  have HNA := Lib.hid (And.intro HR.out.lt_rb HR.out.lt_ab)
  clear HC1
  generalize w1.heap.size = B at *
  have c0 := HC2.out.c0
  have c1 := HC2.out.c1
  go_still_tail 10, (by kernel_rfl)
  change wpList _ _ _ _ _ w2.drew
  have HC3 := Lib.hid HC2.out.drew
  have HV3 := Lib.hid (HV2.out.keep (w' := w2.drew) (fun _ _ _ => rfl))
  have HCH3 := Lib.hid HCH2.out.drew
  have HN3 : Hid (w2.drew.heap[w.heap.size]? = _) := HN2
  have HM3 : Hid (w2.drew.heap[B]? = _) := HM2
  clear c0 c1 HC2 HV2 HCH2 HN2 HM2
  generalize w2.drew = w3 at *
  have c0 := HC3.out.c0
  have c1 := HC3.out.c1
  obtain ⟨⟨u0, v0, o0⟩, ⟨u1, v1, o1⟩, ⟨u2, v2, o2⟩, ⟨u3, v3, o3⟩, ⟨u4, v4, o4⟩⟩ := HC3.out.old HC3.out.flt
  have f0 := fun j => blk_frozen HC3.out.ab j
  have n1 : q.rb ≠ q.ab := HC3.out.ne
  have n2 : q.ab ≠ q.rb := Ne.symm n1
  go_wp2_with fail
  obtain ⟨p0, hp0⟩ : ∃ p0, p0 = (frm + 1) % cap := ⟨_, rfl⟩
  have s1 : IntKind.i64.wrap ((frm : Int) + 1) = (frm : Int) + 1 := IntWalk.i64_in _ (by have := HR.out.cap; have := HC3.out.flt; omega)
  have s2 : ((frm : Int) + 1).tmod (cap : Int) = (p0 : Int) := by
    rw [Int.tmod_eq_emod_of_nonneg (by omega), hp0, Int.natCast_emod, Int.natCast_add]; rfl
  have s3 : ((frm : Int) + 1) % (cap : Int) = (p0 : Int) := by rw [hp0, Int.natCast_emod, Int.natCast_add]; rfl
  have s6 : ¬ cap = 0 := by have := HC3.out.pos; omega
  have hpop := HC3.out.pop HX.out
  rw [← hp0] at hpop
  have HPOP := Lib.hid (fun (W : World) (hW : W.heap = (((((w3.setCell ⟨q.ab, frm * 5, none⟩ (.int .i64 0)).setCell ⟨q.ab, frm * 5 + 1, none⟩ (.int .i64 0)).setCell ⟨q.ab, frm * 5 + 2, none⟩ (.int .i64 0)).setCell ⟨q.ab, frm * 5 + 3, none⟩ (.int .i64 0)).setCell ⟨q.ab, frm * 5 + 4, none⟩ (.slice none 0 0)).heap) => hpop.heap (w' := (W.setCell ⟨q.rb, 1, none⟩ (.int .i64 (p0 : Int))).setCell ⟨q.rb, 2, none⟩ (.int .i64 rest.length)) (show _ = _ by simp only [World.setCell, hW, putE]; rfl))
  clear hp0 hpop v0 v1 v2 v3 v4 o0 o1 o2 o3 o4 f0 c0 c1
  have HRB4 := Lib.hid (show (((((w3.setCell ⟨q.ab, frm * 5, none⟩ (.int .i64 0)).setCell ⟨q.ab, frm * 5 + 1, none⟩ (.int .i64 0)).setCell ⟨q.ab, frm * 5 + 2, none⟩ (.int .i64 0)).setCell ⟨q.ab, frm * 5 + 3, none⟩ (.int .i64 0)).setCell ⟨q.ab, frm * 5 + 4, none⟩ (.slice none 0 0)).heap[q.rb]? = _ from putE_far HC3.out.rb n1 (frm * 5) Ev.zero none 0)
  have HCH4 : Hid (Chg (Rb q) w (((((w3.setCell ⟨q.ab, frm * 5, none⟩ (.int .i64 0)).setCell ⟨q.ab, frm * 5 + 1, none⟩ (.int .i64 0)).setCell ⟨q.ab, frm * 5 + 2, none⟩ (.int .i64 0)).setCell ⟨q.ab, frm * 5 + 3, none⟩ (.int .i64 0)).setCell ⟨q.ab, frm * 5 + 4, none⟩ (.slice none 0 0))) := Lib.hid (Chg.putE HCH3.out (.inl (.inr rfl)) (frm * 5) Ev.zero none 0)
  have HKEEP : Hid (∀ (i : Nat) (o : Obj), i ≠ q.ab → w3.heap[i]? = some o → (((((w3.setCell ⟨q.ab, frm * 5, none⟩ (.int .i64 0)).setCell ⟨q.ab, frm * 5 + 1, none⟩ (.int .i64 0)).setCell ⟨q.ab, frm * 5 + 2, none⟩ (.int .i64 0)).setCell ⟨q.ab, frm * 5 + 3, none⟩ (.int .i64 0)).setCell ⟨q.ab, frm * 5 + 4, none⟩ (.slice none 0 0)).heap[i]? = some o) := Lib.hid (fun i o hi ho => putE_far ho hi (frm * 5) Ev.zero none 0)
  have HV4 : Hid (VAt (((((w3.setCell ⟨q.ab, frm * 5, none⟩ (.int .i64 0)).setCell ⟨q.ab, frm * 5 + 1, none⟩ (.int .i64 0)).setCell ⟨q.ab, frm * 5 + 2, none⟩ (.int .i64 0)).setCell ⟨q.ab, frm * 5 + 3, none⟩ (.int .i64 0)).setCell ⟨q.ab, frm * 5 + 4, none⟩ (.slice none 0 0)) va x.vec) := Lib.hid (HV3.out.keep (fun i c hc => by rw [hc]; exact HKEEP.out i _ (HC3.out.no71 i c hc).2 hc))
  have HN4 := Lib.hid (HKEEP.out _ _ (by have := HNA.out.2; omega) HN3.out)
  have HM4 := Lib.hid (HKEEP.out _ _ (by have := HNB.out.2; omega) HM3.out)
  have HEQ4 : Hid ((((((w3.setCell ⟨q.ab, frm * 5, none⟩ (.int .i64 0)).setCell ⟨q.ab, frm * 5 + 1, none⟩ (.int .i64 0)).setCell ⟨q.ab, frm * 5 + 2, none⟩ (.int .i64 0)).setCell ⟨q.ab, frm * 5 + 3, none⟩ (.int .i64 0)).setCell ⟨q.ab, frm * 5 + 4, none⟩ (.slice none 0 0)).heap = (((((w3.setCell ⟨q.ab, frm * 5, none⟩ (.int .i64 0)).setCell ⟨q.ab, frm * 5 + 1, none⟩ (.int .i64 0)).setCell ⟨q.ab, frm * 5 + 2, none⟩ (.int .i64 0)).setCell ⟨q.ab, frm * 5 + 3, none⟩ (.int .i64 0)).setCell ⟨q.ab, frm * 5 + 4, none⟩ (.slice none 0 0)).heap) := Lib.hid rfl
  have HNE := Lib.hid (And.intro n1 n2)
  clear HC3 HV3 HCH3 HN3 HM3 HKEEP n1 n2
  generalize ((((w3.setCell ⟨q.ab, frm * 5, none⟩ (.int .i64 0)).setCell ⟨q.ab, frm * 5 + 1, none⟩ (.int .i64 0)).setCell ⟨q.ab, frm * 5 + 2, none⟩ (.int .i64 0)).setCell ⟨q.ab, frm * 5 + 3, none⟩ (.int .i64 0)).setCell ⟨q.ab, frm * 5 + 4, none⟩ (.slice none 0 0) = w4 at *
  have c0 : w4.cell? ⟨q.rb, 0, none⟩ = some (.slice (some ⟨q.ab, 0, none⟩) cap cap) := blk_cell HRB4.out 0
  have c1 : w4.cell? ⟨q.rb, 1, none⟩ = some (.int .i64 frm) := blk_cell HRB4.out 1
  go_still_tail 14, (by kernel_rfl)
  change wpList _ _ _ _ _ w4.drew
  have HEQ5 : Hid (w4.drew.heap = w4.heap) := Lib.hid rfl
  have HRB5 : Hid (w4.drew.heap[q.rb]? = _) := HRB4
  have HN5 : Hid (w4.drew.heap[w.heap.size]? = _) := HN4
  have HM5 : Hid (w4.drew.heap[B]? = _) := HM4
  have HV5 := Lib.hid (HV4.out.keep (w' := w4.drew) (fun _ _ _ => rfl))
  have HCH5 := Lib.hid HCH4.out.drew
  clear c0 c1 s1 s2 s3 s6 HRB4 HN4 HM4 HV4 HCH4 HEQ4
  generalize w4.drew = w5 at *
  have c1 : w5.cell? ⟨q.rb, 1, none⟩ = some (.int .i64 frm) := blk_cell HRB5.out 1
  have c2 : w5.cell? ⟨q.rb, 2, none⟩ = some (.int .i64 q.evs.length) := blk_cell HRB5.out 2
  have f0 := fun j => blk_frozen HRB5.out j
  have f1 := fun j => blk_frozen HN5.out j
  obtain ⟨e0, e1, e2, e3, e4⟩ := ev_cells HM5.out
  obtain ⟨k0, k1, k2, k3, k4⟩ := ev_cells (e := Ev.zero) (va := none) (vc := 0) HN5.out
  simp only [Ev.zero] at k0 k1 k2 k3 k4
  have hrl : (q.evs.length : Int) = (rest.length : Int) + 1 := by rw [HX.out]; simp
  have s1 : IntKind.i64.wrap ((q.evs.length : Int) - 1) = (rest.length : Int) := by rw [hrl, Int.add_sub_cancel]; exact IntWalk.i64_in _ (by have := HL.out; rw [HX.out] at this; simp at this; omega)
  have m1 : q.rb ≠ B := Nat.ne_of_lt HNB.out.1
  have m2 : B ≠ q.rb := Ne.symm m1
  have m3 : q.rb ≠ w.heap.size := Nat.ne_of_lt HNA.out.1
  have m4 : w.heap.size ≠ q.rb := Ne.symm m3
  have m5 : B ≠ w.heap.size := by have := HBN.out; omega
  have m6 : w.heap.size ≠ B := Ne.symm m5
  clear hrl
  go_wp2
  have hring := HPOP.out w5 HEQ5.out
  have hN6 : ((w5.setCell ⟨q.rb, 1, none⟩ (.int .i64 (p0 : Int))).setCell ⟨q.rb, 2, none⟩ (.int .i64 rest.length)).heap[w.heap.size]? = _ := blk_far (p := ⟨q.rb, 2, none⟩) (blk_far (p := ⟨q.rb, 1, none⟩) HN5.out m4 (.int .i64 (p0 : Int))) m4 (.int .i64 rest.length)
  have hring2 := hring.putFar hN6 m3 (Nat.ne_of_lt HNA.out.2) 0 x va vc
  have hblk := putE_blk hN6 0 x va vc
  rw [layE_five] at hblk
  have hv6 : VAt (putE ((w5.setCell ⟨q.rb, 1, none⟩ (.int .i64 (p0 : Int))).setCell ⟨q.rb, 2, none⟩ (.int .i64 rest.length)) w.heap.size 0 x va vc) va x.vec := HV5.out.keep (fun i c hc => by
    have hi1 : i ≠ q.rb := fun e => by rw [e, HRB5.out] at hc; simp at hc
    have hi2 : i ≠ w.heap.size := fun e => by rw [e, HN5.out] at hc; simp at hc
    rw [hc]
    exact putE_far (blk_far (p := ⟨q.rb, 2, none⟩) (blk_far (p := ⟨q.rb, 1, none⟩) hc hi1 _) hi1 _) hi2 0 x va vc)
  have hch := Chg.putE ((HCH5.out.setCell (p := ⟨q.rb, 1, none⟩) (.inl (.inl rfl)) (.int .i64 (p0 : Int))).setCell (p := ⟨q.rb, 2, none⟩) (.inl (.inl rfl)) (.int .i64 rest.length)) (g := w.heap.size) (.inr (Nat.le_refl _)) 0 x va vc
  obtain ⟨r0, r1, r2, r3, r4⟩ := ev_cells (w := putE ((w5.setCell ⟨q.rb, 1, none⟩ (.int .i64 (p0 : Int))).setCell ⟨q.rb, 2, none⟩ (.int .i64 rest.length)) w.heap.size 0 x va vc) (e := x) (va := va) (vc := vc) hblk
  simp only [putE, Nat.zero_add] at r0 r1 r2 r3 r4 hring2 hv6 hch
  clear hring hN6 hblk HPOP e0 e1 e2 e3 e4 k0 k1 k2 k3 k4 c1 c2 f0 f1
  generalize (((((((w5.setCell ⟨q.rb, 1, none⟩ (.int .i64 (p0 : Int))).setCell ⟨q.rb, 2, none⟩ (.int .i64 rest.length)).setCell ⟨w.heap.size, 0, none⟩ (.int .i64 x.kind)).setCell ⟨w.heap.size, 1, none⟩ (.int .i64 x.frame)).setCell ⟨w.heap.size, 2, none⟩ (.int .i64 x.id)).setCell ⟨w.heap.size, 3, none⟩ (.int .i64 x.agent)).setCell ⟨w.heap.size, 4, none⟩ (.slice va x.vec.length vc)) = W6 at *
  have hq : RingAt W6 most { q with evs := rest } cap p0 := hring2.ring HR.out.most HR.out.cap HR.out.lost
  refine bodyPost_ret (v := .agg #[.int .i64 x.kind, .int .i64 x.frame, .int .i64 x.id, .int .i64 x.agent, .slice va x.vec.length vc]) (by simp [results, Try.results22, go_sem, r0, r1, r2, r3, r4]) rfl ?_
  exact ⟨va, vc, cap, p0, rfl, hv6, hq, hch⟩
end Go.Proofs.Ytchhpgnlfofdcaa.Q
