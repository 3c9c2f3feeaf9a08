/- Walks: Table.Close. -/
import Derived.Test.YtecgfghmmlpghaaTog
import Derived.Test.YtecgfghmmlpghaaDrop
import Derived.Deep.RegionHeld3
set_option linter.unusedVariables false
set_option linter.unusedSimpArgs false
namespace Go.Proofs.Ytecgfghmmlpghaa.O
open Go.RowKit Go.Proofs.Ytecgfghmmlpghaa.Hp Go.Proofs.Ytecgfghmmlpghaa.Mp
set_option maxRecDepth 100000
theorem mdel_sub {α : Type} : ∀ (l : List (Int × α)) (k : Int), (mdel l k).Sublist l
  | [], _ => List.Sublist.refl _
  | p :: l, k => by
    simp only [mdel]
    split
    · exact List.sublist_cons_self _ _
    · exact (mdel_sub l k).cons_cons _
theorem idsP_cons (p : Of → Bool) (q : Int × Ox) (l : List (Int × Ox)) : idsP p (q :: l) = if p q.2.1 then q.1 :: idsP p l else idsP p l := by
  unfold idsP
  rw [List.filter_cons]
  split <;> rfl
theorem idsP_del (p : Of → Bool) (k : Int) (x : Ox) : ∀ (lo : List (Int × Ox)), mget lo k = some x → idsP p (mdel lo k) = if p x.1 then (idsP p lo).erase k else idsP p lo
  | [], h => by simp [mget] at h
  | q :: l, h => by
    simp only [mget] at h
    simp only [mdel]
    by_cases hq : q.1 = k
    · rw [if_pos hq] at h ⊢
      have := Option.some.inj h
      subst this
      rw [idsP_cons]
      cases hp : p q.2.1
      · simp
      · simp [hq]
    · rw [if_neg hq] at h ⊢
      rw [idsP_cons, idsP_cons, idsP_del p k x l h]
      cases hp : p q.2.1 <;> cases hp2 : p x.1 <;> simp [hq]
theorem idsP_in {p : Of → Bool} {lo : List (Int × Ox)} {k : Int} {x : Ox} (h : mget lo k = some x) (hp : p x.1 = true) : k ∈ idsP p lo :=
  List.mem_map.2 ⟨(k, x), List.mem_filter.2 ⟨mget_some_mem h, hp⟩, rfl⟩
theorem Tog.shrunk {w : World} {b mo mf ma : Nat} {most last : Int} {lo : List (Int × Ox)} {lf la : List (Int × Nat)} (k : Int) (x : Ox) (hg : mget lo k = some x)
    (hr : lo.Pairwise fun p q => p.1 < q.1) (hi : ∀ p ∈ lo, p.2.1.id = p.1 ∧ 1 ≤ p.1 ∧ p.1 ≤ last) (h0 : 0 ≤ last)
    (h : Tog w b mo mf ma most last (mdel lo k) lf la (fun f => if f = x.1.frame then (idsP (fun o => o.frame == x.1.frame) lo).erase k else idsP (fun o => o.frame == f) lo) (fun f => if f = x.1.agent then (idsP (fun o => o.agent == x.1.agent) lo).erase k else idsP (fun o => o.agent == f) lo)) :
    Tof w b mo mf ma most last (mdel lo k) lf la := by
  have e1 : (fun f => idsP (fun o => o.frame == f) (mdel lo k)) = fun f => if f = x.1.frame then (idsP (fun o => o.frame == x.1.frame) lo).erase k else idsP (fun o => o.frame == f) lo := by
    funext f
    rw [idsP_del _ k x lo hg]
    by_cases hk : f = x.1.frame
    · subst hk; simp
    · rw [if_neg (by simp; exact fun e => hk e.symm), if_neg hk]
  have e2 : (fun f => idsP (fun o => o.agent == f) (mdel lo k)) = fun f => if f = x.1.agent then (idsP (fun o => o.agent == x.1.agent) lo).erase k else idsP (fun o => o.agent == f) lo := by
    funext f
    rw [idsP_del _ k x lo hg]
    by_cases hk : f = x.1.agent
    · subst hk; simp
    · rw [if_neg (by simp; exact fun e => hk e.symm), if_neg hk]
  exact ⟨h.blk, h.offers, hr.sublist (mdel_sub lo k), fun p hp => hi p ((mdel_sub lo k).subset hp), h.vec, by rw [e1]; exact h.of', by rw [e2]; exact h.on', h.sep1, h.sep2, h0⟩
/-- What Close leaves. -/
def CloS (b mo mf ma : Nat) (most last : Int) (lo : List (Int × Ox)) (lf la : List (Int × Nat)) (id : Int) (o : Of) (w : World) (e : Ending) (w' : World) : Prop :=
  ∃ va vc, e = .returned (.tuple #[.agg #[.int .i64 o.id, .int .i64 o.frame, .int .i64 o.agent, .slice va o.vec.length vc, .int .i64 o.till], .bool true]) ∧ PAt (New w w') w' va o.vec ∧
    ∃ lf' la', Tof w' b mo mf ma most last (mdel lo id) lf' la' ∧ (∀ i, Own b mo mf ma lf' la' i → Own b mo mf ma lf la i ∨ w.heap.size ≤ i) ∧ Chg (Own b mo mf ma lf la) w w'
theorem Tof.no30 {w : World} {b mo mf ma : Nat} {most last : Int} {lo : List (Int × Ox)} {lf la : List (Int × Nat)} (h : Tof w b mo mf ma most last lo lf la) : ∀ (i : Nat) (cur : Array Value), w.heap[i]? = some (Obj.cells cur 30 (0, 0)) → ¬ Own b mo mf ma lf la i := fun i cur hc hi => by
  rcases hi with rfl | rfl | hi | hi
  · rw [h.blk] at hc; simp at hc
  · obtain ⟨es, clk, hb⟩ := IsMap.isMapB h.offers; rw [hb] at hc; simp at hc
  · obtain ⟨es, clk, hb⟩ := h.of'.own_map i hi; rw [hb] at hc; simp at hc
  · obtain ⟨es, clk, hb⟩ := h.on'.own_map i hi; rw [hb] at hc; simp at hc
section
variable {b mo mf ma : Nat} {most last : Int} {lo : List (Int × Ox)} {lf la : List (Int × Nat)}
set_option maxHeartbeats 4000000 in
theorem close_none (id : Int) (w : World) (h : Tof w b mo mf ma most last lo lf la) (hg : mget lo id = none) :
    Calls Try.prog 8 #[.pointer (some ⟨b, 0, none⟩), .int .i64 id] w fun e w' => e = .returned (.tuple #[.agg #[.int .i64 0, .int .i64 0, .int .i64 0, .slice none 0 0, .int .i64 0], .bool false]) ∧ Below w.heap.size w w' := by
  have hR := RSt.start w
  have KG := Lib.hid (get_none0 id _ (h.below hR.chg) hg)
  have HR := Lib.hid hR
  clear h hg hR
  go_enter Try.func8, Try.ntmps8
  go_wp2_with fail
  refine KG.out.mono ?_
  rintro e w1 ⟨rfl, hb1⟩
  have HR1 := Lib.hid ((HR.out.below hb1 HR.out.lt).below ((Below.refl _ w1).alloc (Nat.le_refl _) (.cells #[.int .i64 0, .int .i64 0, .int .i64 0, .slice none 0 0, .int .i64 0] 30)) (by have := (HR.out.below hb1 HR.out.lt).lt; exact this))
  have hn := blk_new w1 (.cells #[.int .i64 0, .int .i64 0, .int .i64 0, .slice none 0 0, .int .i64 0] 30)
  have n0 := blk_cell hn 0
  have n1 := blk_cell hn 1
  have n2 := blk_cell hn 2
  have n3 := blk_cell hn 3
  have n4 := blk_cell hn 4
  obtain ⟨⟨r0, r1, r2, r3, r4⟩, f0, f1, f2, f3, f4⟩ := HR1.out.facts
  clear hb1 hn KG HR
  go_wp2_with fail
  obtain ⟨s0, s1, s2, s3, s4, s5⟩ := HR1.out.stop (.int .i64 0) (.int .i64 0) (.int .i64 0) (.slice none 0 0) (.int .i64 0)
  change bodyPost _ _ _ _ _ (set5 (w1.alloc (.cells #[.int .i64 0, .int .i64 0, .int .i64 0, .slice none 0 0, .int .i64 0] 30)) w.heap.size (.int .i64 0) (.int .i64 0) (.int .i64 0) (.slice none 0 0) (.int .i64 0))
  generalize set5 (w1.alloc (.cells #[.int .i64 0, .int .i64 0, .int .i64 0, .slice none 0 0, .int .i64 0] 30)) w.heap.size (.int .i64 0) (.int .i64 0) (.int .i64 0) (.slice none 0 0) (.int .i64 0) = W9 at *
  refine bodyPost_ret (v := .tuple #[.agg #[.int .i64 0, .int .i64 0, .int .i64 0, .slice none 0 0, .int .i64 0], .bool false]) (by simp [results, Try.results8, go_sem, s0, s1, s2, s3, s4]) rfl ⟨rfl, s5⟩
theorem set5_chg {S : Nat → Prop} {w0 w : World} {N : Nat} {v0 v1 v2 v3 v4 : Value} (h : Chg S w0 w) (hN : w0.heap.size ≤ N) : Chg S w0 (set5 w N v0 v1 v2 v3 v4) :=
  ((((h.setCell (p := ⟨N, 0, none⟩) (.inr hN) v0).setCell (p := ⟨N, 1, none⟩) (.inr hN) v1).setCell (p := ⟨N, 2, none⟩) (.inr hN) v2).setCell (p := ⟨N, 3, none⟩) (.inr hN) v3).setCell (p := ⟨N, 4, none⟩) (.inr hN) v4
set_option maxHeartbeats 4000000 in
theorem close_some (id : Int) (w : World) (h : Tof w b mo mf ma most last lo lf la) (x : Ox) (hg : mget lo id = some x) (hlen : x.1.vec.length ≤ 700) :
    Calls Try.prog 8 #[.pointer (some ⟨b, 0, none⟩), .int .i64 id] w (CloS b mo mf ma most last lo lf la id x.1 w) := by
  have hR := RSt.start w
  have KG := Lib.hid (get_some id _ (h.below hR.chg) x hg hlen)
  have HT := Lib.hid h
  have HG := Lib.hid hg
  have HSH := Lib.hid (fun (w' : World) (lf' la' : List (Int × Nat)) => Tog.shrunk (w := w') (b := b) (mo := mo) (mf := mf) (ma := ma) (most := most) (last := last) (lf := lf') (la := la') id x hg h.rise h.ids h.last0)
  have HIF := Lib.hid (idsP_in (p := fun o => o.frame == x.1.frame) hg (by simp))
  have HIA := Lib.hid (idsP_in (p := fun o => o.agent == x.1.agent) hg (by simp))
  obtain ⟨⟨oid, ofr, oag, ovec, otill⟩, va, vc⟩ := x
  simp only at KG HSH HIF HIA ⊢
  have HR := Lib.hid hR
  clear h hg hR hlen
  go_enter Try.func8, Try.ntmps8
  go_wp2_with fail
  refine KG.out.mono ?_
  rintro e w1 ⟨va', vc', rfl, hpa, hb1⟩
  have HR1 := Lib.hid ((HR.out.below hb1 HR.out.lt).below ((Below.refl _ w1).alloc (Nat.le_refl _) (.cells #[.int .i64 oid, .int .i64 ofr, .int .i64 oag, .slice va' ovec.length vc', .int .i64 otill] 30)) (by have := (HR.out.below hb1 HR.out.lt).lt; exact this))
  have HN := Lib.hid (blk_new w1 (.cells #[.int .i64 oid, .int .i64 ofr, .int .i64 oag, .slice va' ovec.length vc', .int .i64 otill] 30))
  have HNG := Lib.hid (show w.heap.size + 1 ≤ w1.heap.size from (HR.out.below hb1 HR.out.lt).lt)
  have HPA := Lib.hid (hpa.keep (T' := fun i => w.heap.size + 1 ≤ i ∧ i < w1.heap.size) (w' := w1.alloc (.cells #[.int .i64 oid, .int .i64 ofr, .int .i64 oag, .slice va' ovec.length vc', .int .i64 otill] 30)) (fun i hi => Below.heap_alloc _ _ _ hi.2) (fun i hi => ⟨by have h9 := hi.1; simpa using h9, hi.2⟩))
  have HG3 := Lib.hid (HT.out.tog.below HR1.out.chg)
  have HC3 := Lib.hid (Chg.of_below HR1.out.chg (Own b mo mf ma lf la))
  have HRES := Lib.hid HR1.out.res
  clear hb1 KG HR hpa HR1
  have c2 := HG3.out.cells.2.2.1
  obtain ⟨o5, s5, m5⟩ := del43 HG3.out.offers id 0
  have HG4 := Lib.hid (HG3.out.store m5 (fun p hp => HG3.out.vec p ((mdel_sub lo id).subset hp)))
  have HMO := Lib.hid (IsMap.isMapB HG3.out.offers)
  go_wp2_with fail
  have HOWN := Lib.hid HT.out.own_lt
  have hmow : mo < w.heap.size := HOWN.out mo (.inr (.inl rfl))
  have HRES4 := Lib.hid (blk_setB_far (o' := o5) HRES.out (Nat.ne_of_gt hmow))
  have hmow1 : mo < w1.heap.size := by have := HNG.out; omega
  have HN4 := Lib.hid (blk_setB_far (o' := o5) HN.out (Nat.ne_of_gt hmow1))
  have HPA4 := Lib.hid (HPA.out.keep (T' := fun i => w.heap.size + 1 ≤ i ∧ i < w1.heap.size) (w' := setB (w1.alloc (.cells #[.int .i64 oid, .int .i64 ofr, .int .i64 oag, .slice va' ovec.length vc', .int .i64 otill] 30)) mo o5) (fun i hi => setB_far (Nat.ne_of_gt (by have := hi.1; omega))) (fun _ h => h))
  have HC4 := Lib.hid (HC3.out.setB (r := mo) (.inl (.inr (.inl rfl))) o5)
  clear hmow hmow1 HRES HN HPA HC3 HG3 s5 m5 c2 HMO
  generalize setB (w1.alloc (.cells #[.int .i64 oid, .int .i64 ofr, .int .i64 oag, .slice va' ovec.length vc', .int .i64 otill] 30)) mo o5 = W4 at *
  have HGD := Lib.hid (HG4.out.below (below_drew (Below.refl _ W4)))
  have HS4 := Lib.hid HC4.out.size
  obtain ⟨c0, c1, c2, c3, c4⟩ := HG4.out.cells
  have n1 := blk_cell HN4.out 1
  have n2 := blk_cell HN4.out 2
  have KD := Lib.hid (drop_calls mf lf _ ofr id _ HGD.out.of' HIF.out)
  go_region_held3 (fun w' => w'.cell? ⟨b, 3, none⟩ = some (.map (some mf)) ∧ w'.cell? ⟨w1.heap.size, 1, none⟩ = some (.int .i64 ofr)) (go_keep)
    ((go_at_call 24; refine KD.out.mono ?_; rintro e w5 ⟨rfl, lf', hs5, ho5, hc5⟩; have HO5 := Lib.hid ho5; have HCF := Lib.hid hc5; have HG5 := Lib.hid (HGD.out.putF hs5 ho5 hc5); have HC5 := Lib.hid (HC4.out.drew.trans (hc5.mono (T := Own b mo mf ma lf la) (fun i hi => .inr (.inr (.inl hi))))); have HN5 := Lib.hid (hc5.blk HN4.out (fun hown => by have := HOWN.out _ (.inr (.inr (.inl hown))); have := HNG.out; omega)); obtain ⟨z0, z1, z2, z3, z4⟩ := HG5.out.cells; have y1 := blk_cell HN5.out 1; have y2 := blk_cell HN5.out 2; clear hs5 ho5 hc5))
  have HRES5 := Lib.hid (HCF.out.blk HRES4.out (fun hown => by have := HOWN.out _ (.inr (.inr (.inl hown))); omega))
  have HPA5 := Lib.hid (HPA4.out.keep (T' := fun i => w.heap.size + 1 ≤ i ∧ i < w1.heap.size) (w' := w5) (fun i hi => HCF.out.block i (by have := blk_lt HN4.out; have := hi.2; exact Nat.lt_trans ‹i < _› ‹_ < _›) (fun hown => by have := HOWN.out _ (.inr (.inr (.inl hown))); have := hi.1; omega)) (fun _ h => h))
  clear c0 c1 c2 c3 c4 n1 n2 HCF HRES4 HPA4 HN4 HC4 HG4 HGD KD
  have HGE := Lib.hid (HG5.out.below (below_drew (Below.refl _ w5)))
  have HS5 := Lib.hid HC5.out.size
  have KE := Lib.hid (drop_calls ma la _ oag id _ HGE.out.on' HIA.out)
  go_wp2_with fail
  go_region_held3 (fun w' => w'.cell? ⟨b, 4, none⟩ = some (.map (some ma)) ∧ w'.cell? ⟨w1.heap.size, 2, none⟩ = some (.int .i64 oag)) (go_keep)
    ((go_at_call 24; refine KE.out.mono ?_; rintro e w7 ⟨rfl, la', hs7, ho7, hc7⟩; have HO7 := Lib.hid ho7; have HCF := Lib.hid hc7; have HG7 := Lib.hid (HGE.out.putA hs7 ho7 hc7); have HC7 := Lib.hid (HC5.out.drew.trans (hc7.mono (T := Own b mo mf ma lf la) (fun i hi => .inr (.inr (.inr hi))))); have HN7 := Lib.hid (hc7.blk HN5.out (fun hown => by have := HOWN.out _ (.inr (.inr (.inr hown))); have := HNG.out; omega)); obtain ⟨x0, x1, x2, x3, x4⟩ := HG7.out.cells; have u1 := blk_cell HN7.out 1; have u2 := blk_cell HN7.out 2; clear hs7 ho7 hc7))
  have HRES7 := Lib.hid (HCF.out.blk HRES5.out (fun hown => by have := HOWN.out _ (.inr (.inr (.inr hown))); omega))
  have HPA7 := Lib.hid (HPA5.out.keep (T' := fun i => w.heap.size + 1 ≤ i ∧ i < w1.heap.size) (w' := w7) (fun i hi => HCF.out.block i (by have := blk_lt HN5.out; have := hi.2; exact Nat.lt_trans ‹i < _› ‹_ < _›) (fun hown => by have := HOWN.out _ (.inr (.inr (.inr hown))); have := hi.1; omega)) (fun _ h => h))
  clear z0 z1 z2 z3 z4 y1 y2 x0 x1 x2 x3 x4 HCF HRES5 HPA5 HN5 HC5 HG5 HGE KE
  have u0 := blk_cell HN7.out 0
  have u3 := blk_cell HN7.out 3
  have u4 := blk_cell HN7.out 4
  have f0 := blk_frozen HRES7.out 0
  have f1 := blk_frozen HRES7.out 1
  have f2 := blk_frozen HRES7.out 2
  have f3 := blk_frozen HRES7.out 3
  have f4 := blk_frozen HRES7.out 4
  have r0 := blk_cell HRES7.out 0
  have r1 := blk_cell HRES7.out 1
  have r2 := blk_cell HRES7.out 2
  have r3 := blk_cell HRES7.out 3
  have r4 := blk_cell HRES7.out 4
  go_wp2_with fail
  have hTF := HSH.out w7 lf' la' HG7.out
  have hfar : ∀ i, i ≠ w.heap.size → (set5 w7 w.heap.size (.int .i64 oid) (.int .i64 ofr) (.int .i64 oag) (.slice va' ovec.length vc') (.int .i64 otill)).heap[i]? = w7.heap[i]? := fun i hi => set5_far hi
  have hTF9 := Lib.hid (hTF.keep (fun i hi => hfar i (fun e => hTF.no30 i _ (e ▸ HRES7.out) hi)) (fun i c hc => hfar i (fun e => by rw [e, HRES7.out] at hc; simp at hc)))
  have hPA9 := Lib.hid (HPA7.out.keep (T' := New w (set5 w7 w.heap.size (.int .i64 oid) (.int .i64 ofr) (.int .i64 oag) (.slice va' ovec.length vc') (.int .i64 otill))) (fun i hi => hfar i (by have := hi.1; omega)) (fun i hi => ⟨by have := hi.1; omega, by rw [set5_size]; have := blk_lt HN7.out; have := hi.2; exact Nat.lt_trans ‹i < _› ‹_ < _›⟩))
  have e9 := set5_blk (v0 := .int .i64 oid) (v1 := .int .i64 ofr) (v2 := .int .i64 oag) (v3 := .slice va' ovec.length vc') (v4 := .int .i64 otill) HRES7.out
  have s0 := blk_cell e9 0
  have s1 := blk_cell e9 1
  have s2 := blk_cell e9 2
  have s3 := blk_cell e9 3
  have s4 := blk_cell e9 4
  have HC9 := Lib.hid (set5_chg (v0 := .int .i64 oid) (v1 := .int .i64 ofr) (v2 := .int .i64 oag) (v3 := .slice va' ovec.length vc') (v4 := .int .i64 otill) HC7.out (Nat.le_refl _))
  clear hTF hfar e9
  change bodyPost _ _ _ _ _ (set5 w7 w.heap.size (.int .i64 oid) (.int .i64 ofr) (.int .i64 oag) (.slice va' ovec.length vc') (.int .i64 otill))
  generalize set5 w7 w.heap.size (.int .i64 oid) (.int .i64 ofr) (.int .i64 oag) (.slice va' ovec.length vc') (.int .i64 otill) = W9 at *
  refine bodyPost_ret (v := .tuple #[.agg #[.int .i64 oid, .int .i64 ofr, .int .i64 oag, .slice va' ovec.length vc', .int .i64 otill], .bool true]) (by simp [results, Try.results8, go_sem, s0, s1, s2, s3, s4]) rfl ⟨va', vc', rfl, hPA9.out, lf', la', hTF9.out, fun i hi => ?_, HC9.out⟩
  rcases hi with rfl | rfl | hi | hi
  · exact .inl (.inl rfl)
  · exact .inl (.inr (.inl rfl))
  · rcases HO5.out i hi with h1 | h1
    · exact .inl (.inr (.inr (.inl h1)))
    · exact .inr (Nat.le_trans HS4.out h1)
  · rcases HO7.out i hi with h1 | h1
    · exact .inl (.inr (.inr (.inr h1)))
    · exact .inr (Nat.le_trans HS5.out h1)
end
end Go.Proofs.Ytecgfghmmlpghaa.O
