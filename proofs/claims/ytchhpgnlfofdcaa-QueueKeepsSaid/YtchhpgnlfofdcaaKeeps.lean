/- QueueKeeps, walked. -/
import Derived.Test.YtchhpgnlfofdcaaNil
import Derived.Test.YtchhpgnlfofdcaaLawK
import Derived.Outline
set_option linter.unusedVariables false
set_option linter.unusedSimpArgs false
namespace Go.Proofs.Ytchhpgnlfofdcaa.Q
open Go.RowKit Go.Sort Go.Proofs.Ytchhpgnlfofdcaa.Hp Go.Proofs.Ytchhpgnlfofdcaa.Mp
set_option maxRecDepth 100000

theorem row_keep {w w' : World} {base : Nat} {e : TypeId} {size n : Nat} {v : Value} {xs : List Value} (h : w.ownsRow base e size v n xs) (hk : ∀ g, v.ownBlock = some g → w'.heap[g]? = w.heap[g]?) : w'.ownsRow base e size v n xs :=
  ⟨h.1, h.2.imp id fun ⟨g, cap, cur, e1, e2, e3, e4⟩ => ⟨g, cap, cur, e1, e2, (hk g (by rw [e1]; rfl)).trans e3, e4⟩⟩
/-- Where QueueKeeps is. -/
structure Ks (w wr : World) (b m : Nat) (most frame : Int) (es : List Ev) (k : Nat) (l : List (Int × Qr)) (xs : List Ex) (v : Value) : Prop where
  tq : Tq wr b m most l
  own : ∀ i, Own m l i → w.heap.size ≤ i
  abs : abs l = putsF most [(frame, ([], 0))] (es.take k)
  bd : Bd k l
  row : wr.ownsRow w.heap.size 28 5 v xs.length (flatX xs)
  no : ∀ g, v.ownBlock = some g → ¬ Own m l g
  vec : ∀ x ∈ xs, PAt (Lt w.heap.size) wr x.2.1 x.1.vec
  chg : Below w.heap.size w wr
section
variable {w wr w1 w' : World} {b m k : Nat} {most frame : Int} {es : List Ev} {l l' : List (Int × Qr)} {xs : List Ex} {v v' : Value}
theorem Ks.below (h : Ks w wr b m most frame es k l xs v) (hb : Below wr.heap.size wr w') : Ks w w' b m most frame es k l xs v :=
  ⟨h.tq.below hb, h.own, h.abs, h.bd, row_keep h.row (fun g hg => by obtain ⟨cs, ht⟩ := row_tag h.row hg.symm; exact hb.block g (blk_lt ht)), h.no, fun x hx => (h.vec x hx).keep (fun i hi => hb.block i (Nat.lt_of_lt_of_le hi h.chg.size)) (fun i hi => hi), h.chg.trans (hb.mono h.chg.size)⟩
/-- Behind a Put of the next event. -/
theorem Ks.put {e : Ev} (h : Ks w wr b m most frame es k l xs v) (hk : k < es.length) (he : es[k] = e) (hq : Qs wr w' b m most l l') (ha : Q.abs l' = putsF most (Q.abs l) [e]) (hb : Bd (k + 1) l') : Ks w w' b m most frame es (k + 1) l' xs v := by
  have hrowlt : ∀ g, v.ownBlock = some g → g < wr.heap.size := fun g hg => by obtain ⟨cs, ht⟩ := row_tag h.row hg.symm; exact blk_lt ht
  have hch : Below w.heap.size w w' := h.chg.trans (hq.chg.below h.own h.chg.size)
  refine ⟨hq.tq, fun i hi => ?_, ?_, hb, row_keep h.row (fun g hg => hq.chg.block g (hrowlt g hg) (h.no g hg)), fun g hg ho => ?_, fun x hx => ?_, hch⟩
  · rcases hq.own i hi with h1 | h1
    · exact h.own i h1
    · have := h.chg.size; omega
  · rw [ha, h.abs, putsF_take most _ es k hk, he]
    rfl
  · rcases hq.own g ho with h1 | h1
    · exact h.no g hg h1
    · have := hrowlt g hg; omega
  · exact (h.vec x hx).keep (fun i hi => hq.chg.block i (Nat.lt_of_lt_of_le hi h.chg.size) (fun ho => by have := h.own i ho; have : i < w.heap.size := hi; omega)) (fun i hi => hi)
/-- Behind an append to the own row. -/
theorem Ks.app (h : Ks w wr b m most frame es k l xs v) {x : Ex} (hx : PAt (Lt w.heap.size) wr x.2.1 x.1.vec) {o : Obj} {w4 : World} {g4 c4 : Nat} (hg : (wr.alloc o).grownBy w4 v.ownBlock)
    (ho : w4.ownsRow w.heap.size 28 5 (.slice (some ⟨g4, 0, none⟩) (xs.length + 1) c4) (xs.length + 1) (flatX xs ++ flatX [x])) (hat : v.ownBlock = some g4 ∨ g4 = (wr.alloc o).heap.size) : Ks w w4 b m most frame es k l (xs ++ [x]) (.slice (some ⟨g4, 0, none⟩) (xs ++ [x]).length c4) := by
  have hsa : wr.heap.size ≤ (wr.alloc o).heap.size := by simp
  have hrow := h.row
  have hold : ∀ j, j < wr.heap.size → some j ≠ v.ownBlock → w4.heap[j]? = wr.heap[j]? := fun j hj hn => by
    rw [hg.block j (by omega) hn]
    exact Below.heap_alloc _ _ _ hj
  have htag : ∀ j (ob : Obj), wr.heap[j]? = some ob → (∀ cs, ob ≠ .cells cs 28 (0, 0)) → w4.heap[j]? = wr.heap[j]? := fun j ob hj hne => by
    refine hold j (blk_lt hj) (fun e => ?_)
    obtain ⟨cs, ht⟩ := row_tag hrow e
    rw [hj] at ht
    injection ht with ht
    exact hne cs ht
  have hown : ∀ i, Own m l i → w4.heap[i]? = wr.heap[i]? := fun i hi => hold i (h.tq.own_lt i hi) (fun e => h.no i e.symm hi)
  refine ⟨h.tq.keep (htag b _ h.tq.blk (by simp)) hown (fun i c hc => htag i _ hc (by simp)), h.own, h.abs, h.bd, ?_, fun gg hgg ho' => ?_, fun y hy => ?_, ?_⟩
  · rw [List.length_append, flatX_append]
    exact ho
  · simp only [Value.ownBlock, Option.some.injEq] at hgg
    subst hgg
    rcases hat with h1 | h1
    · exact h.no _ h1 ho'
    · have := h.tq.own_lt _ ho'; omega
  · have hlow : ∀ i, Lt w.heap.size i → w4.heap[i]? = wr.heap[i]? := fun i hi => hold i (Nat.lt_of_lt_of_le hi h.chg.size) (fun e => by have := row_own hrow e; have : i < w.heap.size := hi; omega)
    rcases List.mem_append.1 hy with hy | hy
    · exact (h.vec y hy).keep hlow (fun i hi => hi)
    · have : y = x := by simpa using hy
      rw [this]
      exact hx.keep hlow (fun i hi => hi)
  · refine ⟨hg.os.trans h.chg.os, hg.tape.trans h.chg.tape, hg.output.trans h.chg.output, by have := hg.size; have := h.chg.size; omega, fun j hj => ?_⟩
    rw [hold j (Nat.lt_of_lt_of_le hj h.chg.size) (fun e => by have := row_own hrow e; omega)]
    exact h.chg.block j hj
end
/-- The own row from a place on. -/
theorem Ks.tail {w wr : World} {b m k : Nat} {most frame : Int} {es : List Ev} {l : List (Int × Qr)} {xs : List Ex} {gq fd : Nat} (h : Ks w wr b m most frame es k l xs (.slice (some ⟨gq, 0, none⟩) xs.length fd)) (hn : 0 < xs.length) (d : Nat) :
    ERow (fun i => i < wr.heap.size ∧ ¬ Own m l i) wr (some ⟨gq, d * 5, none⟩) ((xs.map (·.1)).drop d) ∧ xs.length ≤ fd := by
  have hrow := h.row
  rcases hrow.2 with ⟨e, _⟩ | ⟨g, cap, cur, e, hb, hbk, h1, h2, h3, h4⟩
  · simp at e
  · injection e with e1 e2 e3
    injection e1 with e1
    injection e1 with e1
    subst e1
    subst e3
    refine ⟨⟨gq, d * 5, fun _ => ⟨rfl, blk_lt hbk, h.no gq rfl⟩, fun j hj => ?_⟩, h1⟩
    rw [List.length_drop, List.length_map] at hj
    have hj2 : d + j < xs.length := by omega
    have key : ∀ i, i < 5 → wr.cell? ⟨gq, d * 5 + j * 5 + i, none⟩ = (cellsE xs[d + j].1 xs[d + j].2.1 xs[d + j].2.2)[i]? := by
      intro i hi
      rw [blk_cell hbk, ← Array.getElem?_toList, ← flatX_get xs (d + j) i hj2 hi, ← h4, List.getElem?_take_of_lt (by omega)]
      congr 1
      omega
    rw [List.getElem_drop, List.getElem_map]
    refine ⟨xs[d + j].2.1, xs[d + j].2.2, key 0 (by omega), key 1 (by omega), key 2 (by omega), key 3 (by omega), key 4 (by omega), ?_⟩
    exact (h.vec _ (List.getElem_mem hj2)).keep (fun _ _ => rfl) (fun i hi => ⟨Nat.lt_of_lt_of_le hi h.chg.size, fun ho => by have := h.own i ho; have : i < w.heap.size := hi; omega⟩)
theorem about_take (frame : Int) (es : List Ev) (k : Nat) (h : k < es.length) : about frame (es.take (k + 1)) = about frame (es.take k) ++ (if es[k].frame = frame then [es[k]] else []) := by
  unfold about
  rw [List.take_add_one, List.getElem?_eq_getElem h, Option.toList_some, List.filter_append, List.filter_cons]
  by_cases e : es[k].frame = frame <;> simp [e]
theorem about_len (frame : Int) (es : List Ev) : (about frame es).length ≤ es.length := List.length_filter_le _ _

set_option maxHeartbeats 8000000 in
theorem keeps_walk (hS : SortC) (most : Int) (fa : Option Addr) (g o fc : Nat) (es : List Ev) (frame : Int) (w : World) (hmr : most ≤ 9223372036854775807) (hrow : EAt (Lt w.heap.size) w fa g o es) :
    Calls Try.prog 3 #[.int .i64 most, .slice fa es.length fc, .int .i64 frame] w fun e w' => e = .returned (.bool true) ∧ Below w.heap.size w w' := by
  by_cases hbig : 200 < (es.length : Int)
  · clear hrow hS hmr
    go_enter Try.func3, Try.ntmps3
    go_wp2
    go_ret
    exact ⟨rfl, Below.refl _ _⟩
  have p1 : decide (200 < (es.length : Int)) = false := decide_eq_false hbig
  by_cases hm : most < 1
  · clear hrow hS hbig hmr
    go_enter Try.func3, Try.ntmps3
    go_wp2
    go_ret
    exact ⟨rfl, Below.refl _ _⟩
  have p2 : decide (most < 1) = false := decide_eq_false hm
  have HROW := Lib.hid hrow
  have HSO := Lib.hid hS
  have HL := Lib.hid (show es.length ≤ 200 by omega)
  have HM := Lib.hid (show 1 ≤ most by omega)
  have HMR := Lib.hid hmr
  clear hmr
  clear hbig hm hrow hS
  go_enter Try.func3, Try.ntmps3
  go_wp2_with fail
  refine (new_yes most _ HM.out).mono ?_
  rintro e w1 ⟨rfl, hT, hB⟩
  have HT1 := Lib.hid hT
  have HB1 := Lib.hid hB
  clear hT hB
  go_wp2_with fail
  refine (open_yes frame _ HT1.out (by have := HM.out; omega) rfl).mono ?_
  rintro e w2 ⟨rfl, hT2, hC2⟩
  have HK : Hid (Ks w w2 (w.heap.size + 1) w.heap.size most frame es 0 [(frame, freshQ w1.heap.size)] [] (.slice none 0 0)) := by
    refine Lib.hid ⟨hT2, fun i hi => ?_, rfl, fun k q hk => ?_, ⟨rfl, .inl ⟨rfl, rfl⟩⟩, fun g hg => by simp [Value.ownBlock] at hg, by simp, HB1.out.trans (hC2.below (fun i hi => by omega) HB1.out.size)⟩
    · rcases hi with rfl | ⟨k, q, hk, hi⟩
      · exact Nat.le_refl _
      · simp only [mget] at hk
        split at hk
        · injection hk with hk
          rw [← hk] at hi
          have := HB1.out.size
          rcases hi with rfl | rfl <;> simp only [freshQ] <;> omega
        · simp at hk
    · simp only [mget] at hk
      split at hk
      · injection hk with hk; rw [← hk]; simp [freshQ]
      · simp at hk
  clear hT2 hC2 HT1 HB1
  go_wp2_with fail
  go_loopg [8, 9] es.length (fun gg u i wr => ∃ (k : Nat) (l : List (Int × Qr)) (xs : List Ex) (fb : Option Addr) (fd : Nat), k ≤ es.length ∧ gg = es.length - k ∧ u = .slice fb xs.length fd ∧ i = .int .i64 k ∧ Hid (Ks w wr (w.heap.size + 1) w.heap.size most frame es k l xs (.slice fb xs.length fd)) ∧ Hid (∀ e ∈ es.take k, e.vec.length ≤ 150) ∧ Hid (xs.map (·.1) = about frame (es.take k)) ∧ Hid (xs = [] → fb = none ∧ fd = 0))
  case atStart => exact ⟨0, _, [], none, 0, by omega, rfl, rfl, rfl, HK, Lib.hid (by simp), Lib.hid (by simp [about]), Lib.hid (fun _ => ⟨rfl, rfl⟩)⟩
  case round =>
    obtain ⟨k, l, xs, fb, fd, hk, rfl, rfl, rfl, H, HV, HXS, HNI⟩ := hrel
    clear HK
    by_cases hlt : k < es.length
    · obtain ⟨h1, h2⟩ := HROW.out.lt (by omega)
      subst h1
      obtain ⟨va, vc, hev⟩ := HROW.out.at' k hlt
      have hk1 : ∀ i, Lt w.heap.size i → wr.heap[i]? = w.heap[i]? := fun i hi => H.out.chg.block i hi
      obtain ⟨y0, y1, y2, y3, y4, hvp⟩ := hev.keep (T' := Lt w.heap.size) (hk1 g h2) hk1 (fun i hi => hi)
      have hki : (k : Int) < (es.length : Int) := by omega
      have hk0 : (0 : Int) ≤ (k : Int) := by omega
      have hw : IntKind.i64.wrap ((k : Int) + 1) = (k : Int) + 1 := IntWalk.i64_in _ (by have := HL.out; omega)
      have HLT := Lib.hid hlt
      have HVP := Lib.hid hvp
      have HEA := Lib.hid hev
      have HG2 := Lib.hid h2
      have HAB := Lib.hid (about_take frame es k hlt)
      have HEV := Lib.hid (show es[k]? = some es[k] from List.getElem?_eq_getElem hlt)
      clear hvp hev h2 hk1
      generalize es[k] = ev at *
      by_cases hv : 150 < (ev.vec.length : Int)
      · go_wp2
        go_ret
        exact ⟨rfl, H.out.chg⟩
      · have hv1 : decide (150 < (ev.vec.length : Int)) = false := decide_eq_false hv
        have HVL := Lib.hid (show ev.vec.length ≤ 150 by omega)
        clear hv
        obtain ⟨i0, hi, hz0, hz1, hz2⟩ := info_parts info28
        have HXL := Lib.hid (show xs.length ≤ 200 by have := congrArg List.length HXS.out; rw [List.length_map] at this; have := about_len frame (es.take k); have := HL.out; simp at *; omega)
        have HSW := Lib.hid H.out.chg.size
        by_cases hf : ev.frame = frame
        · have hq : (ev.frame == frame) = true := by rw [hf]; exact beq_self_eq_true _
          have HF := Lib.hid hf
          clear hf
          go_wp2_with (at_builtin; refine wpList_append_lies _ rfl _ _ 22 rfl w.heap.size 28 i0 (.agg #[.int .i64 0, .int .i64 0, .int .i64 0, .int .i64 0, .slice none 0 0]) 5 56 Try.underlying22 hi hz0 hz1 hz2 rfl (by decide) (.slice fb xs.length fd) xs.length (flatX xs) rfl (H.out.row.alloc _) ⟨wr.heap.size, 0, none⟩ 1 1 (flatX [(ev, va, vc)]) rfl rfl (cells_new _ _ _ _ rfl) (one_five ev va vc) (by decide) (by have := HXL.out; unfold maxLen; omega) (by have := HXL.out; omega) (by have := HSW.out; simp; omega) _ rfl ?_; intro g4 c4 w4 hown4 hg4 hat4 hlt4; have H4 := Lib.hid (H.out.app (x := (ev, va, vc)) HVP.out hg4 hown4 hat4); obtain ⟨z0, z1, z2, z3, z4, hz⟩ := HEA.out.keep (w' := w4) (T' := Lt w.heap.size) (H4.out.chg.block g HG2.out) (fun i hi => H4.out.chg.block i hi) (fun i hi => hi); have HZ := Lib.hid hz; clear hz hown4 hg4 hat4 hlt4)
          have hblk := blk_new w4 (.cells #[.int .i64 ev.kind, .int .i64 ev.frame, .int .i64 ev.id, .int .i64 ev.agent, .slice va ev.vec.length vc] 28)
          have hb5 := (Below.refl _ w4).alloc (Nat.le_refl _) (.cells #[.int .i64 ev.kind, .int .i64 ev.frame, .int .i64 ev.id, .int .i64 ev.agent, .slice va ev.vec.length vc] 28)
          have H5 := Lib.hid (H4.out.below hb5)
          have hT5 : ∀ i, (i = (w4).heap.size ∨ i < w.heap.size) → i < ((w4).alloc (.cells #[.int .i64 ev.kind, .int .i64 ev.frame, .int .i64 ev.id, .int .i64 ev.agent, .slice va ev.vec.length vc] 28)).heap.size ∧ ¬ Own w.heap.size l i := fun i hi => by
            have h6 := H4.out.chg.size
            rcases hi with rfl | hi
            · exact ⟨by simp, fun ho => by have := H4.out.tq.own_lt _ ho; omega⟩
            · exact ⟨by simp; omega, fun ho => by have := H4.out.own i ho; omega⟩
          have hrow5 : EAt (fun i => i = (w4).heap.size ∨ i < w.heap.size) ((w4).alloc (.cells #[.int .i64 ev.kind, .int .i64 ev.frame, .int .i64 ev.id, .int .i64 ev.agent, .slice va ev.vec.length vc] 28)) (some ⟨(w4).heap.size, 0, none⟩) (w4).heap.size 0 [ev] := by
            refine ⟨fun _ => ⟨rfl, .inl rfl⟩, fun j hj => ?_⟩
            match j, hj with
            | 0, _ => exact ⟨va, vc, blk_cell hblk 0, blk_cell hblk 1, blk_cell hblk 2, blk_cell hblk 3, blk_cell hblk 4, HZ.out.keep (fun i hi => hb5.block i (by have := H4.out.chg.size; have : i < w.heap.size := hi; omega)) (fun i hi => .inr hi)⟩
            | j + 1, hj => exact absurd hj (by simp)
          have K8 := Lib.hid (putAll_calls (w.heap.size + 1) w.heap.size most l _ _ _ _ 1 k [ev] _ H5.out.tq HM.out H4.out.bd (by have := HLT.out; have := HL.out; simp; omega) hT5 hrow5 (fun e he => by
            have : e = ev := by simpa using he
            rw [this]; have := HVL.out; omega))
          clear hblk hb5 hT5 hrow5
          go_wp2_with fail
          refine K8.out.mono ?_
          rintro e w6 ⟨l', rfl, hq6, ha6, hb6⟩
          have HLT' := HLT.out
          have hev6 : es[k]'HLT' = ev := by have := HEV.out; rw [List.getElem?_eq_getElem HLT'] at this; exact Option.some.inj this
          have H6 := Lib.hid (H5.out.put HLT' hev6 hq6 ha6 hb6)
          have HV6 := Lib.hid (show ∀ e ∈ es.take (k + 1), e.vec.length ≤ 150 from fun e he => by
            rw [List.take_add_one, HEV.out, Option.toList_some] at he
            rcases List.mem_append.1 he with he | he
            · exact HV.out e he
            · have : e = ev := by simpa using he
              rw [this]; exact HVL.out)
          have HXS6 : Hid ((xs ++ [(ev, va, vc)]).map (·.1) = about frame (es.take (k + 1))) := by
            rw [HAB.out]
            rw [if_pos HF.out, List.map_append, HXS.out]; exact Lib.hid rfl
          clear hq6 ha6 hb6 K8 hev6 HLT' H5
          go_wp2
          go_roundg (es.length - (k + 1))
          case measure => have := HLT.out; omega
          case rel => exact ⟨k + 1, l', xs ++ [(ev, va, vc)], _, _, HLT.out, rfl, by first | rfl | (simp), by go_num, H6, HV6, HXS6, Lib.hid (fun h => by simp at h)⟩
        · have hq : (ev.frame == frame) = false := by rw [beq_eq_false_iff_ne]; exact hf
          have HF := Lib.hid hf
          clear hf
          have hblk := blk_new wr (.cells #[.int .i64 ev.kind, .int .i64 ev.frame, .int .i64 ev.id, .int .i64 ev.agent, .slice va ev.vec.length vc] 28)
          have hb5 := (Below.refl _ wr).alloc (Nat.le_refl _) (.cells #[.int .i64 ev.kind, .int .i64 ev.frame, .int .i64 ev.id, .int .i64 ev.agent, .slice va ev.vec.length vc] 28)
          have H5 := Lib.hid (H.out.below hb5)
          have hT5 : ∀ i, (i = (wr).heap.size ∨ i < w.heap.size) → i < ((wr).alloc (.cells #[.int .i64 ev.kind, .int .i64 ev.frame, .int .i64 ev.id, .int .i64 ev.agent, .slice va ev.vec.length vc] 28)).heap.size ∧ ¬ Own w.heap.size l i := fun i hi => by
            have h6 := H.out.chg.size
            rcases hi with rfl | hi
            · exact ⟨by simp, fun ho => by have := H.out.tq.own_lt _ ho; omega⟩
            · exact ⟨by simp; omega, fun ho => by have := H.out.own i ho; omega⟩
          have hrow5 : EAt (fun i => i = (wr).heap.size ∨ i < w.heap.size) ((wr).alloc (.cells #[.int .i64 ev.kind, .int .i64 ev.frame, .int .i64 ev.id, .int .i64 ev.agent, .slice va ev.vec.length vc] 28)) (some ⟨(wr).heap.size, 0, none⟩) (wr).heap.size 0 [ev] := by
            refine ⟨fun _ => ⟨rfl, .inl rfl⟩, fun j hj => ?_⟩
            match j, hj with
            | 0, _ => exact ⟨va, vc, blk_cell hblk 0, blk_cell hblk 1, blk_cell hblk 2, blk_cell hblk 3, blk_cell hblk 4, HVP.out.keep (fun i hi => hb5.block i (by have := H.out.chg.size; have : i < w.heap.size := hi; omega)) (fun i hi => .inr hi)⟩
            | j + 1, hj => exact absurd hj (by simp)
          have K8 := Lib.hid (putAll_calls (w.heap.size + 1) w.heap.size most l _ _ _ _ 1 k [ev] _ H5.out.tq HM.out H.out.bd (by have := HLT.out; have := HL.out; simp; omega) hT5 hrow5 (fun e he => by
            have : e = ev := by simpa using he
            rw [this]; have := HVL.out; omega))
          clear hblk hb5 hT5 hrow5
          go_wp2_with fail
          refine K8.out.mono ?_
          rintro e w6 ⟨l', rfl, hq6, ha6, hb6⟩
          have HLT' := HLT.out
          have hev6 : es[k]'HLT' = ev := by have := HEV.out; rw [List.getElem?_eq_getElem HLT'] at this; exact Option.some.inj this
          have H6 := Lib.hid (H5.out.put HLT' hev6 hq6 ha6 hb6)
          have HV6 := Lib.hid (show ∀ e ∈ es.take (k + 1), e.vec.length ≤ 150 from fun e he => by
            rw [List.take_add_one, HEV.out, Option.toList_some] at he
            rcases List.mem_append.1 he with he | he
            · exact HV.out e he
            · have : e = ev := by simpa using he
              rw [this]; exact HVL.out)
          have HXS6 : Hid ((xs).map (·.1) = about frame (es.take (k + 1))) := by
            rw [HAB.out]
            rw [if_neg HF.out, List.append_nil]; exact HXS
          clear hq6 ha6 hb6 K8 hev6 HLT' H5
          go_wp2
          go_roundg (es.length - (k + 1))
          case measure => have := HLT.out; omega
          case rel => exact ⟨k + 1, l', xs, _, _, HLT.out, rfl, by first | rfl | (simp), by go_num, H6, HV6, HXS6, HNI⟩
    · have hki : decide ((k : Int) < (es.length : Int)) = false := decide_eq_false (by omega)
      have htk : es.take k = es := List.take_of_length_le (by omega)
      have habs := H.out.abs
      have hxs := HXS.out
      have hvl := HV.out
      rw [htk] at habs hxs hvl
      have hone : putsF most [(frame, ([], 0))] es = [(frame, (lastN most (about frame es), (lostN most (about frame es).length : Int)))] := by
        have h0 := putsF_one HM.out frame es []
        rw [show lastN most [] = [] from List.drop_nil, show lostN most ([] : List Ev).length = 0 from Nat.zero_sub _, List.nil_append] at h0
        exact h0
      rw [hone] at habs
      obtain ⟨q, rfl, hq1, hq2⟩ := abs_one habs
      rw [← hxs] at hq1 hq2
      simp only at hq1 hq2
      have HQ1 := Lib.hid hq1
      have HQ2 := Lib.hid hq2
      have HN := Lib.hid (show xs.length ≤ 200 by have := congrArg List.length hxs; rw [List.length_map] at this; have := about_len frame es; have := HL.out; omega)
      have HVX := Lib.hid (show ∀ e ∈ xs.map (·.1), e.vec.length ≤ 150 from fun e he => hvl e (by rw [hxs] at he; exact (List.mem_filter.1 he).1))
      clear htk habs hxs hvl hone hq1 hq2 hk HV HXS
      obtain ⟨d, hd⟩ : ∃ d, d = lostN most (xs.map (·.1)).length := ⟨_, rfl⟩
      have hd2 : d = xs.length - most.toNat := by rw [hd, List.length_map]; rfl
      have HD := Lib.hid hd
      have HD2 := Lib.hid hd2
      clear hd hd2
      have hmx : (xs.length : Int) ≤ most ∧ ¬ most < (xs.length : Int) ∧ d = 0 ∨ most < (xs.length : Int) ∧ ¬ (xs.length : Int) ≤ most ∧ (d : Int) = (xs.length : Int) - most := by have := HD2.out; have := HM.out; omega
      have s1 : IntKind.i64.wrap ((xs.length : Int) - most) = (xs.length : Int) - most := IntWalk.i64_in _ (by have := HMR.out; have := HM.out; have := HN.out; omega)
      rcases hmx with ⟨hm1, hm1', hm2⟩ | ⟨hm1, hm1', hm2⟩
      · have HMD := Lib.hid hm2
        clear hm2
        have HEQ := Lib.hid (show q.evs = xs.map (·.1) by rw [HQ1.out]; have h := HD.out; rw [HMD.out] at h; unfold lastN; rw [← h]; rfl)
        have HLQ := Lib.hid (show q.evs.length = xs.length by rw [HEQ.out, List.length_map])
        have HTK := Lib.hid (show takeN q.evs (xs.length : Int) = q.evs.length by unfold takeN; rw [HLQ.out]; omega)
        have K9b : Hid (∀ W, Tq W (w.heap.size + 1) w.heap.size most [(frame, q)] → Calls Try.prog 9 #[.pointer (some ⟨w.heap.size + 1, 0, none⟩), .int .i64 frame] W fun e w' => e = .returned (.int .i64 0) ∧ W = w') := Lib.hid (fun W hW => by
          have h := lost_calls frame W hW
          rw [show lostF [(frame, q)] frame = 0 from by simp only [lostF, mget, if_pos]; rw [HQ2.out, ← HD.out, HMD.out]; rfl] at h
          exact h)
        have K10 : Hid (∀ W, Tq W (w.heap.size + 1) w.heap.size most [(frame, q)] → Calls Try.prog 10 #[.pointer (some ⟨w.heap.size + 1, 0, none⟩), .int .i64 frame] W fun e w' => e = .returned (.int .i64 (xs.length : Int)) ∧ W = w') := Lib.hid (fun W hW => by
          have h := long_calls frame W hW
          rw [show longF [(frame, q)] frame = (xs.length : Int) from by simp only [longF, mget, if_pos, HLQ.out]] at h
          exact h)
        have K12 : Hid (∀ W, Tq W (w.heap.size + 1) w.heap.size most [(frame, q)] → Calls Try.prog 12 #[.pointer (some ⟨w.heap.size + 1, 0, none⟩), .int .i64 frame, .int .i64 (xs.length : Int)] W fun e w' => ∃ fa fc, e = .returned (.slice fa xs.length fc) ∧ Qs W w' (w.heap.size + 1) w.heap.size most [(frame, q)] [(frame, { q with evs := [] })] ∧ ERow (fun i => i < w'.heap.size) w' fa (xs.map (·.1))) := Lib.hid (fun W hW => by
          refine (takeAll_calls (w.heap.size + 1) w.heap.size most [(frame, q)] frame (xs.length : Int) q W hW (by simp [mget]) (by rw [HLQ.out]; have := HN.out; omega)).mono fun e w' ⟨fa2, fc2, e1, e2, e3⟩ => ?_
          rw [HTK.out, List.take_length, HLQ.out] at e1
          rw [HTK.out, List.drop_length] at e2
          rw [HTK.out, List.take_length, HEQ.out] at e3
          refine ⟨fa2, fc2, e1, ?_, e3.keep (fun _ _ => rfl) (fun i hi => hi.1)⟩
          simpa [mput] using e2)
        have K11 : Hid (∀ (fa2 fb2 : Option Addr) (fc2 fd2 : Nat) (W : World), ERow (fun i => i < W.heap.size) W fa2 (xs.map (·.1)) → ERow (fun i => i < W.heap.size) W fb2 (xs.map (·.1)) → Calls Try.prog 11 #[.slice fa2 xs.length fc2, .slice fb2 xs.length fd2] W fun e w' => e = .returned (.bool true) ∧ ∃ n, w' = W.drewN n) := Lib.hid (fun fa2 fb2 fc2 fd2 W h1 h2 => by
          have h := sameEvents_calls _ fa2 fb2 fc2 fd2 (xs.map (·.1)) W (by rw [List.length_map]; have := HN.out; omega) (fun e he => by have := HVX.out e he; omega) h1 h2
          rw [List.length_map] at h
          exact h)
        have K10b : Hid (∀ W, Tq W (w.heap.size + 1) w.heap.size most [(frame, { q with evs := [] })] → Calls Try.prog 10 #[.pointer (some ⟨w.heap.size + 1, 0, none⟩), .int .i64 frame] W fun e w' => e = .returned (.int .i64 0) ∧ W = w') := Lib.hid (fun W hW => by
          have h := long_calls frame W hW
          rw [show longF [(frame, { q with evs := [] })] frame = 0 from by simp [longF, mget]] at h
          exact h)
        have s3 : IntKind.i64.wrap (xs.length : Int) = (xs.length : Int) := IntWalk.i64_in _ (by have := HN.out; omega)
        have z1 : (0 : Int) ≤ (xs.length : Int) := by omega
        by_cases hx0 : xs = []
        · obtain ⟨hx1, hx2⟩ := HNI.out hx0
          subst hx0 hx1 hx2
          have s0 : IntKind.i64.wrap 0 = 0 := rfl
          have K11n : Hid (∀ (fa2 fb2 : Option Addr) (fc2 fd2 : Nat) (W : World), Calls Try.prog 11 #[.slice fa2 0 fc2, .slice fb2 0 fd2] W fun e w' => e = .returned (.bool true) ∧ ∃ n, w' = W.drewN n) := Lib.hid (fun fa2 fb2 fc2 fd2 W => K11.out fa2 fb2 fc2 fd2 W (ERow.nil _ _ _) (ERow.nil _ _ _))
          have s6 : IntKind.i64.wrap (((List.length ([] : List Ex) : Nat) : Int) - most) = -most := by rw [show ((List.length ([] : List Ex) : Nat) : Int) - most = -most by simp]; exact IntWalk.i64_in _ (by have := HMR.out; have := HM.out; omega)
          have s5 : IntKind.i64.wrap (-most) = -most := IntWalk.i64_in _ (by have := HMR.out; have := HM.out; omega)
          have m1 : ¬ (0 : Int) < -most := by have := HM.out; omega
          clear s1 s3 z1 hm1 hm1'
          go_wp2_with fail
          go_region_held3 (fun w' => True) (trivial)
            (first
              | (go_at_call 9; refine (K9b.out _ (by exact (H.out.tq.below (below_drew (Below.refl _ _))))).mono ?_; rintro e w' ⟨rfl, rfl⟩)
              | (go_at_call 10; refine (K10.out _ (by exact (H.out.tq.below (below_drew (Below.refl _ _))))).mono ?_; rintro e w' ⟨rfl, rfl⟩)
              | (go_at_call 12; refine (K12.out _ (by exact (H.out.tq.below (below_drew (Below.refl _ _))))).mono ?_; rintro e w5 ⟨fa2, fc2, rfl, hq5, hr5⟩)
              | (go_at_call 11; refine (K11n.out _ _ _ _ _).mono ?_; rintro e w6 ⟨rfl, n6, rfl⟩)
              | (go_at_call 10; refine (K10b.out _ (by exact (hq5.tq.below (below_drewN (Below.refl _ _) _)))).mono ?_; rintro e w' ⟨rfl, rfl⟩))
          go_wp2_with fail
          have HB7 : Hid (Below w.heap.size w ((w5.drewN n6).alloc (.cells #[.int .i64 0, .map none] 35))) := Lib.hid (by
            have h1 := hq5.chg.below (B := w.heap.size) H.out.own H.out.chg.size
            have h2 := (below_drew H.out.chg).trans h1
            exact (below_drewN h2 n6).alloc h2.size _)
          have HC7 : Hid (((w5.drewN n6).alloc (.cells #[.int .i64 0, .map none] 35)).cell? ⟨w5.heap.size, 1, none⟩ = some (.map none)) := Lib.hid (blk_cell (blk_new (w5.drewN n6) (.cells #[.int .i64 0, .map none] 35)) 1)
          have HLT7 : Hid (w5.heap.size < ((w5.drewN n6).alloc (.cells #[.int .i64 0, .map none] 35)).heap.size) := Lib.hid (by simp)
          clear hq5 hr5 H
          generalize ((w5.drewN n6).alloc (.cells #[.int .i64 0, .map none] 35)) = w7 at *
          generalize w5.heap.size = b7 at *
          refine (open_nil _ _).mono ?_
          rintro e w' ⟨rfl, rfl⟩
          go_wp2_with fail
          refine (open_plain _ _ _ HC7.out).mono ?_
          rintro e w' ⟨rfl, rfl⟩
          go_wp2_with fail
          refine (putAll_nil (Lt w.heap.size) fa g o fc es _ (by have := HL.out; omega) (fun i hi => Nat.lt_of_lt_of_le hi HB7.out.size) (HROW.out.keep (fun i hi => HB7.out.block i hi) (fun i hi => hi))).mono ?_
          rintro e w8 ⟨rfl, hb8⟩
          have HB8 := Lib.hid hb8
          clear hb8
          go_wp2_with fail
          refine (take_plain _ _ _ _ (by rw [HB8.out.cell HLT7.out]; exact HC7.out)).mono ?_
          rintro e w' ⟨rfl, rfl⟩
          go_wp2_with fail
          refine (those_nil HSO.out _).mono ?_
          rintro e w' ⟨rfl, rfl⟩
          go_wp2_with fail
          refine (works_calls HSO.out _).mono ?_
          rintro e w9 ⟨rfl, hb9⟩
          have HB9 := Lib.hid (hb9.mono HB8.out.size)
          clear hb9
          go_wp2
          go_ret
          exact ⟨rfl, HB7.out.trans ((HB8.out.trans HB9.out).mono HB7.out.size)⟩
        · have hp : 0 < xs.length := List.length_pos_iff.2 hx0
          clear hx0
          obtain ⟨gq, hgq⟩ : ∃ gq, fb = some ⟨gq, 0, none⟩ := by
            obtain ⟨g', cap', e, _⟩ := H.out.row.form hp
            injection e with e1 _ _
            exact ⟨g', e1⟩
          subst hgq
          obtain ⟨htail, hfd⟩ := H.out.tail hp 0
          rw [List.drop_zero, Nat.zero_mul] at htail
          have HTL := Lib.hid htail
          have HFD := Lib.hid hfd
          have z3 : ¬ 0 = fd := by omega
          have z4 : ¬ fd = 0 := by omega
          clear htail hfd hp
          go_wp2_with fail
          go_region_held3 (fun w' => True) (trivial)
            (first
              | (go_at_call 9; refine (K9b.out _ (by exact (H.out.tq.below (below_drew (Below.refl _ _))))).mono ?_; rintro e w' ⟨rfl, rfl⟩)
              | (go_at_call 10; refine (K10.out _ (by exact (H.out.tq.below (below_drew (Below.refl _ _))))).mono ?_; rintro e w' ⟨rfl, rfl⟩)
              | (go_at_call 12; refine (K12.out _ (by exact (H.out.tq.below (below_drew (Below.refl _ _))))).mono ?_; rintro e w5 ⟨fa2, fc2, rfl, hq5, hr5⟩)
              | (go_at_call 11; refine (K11.out _ _ _ _ _ (by exact hr5.keep (fun _ _ => rfl) (fun _ hi => hi)) (by exact HTL.out.keep (fun i hi => hq5.chg.block i hi.1 hi.2) (fun i hi => Nat.lt_of_lt_of_le hi.1 hq5.chg.size))).mono ?_; rintro e w6 ⟨rfl, n6, rfl⟩)
              | (go_at_call 10; refine (K10b.out _ (by exact (hq5.tq.below (below_drewN (Below.refl _ _) _)))).mono ?_; rintro e w' ⟨rfl, rfl⟩))
          go_wp2_with fail
          have HB7 : Hid (Below w.heap.size w ((w5.drewN n6).alloc (.cells #[.int .i64 0, .map none] 35))) := Lib.hid (by
            have h1 := hq5.chg.below (B := w.heap.size) H.out.own H.out.chg.size
            have h2 := (below_drew H.out.chg).trans h1
            exact (below_drewN h2 n6).alloc h2.size _)
          have HC7 : Hid (((w5.drewN n6).alloc (.cells #[.int .i64 0, .map none] 35)).cell? ⟨w5.heap.size, 1, none⟩ = some (.map none)) := Lib.hid (blk_cell (blk_new (w5.drewN n6) (.cells #[.int .i64 0, .map none] 35)) 1)
          have HLT7 : Hid (w5.heap.size < ((w5.drewN n6).alloc (.cells #[.int .i64 0, .map none] 35)).heap.size) := Lib.hid (by simp)
          clear hq5 hr5 HTL H
          generalize ((w5.drewN n6).alloc (.cells #[.int .i64 0, .map none] 35)) = w7 at *
          generalize w5.heap.size = b7 at *
          refine (open_nil _ _).mono ?_
          rintro e w' ⟨rfl, rfl⟩
          go_wp2_with fail
          refine (open_plain _ _ _ HC7.out).mono ?_
          rintro e w' ⟨rfl, rfl⟩
          go_wp2_with fail
          refine (putAll_nil (Lt w.heap.size) fa g o fc es _ (by have := HL.out; omega) (fun i hi => Nat.lt_of_lt_of_le hi HB7.out.size) (HROW.out.keep (fun i hi => HB7.out.block i hi) (fun i hi => hi))).mono ?_
          rintro e w8 ⟨rfl, hb8⟩
          have HB8 := Lib.hid hb8
          clear hb8
          go_wp2_with fail
          refine (take_plain _ _ _ _ (by rw [HB8.out.cell HLT7.out]; exact HC7.out)).mono ?_
          rintro e w' ⟨rfl, rfl⟩
          go_wp2_with fail
          refine (those_nil HSO.out _).mono ?_
          rintro e w' ⟨rfl, rfl⟩
          go_wp2_with fail
          refine (works_calls HSO.out _).mono ?_
          rintro e w9 ⟨rfl, hb9⟩
          have HB9 := Lib.hid (hb9.mono HB8.out.size)
          clear hb9
          go_wp2
          go_ret
          exact ⟨rfl, HB7.out.trans ((HB8.out.trans HB9.out).mono HB7.out.size)⟩
      · have HMD := Lib.hid hm2
        have s2 : IntKind.i64.wrap ((xs.length : Int) - most) = (d : Int) := by rw [s1, hm2]
        clear hm2 s1
        have HNZ := Lib.hid (show 0 < xs.length ∧ d < xs.length ∧ 0 < d by have := HMD.out; have := HM.out; omega)
        obtain ⟨gq, hgq⟩ : ∃ gq, fb = some ⟨gq, 0, none⟩ := by
          obtain ⟨g', cap', e, _⟩ := H.out.row.form HNZ.out.1
          injection e with e1 _ _
          exact ⟨g', e1⟩
        subst hgq
        obtain ⟨htail, hfd⟩ := H.out.tail HNZ.out.1 d
        have HTL := Lib.hid htail
        have HEQ := Lib.hid (show q.evs = (xs.map (·.1)).drop d by rw [HQ1.out, HD.out]; rfl)
        have HLE := Lib.hid (show ((xs.map (·.1)).drop d).length = xs.length - d by simp)
        have HTK := Lib.hid (show takeN q.evs (xs.length : Int) = q.evs.length by unfold takeN; rw [HEQ.out, HLE.out]; omega)
        have HLQ := Lib.hid (show q.evs.length = xs.length - d by rw [HEQ.out, HLE.out])
        have K9b : Hid (∀ W, Tq W (w.heap.size + 1) w.heap.size most [(frame, q)] → Calls Try.prog 9 #[.pointer (some ⟨w.heap.size + 1, 0, none⟩), .int .i64 frame] W fun e w' => e = .returned (.int .i64 (d : Int)) ∧ W = w') := Lib.hid (fun W hW => by
          have h := lost_calls frame W hW
          rw [show lostF [(frame, q)] frame = (d : Int) from by simp only [lostF, mget, if_pos]; rw [HQ2.out, HD.out]] at h
          exact h)
        have K10 : Hid (∀ W, Tq W (w.heap.size + 1) w.heap.size most [(frame, q)] → Calls Try.prog 10 #[.pointer (some ⟨w.heap.size + 1, 0, none⟩), .int .i64 frame] W fun e w' => e = .returned (.int .i64 ((xs.length - d : Nat) : Int)) ∧ W = w') := Lib.hid (fun W hW => by
          have h := long_calls frame W hW
          rw [show longF [(frame, q)] frame = ((xs.length - d : Nat) : Int) from by simp only [longF, mget, if_pos, HLQ.out]] at h
          exact h)
        have K12 : Hid (∀ W, Tq W (w.heap.size + 1) w.heap.size most [(frame, q)] → Calls Try.prog 12 #[.pointer (some ⟨w.heap.size + 1, 0, none⟩), .int .i64 frame, .int .i64 (xs.length : Int)] W fun e w' => ∃ fa fc, e = .returned (.slice fa (xs.length - d) fc) ∧ Qs W w' (w.heap.size + 1) w.heap.size most [(frame, q)] [(frame, { q with evs := [] })] ∧ ERow (fun i => i < w'.heap.size) w' fa ((xs.map (·.1)).drop d)) := Lib.hid (fun W hW => by
          refine (takeAll_calls (w.heap.size + 1) w.heap.size most [(frame, q)] frame (xs.length : Int) q W hW (by simp [mget]) (by rw [HLQ.out]; have := HN.out; omega)).mono fun e w' ⟨fa2, fc2, e1, e2, e3⟩ => ?_
          rw [HTK.out, List.take_length, HLQ.out] at e1
          rw [HTK.out, List.drop_length] at e2
          rw [HTK.out, List.take_length, HEQ.out] at e3
          refine ⟨fa2, fc2, e1, ?_, e3.keep (fun _ _ => rfl) (fun i hi => hi.1)⟩
          simpa [mput] using e2)
        have K11 : Hid (∀ (fa2 : Option Addr) (fc2 : Nat) (W : World), ERow (fun i => i < W.heap.size) W fa2 ((xs.map (·.1)).drop d) → ERow (fun i => i < W.heap.size) W (some ⟨gq, d * 5, none⟩) ((xs.map (·.1)).drop d) → Calls Try.prog 11 #[.slice fa2 (xs.length - d) fc2, .slice (some ⟨gq, d * 5, none⟩) (xs.length - d) (fd - d)] W fun e w' => e = .returned (.bool true) ∧ ∃ n, w' = W.drewN n) := Lib.hid (fun fa2 fc2 W h1 h2 => by
          have h := sameEvents_calls _ fa2 (some ⟨gq, d * 5, none⟩) fc2 (fd - d) ((xs.map (·.1)).drop d) W (by rw [HLE.out]; have := HN.out; omega) (fun e he => by have := HVX.out e (List.mem_of_mem_drop he); omega) h1 h2
          rw [HLE.out] at h
          exact h)
        have K10b : Hid (∀ W, Tq W (w.heap.size + 1) w.heap.size most [(frame, { q with evs := [] })] → Calls Try.prog 10 #[.pointer (some ⟨w.heap.size + 1, 0, none⟩), .int .i64 frame] W fun e w' => e = .returned (.int .i64 0) ∧ W = w') := Lib.hid (fun W hW => by
          have h := long_calls frame W hW
          rw [show longF [(frame, { q with evs := [] })] frame = 0 from by simp [longF, mget]] at h
          exact h)
        have s3 : IntKind.i64.wrap ((xs.length : Int) - (d : Int)) = ((xs.length - d : Nat) : Int) := by
          rw [show (xs.length : Int) - (d : Int) = ((xs.length - d : Nat) : Int) by have := HNZ.out; omega]
          exact IntWalk.i64_in _ (by have := HN.out; omega)
        have z0 : 0 < d := HNZ.out.2.2
        have z1 : (0 : Int) ≤ (d : Int) := by omega
        have z2 : (d : Int) ≤ (xs.length : Int) := by have := HNZ.out; omega
        have z3 : ¬ d = fd := by have := HNZ.out; omega
        have z4 : ¬ fd = d := by omega
        have z5 : (d : Int) ≤ (fd : Int) := by have := HNZ.out; omega
        have HFD := Lib.hid hfd
        clear htail hfd
        go_wp2_with fail
        go_region_held3 (fun w' => True) (trivial)
          (first
            | (go_at_call 9; refine (K9b.out _ (by exact (H.out.tq.below (below_drew (Below.refl _ _))))).mono ?_; rintro e w' ⟨rfl, rfl⟩)
            | (go_at_call 10; refine (K10.out _ (by exact (H.out.tq.below (below_drew (Below.refl _ _))))).mono ?_; rintro e w' ⟨rfl, rfl⟩)
            | (go_at_call 12; refine (K12.out _ (by exact (H.out.tq.below (below_drew (Below.refl _ _))))).mono ?_; rintro e w5 ⟨fa2, fc2, rfl, hq5, hr5⟩)
            | (go_at_call 11; refine (K11.out _ _ _ (by exact hr5.keep (fun _ _ => rfl) (fun _ hi => hi)) (by exact HTL.out.keep (fun i hi => hq5.chg.block i hi.1 hi.2) (fun i hi => Nat.lt_of_lt_of_le hi.1 hq5.chg.size))).mono ?_; rintro e w6 ⟨rfl, n6, rfl⟩)
            | (go_at_call 10; refine (K10b.out _ (by exact (hq5.tq.below (below_drewN (Below.refl _ _) _)))).mono ?_; rintro e w' ⟨rfl, rfl⟩))
        go_wp2_with fail
        have HB7 : Hid (Below w.heap.size w ((w5.drewN n6).alloc (.cells #[.int .i64 0, .map none] 35))) := Lib.hid (by
          have h1 := hq5.chg.below (B := w.heap.size) H.out.own H.out.chg.size
          have h2 := (below_drew H.out.chg).trans h1
          exact (below_drewN h2 n6).alloc h2.size _)
        have HC7 : Hid (((w5.drewN n6).alloc (.cells #[.int .i64 0, .map none] 35)).cell? ⟨w5.heap.size, 1, none⟩ = some (.map none)) := Lib.hid (blk_cell (blk_new (w5.drewN n6) (.cells #[.int .i64 0, .map none] 35)) 1)
        have HLT7 : Hid (w5.heap.size < ((w5.drewN n6).alloc (.cells #[.int .i64 0, .map none] 35)).heap.size) := Lib.hid (by simp)
        clear hq5 hr5 HTL H
        generalize ((w5.drewN n6).alloc (.cells #[.int .i64 0, .map none] 35)) = w7 at *
        generalize w5.heap.size = b7 at *
        refine (open_nil _ _).mono ?_
        rintro e w' ⟨rfl, rfl⟩
        go_wp2_with fail
        refine (open_plain _ _ _ HC7.out).mono ?_
        rintro e w' ⟨rfl, rfl⟩
        go_wp2_with fail
        refine (putAll_nil (Lt w.heap.size) fa g o fc es _ (by have := HL.out; omega) (fun i hi => Nat.lt_of_lt_of_le hi HB7.out.size) (HROW.out.keep (fun i hi => HB7.out.block i hi) (fun i hi => hi))).mono ?_
        rintro e w8 ⟨rfl, hb8⟩
        have HB8 := Lib.hid hb8
        clear hb8
        go_wp2_with fail
        refine (take_plain _ _ _ _ (by rw [HB8.out.cell HLT7.out]; exact HC7.out)).mono ?_
        rintro e w' ⟨rfl, rfl⟩
        go_wp2_with fail
        refine (those_nil HSO.out _).mono ?_
        rintro e w' ⟨rfl, rfl⟩
        go_wp2_with fail
        refine (works_calls HSO.out _).mono ?_
        rintro e w9 ⟨rfl, hb9⟩
        have HB9 := Lib.hid (hb9.mono HB8.out.size)
        clear hb9
        go_wp2
        go_ret
        exact ⟨rfl, HB7.out.trans ((HB8.out.trans HB9.out).mono HB7.out.size)⟩
end Go.Proofs.Ytchhpgnlfofdcaa.Q
