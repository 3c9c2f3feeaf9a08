/- Walks: Get. -/
import Derived.Test.YtecgfghmmlpghaaDrop
set_option linter.unusedVariables false
set_option linter.unusedSimpArgs false
namespace Go.Proofs.Ytecgfghmmlpghaa.O
open Go.RowKit Go.Proofs.Ytecgfghmmlpghaa.Hp Go.Proofs.Ytecgfghmmlpghaa.Mp
set_option maxRecDepth 100000

theorem PAt.nil (T : Nat → Prop) (w : World) (va : Option Addr) : PAt T w va [] := ⟨0, 0, fun h => by simp at h, fun j u hu => by simp [flatP] at hu⟩
theorem zero30 (w : World) : (zeroValue 30).run Try.prog w = .ok (encO Ox.zero) w := by kernel_rfl
/-- What a lookup tells. -/
def gotO (lo : List (Int × Ox)) (id : Int) : Ox := (mget lo id).getD Ox.zero
theorem look43 {w : World} {m : Nat} {l : List (Int × Ox)} (h : IsMap encO w m l) (id : Int) : (Instr.lookup 43 (.map (some m)) (.int .i64 id) true).run Try.prog w = .ok (.tuple #[encO (gotO l id), .bool (mget l id).isSome]) w := by
  obtain ⟨es, clk, hb, hr, _⟩ := h
  rw [run_look (P := Try.prog) Try.underlying43 Try.underlying2 (encO Ox.zero) zero30 hb hr id]
  unfold gotO
  cases mget l id <;> rfl
theorem look43v {w : World} {m : Nat} {l : List (Int × Ox)} (h : IsMap encO w m l) (id : Int) : (Instr.lookup 43 (.map (some m)) (.int .i64 id) false).run Try.prog w = .ok (encO (gotO l id)) w := by
  obtain ⟨es, clk, hb, hr, _⟩ := h
  rw [run_look1 (P := Try.prog) Try.underlying43 Try.underlying2 (encO Ox.zero) zero30 hb hr id]
  unfold gotO
  cases mget l id <;> rfl
/-- The block of a result that is an offer. -/
structure RSt (w wr : World) (N : Nat) : Prop where
  res : wr.heap[N]? = some (.cells #[.int .i64 0, .int .i64 0, .int .i64 0, .slice none 0 0, .int .i64 0] 30 (0, 0))
  chg : Below N w wr
theorem RSt.start (w : World) : RSt w (w.alloc (.cells #[.int .i64 0, .int .i64 0, .int .i64 0, .slice none 0 0, .int .i64 0] 30)) w.heap.size := ⟨blk_new _ _, (Below.refl _ w).alloc (Nat.le_refl _) _⟩
section
variable {w wr w' : World} {N : Nat}
theorem RSt.lt (h : RSt w wr N) : N + 1 ≤ wr.heap.size := blk_lt h.res
theorem RSt.below (h : RSt w wr N) {B : Nat} (hb : Below B wr w') (hB : N + 1 ≤ B) : RSt w w' N := ⟨(hb.block N (by omega)).trans h.res, h.chg.trans (hb.mono (by omega))⟩
theorem RSt.facts (h : RSt w wr N) : (wr.cell? ⟨N, 0, none⟩ = some (.int .i64 0) ∧ wr.cell? ⟨N, 1, none⟩ = some (.int .i64 0) ∧ wr.cell? ⟨N, 2, none⟩ = some (.int .i64 0) ∧ wr.cell? ⟨N, 3, none⟩ = some (.slice none 0 0) ∧ wr.cell? ⟨N, 4, none⟩ = some (.int .i64 0)) ∧ wr.frozen? ⟨N, 0, none⟩ = false ∧ wr.frozen? ⟨N, 1, none⟩ = false ∧ wr.frozen? ⟨N, 2, none⟩ = false ∧ wr.frozen? ⟨N, 3, none⟩ = false ∧ wr.frozen? ⟨N, 4, none⟩ = false :=
  ⟨⟨blk_cell h.res 0, blk_cell h.res 1, blk_cell h.res 2, blk_cell h.res 3, blk_cell h.res 4⟩, blk_frozen h.res 0, blk_frozen h.res 1, blk_frozen h.res 2, blk_frozen h.res 3, blk_frozen h.res 4⟩
/-- Five cells written. -/
def set5 (w : World) (N : Nat) (v0 v1 v2 v3 v4 : Value) : World := ((((w.setCell ⟨N, 0, none⟩ v0).setCell ⟨N, 1, none⟩ v1).setCell ⟨N, 2, none⟩ v2).setCell ⟨N, 3, none⟩ v3).setCell ⟨N, 4, none⟩ v4
theorem set5_blk {a0 a1 a2 a3 a4 v0 v1 v2 v3 v4 : Value} {t : TypeId} (h : wr.heap[N]? = some (.cells #[a0, a1, a2, a3, a4] t (0, 0))) : (set5 wr N v0 v1 v2 v3 v4).heap[N]? = some (.cells #[v0, v1, v2, v3, v4] t (0, 0)) :=
  blk_set (blk_set (blk_set (blk_set (blk_set h 0 v0) 1 v1) 2 v2) 3 v3) 4 v4
theorem set5_far {v0 v1 v2 v3 v4 : Value} {i : Nat} (h : i ≠ N) : (set5 wr N v0 v1 v2 v3 v4).heap[i]? = wr.heap[i]? := by
  unfold set5
  rw [Below.heap_setCell _ _ _ _ h, Below.heap_setCell _ _ _ _ h, Below.heap_setCell _ _ _ _ h, Below.heap_setCell _ _ _ _ h, Below.heap_setCell _ _ _ _ h]
theorem set5_size {v0 v1 v2 v3 v4 : Value} : (set5 wr N v0 v1 v2 v3 v4).heap.size = wr.heap.size := by simp [set5, World.setCell]
theorem RSt.stop (h : RSt w wr N) (v0 v1 v2 v3 v4 : Value) : (set5 wr N v0 v1 v2 v3 v4).cell? ⟨N, 0, none⟩ = some v0 ∧ (set5 wr N v0 v1 v2 v3 v4).cell? ⟨N, 1, none⟩ = some v1 ∧ (set5 wr N v0 v1 v2 v3 v4).cell? ⟨N, 2, none⟩ = some v2 ∧ (set5 wr N v0 v1 v2 v3 v4).cell? ⟨N, 3, none⟩ = some v3 ∧ (set5 wr N v0 v1 v2 v3 v4).cell? ⟨N, 4, none⟩ = some v4 ∧ Below N w (set5 wr N v0 v1 v2 v3 v4) := by
  have e := set5_blk (v0 := v0) (v1 := v1) (v2 := v2) (v3 := v3) (v4 := v4) h.res
  exact ⟨blk_cell e 0, blk_cell e 1, blk_cell e 2, blk_cell e 3, blk_cell e 4, ((((h.chg.setCell (by simp) _).setCell (by simp) _).setCell (by simp) _).setCell (by simp) _).setCell (by simp) _⟩
end
/-- What Get answers. -/
def GAns (o : Of) (is : Bool) (w : World) (e : Ending) (w' : World) : Prop :=
  ∃ va vc, e = .returned (.tuple #[.agg #[.int .i64 o.id, .int .i64 o.frame, .int .i64 o.agent, .slice va o.vec.length vc, .int .i64 o.till], .bool is]) ∧ PAt (New w w') w' va o.vec ∧ Below w.heap.size w w'
section
variable {b mo mf ma : Nat} {most last : Int} {lo : List (Int × Ox)} {lf la : List (Int × Nat)}
set_option maxHeartbeats 1000000 in
theorem get_none0 (id : Int) (w : World) (h : Tof w b mo mf ma most last lo lf la) (hg : mget lo id = none) :
    Calls Try.prog 15 #[.pointer (some ⟨b, 0, none⟩), .int .i64 id] w fun e w' => e = .returned (.tuple #[.agg #[.int .i64 0, .int .i64 0, .int .i64 0, .slice none 0 0, .int .i64 0], .bool false]) ∧ Below w.heap.size w w' := by
  have hR := RSt.start w
  have h1 := h.below hR.chg
  have hk := look43 h1.offers id
  rw [hg, show gotO lo id = Ox.zero by unfold gotO; rw [hg]; rfl] at hk
  change _ = Result.ok (Value.tuple #[.agg #[.int .i64 0, .int .i64 0, .int .i64 0, .slice none 0 0, .int .i64 0], .bool false]) _ at hk
  have c2 := h1.cells.2.2.1
  have HT := Lib.hid h1
  have HR := Lib.hid (hR.below ((Below.refl _ _).alloc (Nat.le_refl _) (.cells #[.int .i64 0, .int .i64 0, .int .i64 0, .slice none 0 0, .int .i64 0] 30)) hR.lt)
  obtain ⟨⟨r0, r1, r2, r3, r4⟩, f0, f1, f2, f3, f4⟩ := HR.out.facts
  clear h h1 hg hR
  go_enter Try.func15, Try.ntmps15
  go_wp2_with (go_at_call 25; refine (made_yes _ HT.out).mono ?_; rintro e w' ⟨rfl, rfl⟩)
  have HB := Lib.hid HR.out.chg
  generalize (w.alloc (.cells #[.int .i64 0, .int .i64 0, .int .i64 0, .slice none 0 0, .int .i64 0] 30)).alloc (.cells #[.int .i64 0, .int .i64 0, .int .i64 0, .slice none 0 0, .int .i64 0] 30) = W9 at *
  refine bodyPost_ret (v := .tuple #[.agg #[.int .i64 0, .int .i64 0, .int .i64 0, .slice none 0 0, .int .i64 0], .bool false]) (by simp [results, Try.results15, go_sem, r0, r1, r2, r3, r4]) rfl ⟨rfl, HB.out⟩
theorem get_none (id : Int) (w : World) (h : Tof w b mo mf ma most last lo lf la) (hg : mget lo id = none) :
    Calls Try.prog 15 #[.pointer (some ⟨b, 0, none⟩), .int .i64 id] w (GAns Of.zero false w) :=
  (get_none0 id w h hg).mono fun e w' ⟨e1, hb⟩ => ⟨none, 0, e1, PAt.nil _ _ _, hb⟩
set_option maxHeartbeats 1000000 in
theorem get_some (id : Int) (w : World) (h : Tof w b mo mf ma most last lo lf la) (x : Ox) (hg : mget lo id = some x) (hlen : x.1.vec.length ≤ 700) :
    Calls Try.prog 15 #[.pointer (some ⟨b, 0, none⟩), .int .i64 id] w (GAns x.1 true w) := by
  have hR := RSt.start w
  have h1 := h.below hR.chg
  have hk := look43 h1.offers id
  rw [hg, show gotO lo id = x by unfold gotO; rw [hg]; rfl] at hk
  have hv := h1.vec (id, x) (mget_some_mem hg)
  obtain ⟨⟨oid, ofr, oag, ovec, otill⟩, va, vc⟩ := x
  simp only at hv hlen ⊢
  change _ = Result.ok (Value.tuple #[.agg #[.int .i64 oid, .int .i64 ofr, .int .i64 oag, .slice va ovec.length vc, .int .i64 otill], .bool true]) _ at hk
  have c2 := h1.cells.2.2.1
  have HT := Lib.hid h1
  have hba := (Below.refl _ (w.alloc (.cells #[.int .i64 0, .int .i64 0, .int .i64 0, .slice none 0 0, .int .i64 0] 30))).alloc (Nat.le_refl _) (.cells #[.int .i64 oid, .int .i64 ofr, .int .i64 oag, .slice va ovec.length vc, .int .i64 otill] 30)
  have HR := Lib.hid (hR.below hba hR.lt)
  have HN := Lib.hid (blk_new (w.alloc (.cells #[.int .i64 0, .int .i64 0, .int .i64 0, .slice none 0 0, .int .i64 0] 30)) (.cells #[.int .i64 oid, .int .i64 ofr, .int .i64 oag, .slice va ovec.length vc, .int .i64 otill] 30))
  have hv2 := hv.keep (w' := (w.alloc (.cells #[.int .i64 0, .int .i64 0, .int .i64 0, .slice none 0 0, .int .i64 0] 30)).alloc (.cells #[.int .i64 oid, .int .i64 ofr, .int .i64 oag, .slice va ovec.length vc, .int .i64 otill] 30)) (fun i c hc => hba.block i (blk_lt hc))
  have KC := Lib.hid (copy_calls (fun i => i < ((w.alloc (.cells #[.int .i64 0, .int .i64 0, .int .i64 0, .slice none 0 0, .int .i64 0] 30)).alloc (.cells #[.int .i64 oid, .int .i64 ofr, .int .i64 oag, .slice va ovec.length vc, .int .i64 otill] 30)).heap.size) va vc ovec _ (hv2.pat (fun i c hc => blk_lt hc)) (fun i hi => hi) hlen)
  have hsz := (show (w.alloc (.cells #[.int .i64 0, .int .i64 0, .int .i64 0, .slice none 0 0, .int .i64 0] 30)).heap.size = w.heap.size + 1 by simp)
  have HN2 := HN.out
  rw [hsz] at HN2
  have HN3 := Lib.hid HN2
  clear HN HN2 hsz
  clear h h1 hg hR hv hv2 hba hlen
  go_enter Try.func15, Try.ntmps15
  go_wp2_with (first | (go_at_call 25; refine (made_yes _ HT.out).mono ?_; rintro e w' ⟨rfl, rfl⟩) | fail)
  have HLT2 := Lib.hid (blk_lt HN3.out)
  refine KC.out.mono ?_
  rintro e w3 ⟨va', rfl, _, hv3, hb3⟩
  have HR3 := Lib.hid (HR.out.below hb3 HR.out.lt)
  have HN4 := Lib.hid ((hb3.block _ HLT2.out).trans HN3.out)
  have HV3 := Lib.hid hv3
  clear hv3 hb3 KC HR HN3 HLT2 c2 hk
  obtain ⟨⟨r0, r1, r2, r3, r4⟩, f0, f1, f2, f3, f4⟩ := HR3.out.facts
  have n0 := blk_cell HN4.out 0
  have n1 := blk_cell HN4.out 1
  have n2 := blk_cell HN4.out 2
  have n3 := blk_cell HN4.out 3
  have n4 := blk_cell HN4.out 4
  have m3 := blk_frozen HN4.out 3
  go_wp2
  have hR4 : RSt w (w3.setCell ⟨w.heap.size + 1, 3, none⟩ (.slice va' ovec.length ovec.length)) w.heap.size := ⟨blk_far HR3.out.res (by simp) _, HR3.out.chg.setCell (by simp) _⟩
  have hP : PAt (fun i => w.heap.size ≤ i ∧ i < w3.heap.size ∧ i ≠ w.heap.size ∧ i ≠ w.heap.size + 1) w3 va' ovec := by
    refine HV3.out.keep (fun _ _ => rfl) (fun i hi => ?_)
    have h5 : w.heap.size + 2 ≤ i := by have := hi.1; simpa using this
    exact ⟨by omega, hi.2, by omega, by omega⟩
  obtain ⟨s0, s1, s2, s3, s4, s5⟩ := hR4.stop (.int .i64 oid) (.int .i64 ofr) (.int .i64 oag) (.slice va' ovec.length ovec.length) (.int .i64 otill)
  have hP2 : PAt (New w (set5 (w3.setCell ⟨w.heap.size + 1, 3, none⟩ (.slice va' ovec.length ovec.length)) w.heap.size (.int .i64 oid) (.int .i64 ofr) (.int .i64 oag) (.slice va' ovec.length ovec.length) (.int .i64 otill))) (set5 (w3.setCell ⟨w.heap.size + 1, 3, none⟩ (.slice va' ovec.length ovec.length)) w.heap.size (.int .i64 oid) (.int .i64 ofr) (.int .i64 oag) (.slice va' ovec.length ovec.length) (.int .i64 otill)) va' ovec := hP.keep (fun i hi => (set5_far hi.2.2.1).trans (Below.heap_setCell _ _ _ _ hi.2.2.2)) (fun i hi => ⟨hi.1, by rw [set5_size]; simpa [World.setCell] using hi.2.1⟩)
  change bodyPost _ _ _ _ _ (set5 (w3.setCell ⟨w.heap.size + 1, 3, none⟩ (.slice va' ovec.length ovec.length)) w.heap.size (.int .i64 oid) (.int .i64 ofr) (.int .i64 oag) (.slice va' ovec.length ovec.length) (.int .i64 otill))
  generalize set5 (w3.setCell ⟨w.heap.size + 1, 3, none⟩ (.slice va' ovec.length ovec.length)) w.heap.size (.int .i64 oid) (.int .i64 ofr) (.int .i64 oag) (.slice va' ovec.length ovec.length) (.int .i64 otill) = W9 at *
  refine bodyPost_ret (v := .tuple #[.agg #[.int .i64 oid, .int .i64 ofr, .int .i64 oag, .slice va' ovec.length ovec.length, .int .i64 otill], .bool true]) (by simp [results, Try.results15, go_sem, s0, s1, s2, s3, s4]) rfl ⟨va', _, rfl, hP2, s5⟩
theorem get_calls (id : Int) (w : World) (h : Tof w b mo mf ma most last lo lf la) (hlen : ∀ p ∈ lo, p.2.1.vec.length ≤ 700) :
    Calls Try.prog 15 #[.pointer (some ⟨b, 0, none⟩), .int .i64 id] w (GAns (gotO lo id).1 (mget lo id).isSome w) := by
  unfold gotO
  cases hg : mget lo id with
  | none => exact get_none id w h hg
  | some x => exact get_some id w h x hg (hlen (id, x) (mget_some_mem hg))
end
theorem get_nil0 (id : Int) (w : World) : Calls Try.prog 15 #[.pointer none, .int .i64 id] w fun e w' => e = .returned (.tuple #[.agg #[.int .i64 0, .int .i64 0, .int .i64 0, .slice none 0 0, .int .i64 0], .bool false]) ∧ Below w.heap.size w w' := by
  have HR := Lib.hid (RSt.start w)
  obtain ⟨⟨r0, r1, r2, r3, r4⟩, f0, f1, f2, f3, f4⟩ := HR.out.facts
  go_enter Try.func15, Try.ntmps15
  go_wp2_with (go_at_call 25; refine (made_nil _).mono ?_; rintro e w' ⟨rfl, rfl⟩)
  have HB := Lib.hid HR.out.chg
  generalize (w.alloc (.cells #[.int .i64 0, .int .i64 0, .int .i64 0, .slice none 0 0, .int .i64 0] 30)) = W9 at *
  refine bodyPost_ret (v := .tuple #[.agg #[.int .i64 0, .int .i64 0, .int .i64 0, .slice none 0 0, .int .i64 0], .bool false]) (by simp [results, Try.results15, go_sem, r0, r1, r2, r3, r4]) rfl ⟨rfl, HB.out⟩
end Go.Proofs.Ytecgfghmmlpghaa.O
