/- Walks: turn, Disconnect, Quiet. -/
import Derived.Test.YtdckcbahfdcafaaTurn
set_option linter.unusedVariables false
set_option linter.unusedSimpArgs false
namespace Go.Proofs.Ytdckcbahfdcafaa.F
open Go.RowKit Go.Proofs.Ytdckcbahfdcafaa.Hp Go.Proofs.Ytdckcbahfdcafaa.Mp
set_option maxRecDepth 100000
attribute [local go_sem high] eqW30

theorem store57 {m : Nat} {l : List (Int × Fr)} {W : World} (h : IsMap encF W m l) (id : Int) (f : Fr) : ∃ o, (Instr.mapUpdate 57 (.map (some m)) (.int .i64 id) (encF f)).run Try.prog W = .ok () (setB W m o) ∧ IsMap encF (setB W m o) m (mput l id f) :=
  run_mstore (P := Try.prog) Try.underlying57 Try.underlying2 h id f

/-- What a function that turns a framework does, called with a cell and what it has captured. -/
def Inner (fn q : Nat) (oq : Obj) (F : Fr → Int × Fr) (ok : Fr → Prop) : Prop := ∀ (g : Nat) (f : Fr) (W : World), W.heap[g]? = some (.cells (cellsF f) 30 (0, 0)) → W.heap[q]? = some oq → ok f →
  Calls Try.prog fn #[.pointer (some ⟨g, 0, none⟩), .pointer (some ⟨q, 0, none⟩)] W fun e w' => e = .returned (.int .i64 (F f).1) ∧ w'.heap[g]? = some (.cells (cellsF (F f).2) 30 (0, 0)) ∧ Chg (fun i => i = g) W w'

theorem cellF (f : Fr) {g : Nat} {W : World} (h : W.heap[g]? = some (.cells (cellsF f) 30 (0, 0))) :
    W.cell? ⟨g, 0, none⟩ = some (.int .i64 f.id) ∧ W.cell? ⟨g, 1, none⟩ = some (.int .i64 f.role) ∧ W.cell? ⟨g, 2, none⟩ = some (.int .i64 f.weight) ∧ W.cell? ⟨g, 3, none⟩ = some (.bool f.up) ∧
    W.cell? ⟨g, 4, none⟩ = some (.bool f.quiet) ∧ W.cell? ⟨g, 5, none⟩ = some (.int .i64 f.time) ∧ W.cell? ⟨g, 6, none⟩ = some (.int .i64 f.till) :=
  ⟨blk_cell h 0, blk_cell h 1, blk_cell h 2, blk_cell h 3, blk_cell h 4, blk_cell h 5, blk_cell h 6⟩

set_option maxHeartbeats 400000 in
theorem turn_none {b m q fn : Nat} {cap : Int} {l : List (Int × Fr)} {R : List (Int × Int)} (id : Int) (w : World) (h : Tab w b m cap l R) (hn : mget l id = none) :
    Calls Try.prog 27 #[.pointer (some ⟨b, 0, none⟩), .int .i64 id, .func (.func fn) #[] #[.pointer (some ⟨q, 0, none⟩)]] w fun e w' => e = .returned (.int .i64 43) ∧ Below w.heap.size w w' := by
  have h1 := h.cell1
  obtain ⟨es, clk, hes, hrep, _⟩ := h.map
  have hr := look57 hes hrep id
  simp only [got, hn, Option.getD_none, Option.isSome_none, encF_agg, Fr.zero] at hr
  have HT := Lib.hid h
  clear h hn hes hrep
  go_enter Try.func27, Try.ntmps27
  go_wp2_with (go_at_call 26; refine (made_yes _ HT.out).mono ?_; rintro e w' ⟨rfl, rfl⟩)
  go_ret
  exact ⟨rfl, ((Below.refl _ _).alloc (Nat.le_refl _) _)⟩

set_option maxHeartbeats 1000000 in
theorem turn_keep {b m q fn : Nat} {cap : Int} {l : List (Int × Fr)} {R : List (Int × Int)} (id : Int) (w : World) (h : Tab w b m cap l R) (f : Fr) (hf : mget l id = some f) {oq : Obj} {F : Fr → Int × Fr} {ok : Fr → Prop} (hI : Inner fn q oq F ok) (hq : w.heap[q]? = some oq) (hok : ok f)
    (hc : (F f).1 ≠ 0 ∨ (F f).2 = f) (hfn : fn = 28 ∨ fn = 35) :
    Calls Try.prog 27 #[.pointer (some ⟨b, 0, none⟩), .int .i64 id, .func (.func fn) #[] #[.pointer (some ⟨q, 0, none⟩)]] w fun e w' => e = .returned (.int .i64 (F f).1) ∧ Below w.heap.size w w' := by
  have h1 := h.cell1
  obtain ⟨es, clk, hes, hrep, _⟩ := h.map
  have hr := look57 hes hrep id
  simp only [got, hf, Option.getD_some, Option.isSome_some, encF_agg] at hr
  have HT := Lib.hid h
  have HI := Lib.hid (fun (W : World) (hg : W.heap[w.heap.size]? = some (.cells (cellsF f) 30 (0, 0))) (hq : W.heap[q]? = some oq) => hI w.heap.size f W hg hq hok)
  have HQ := Lib.hid hq
  clear h hf hes hrep hI hq hok
  generalize (F f).1 = c at *
  generalize (F f).2 = f2 at *
  have HC := Lib.hid hc
  clear hc
  rcases hfn with rfl | rfl
  all_goals
    go_enter Try.func27, Try.ntmps27
    go_wp2_with (go_at_call 26; refine (made_yes _ HT.out).mono ?_; rintro e w' ⟨rfl, rfl⟩)
    refine (HI.out _ (blk_alloc (blk_new w _)) (blk_alloc (blk_alloc HQ.out))).mono ?_
    rintro e W1 ⟨rfl, hg1, hch⟩
    have hs : (w.alloc (.cells (cellsF f) 30)).heap.size = w.heap.size + 1 := by simp
    have hg2 := hch.blk (blk_new (w.alloc (.cells (cellsF f) 30)) (.cells (cellsF f) 30)) (by rw [hs]; omega)
    rw [hs] at hg2
    have HB := Lib.hid (((Chg.refl No w).alloc (.cells (cellsF f) 30)).alloc (.cells (cellsF f) 30) |>.trans' hch (fun i hi => by right; omega))
    clear hs hch
    obtain ⟨c0, c1, c2, c3, c4, c5, c6⟩ := cellF f2 hg1
    obtain ⟨d0, d1, d2, d3, d4, d5, d6⟩ := cellF f hg2
    clear hg1 hg2
    by_cases hff : f2 = f
    · subst hff
      have hq : frEq ⟨f2.id, f2.role, f2.weight, f2.up, f2.quiet, f2.time, f2.till⟩ ⟨f2.id, f2.role, f2.weight, f2.up, f2.quiet, f2.time, f2.till⟩ = true := frEq_self f2
      clear HC
      go_wp2
      go_ret
      exact ⟨rfl, HB.out.none⟩
    · have hcz : (c == 0) = false := by
        rw [beq_eq_false_iff_ne]
        exact HC.out.resolve_right hff
      have hq : frEq ⟨f2.id, f2.role, f2.weight, f2.up, f2.quiet, f2.time, f2.till⟩ ⟨f.id, f.role, f.weight, f.up, f.quiet, f.time, f.till⟩ = false := frEq_false hff
      clear HC hff
      go_wp2
      go_ret
      exact ⟨rfl, HB.out.none⟩

set_option maxHeartbeats 1000000 in
theorem turn_put {b m q fn : Nat} {cap : Int} {l : List (Int × Fr)} {R : List (Int × Int)} (id : Int) (w : World) (h : Tab w b m cap l R) (f : Fr) (hf : mget l id = some f) {oq : Obj} {F : Fr → Int × Fr} {ok : Fr → Prop} (hI : Inner fn q oq F ok) (hq : w.heap[q]? = some oq) (hok : ok f)
    (hc : (F f).1 = 0) (hff : (F f).2 ≠ f) (hfn : fn = 28 ∨ fn = 35) :
    Calls Try.prog 27 #[.pointer (some ⟨b, 0, none⟩), .int .i64 id, .func (.func fn) #[] #[.pointer (some ⟨q, 0, none⟩)]] w fun e w' => e = .returned (.int .i64 0) ∧ Tab w' b m cap (mput l id (F f).2) R ∧ Chg (Own b m) w w' := by
  have h1 := h.cell1
  obtain ⟨es, clk, hes, hrep, _⟩ := h.map
  have hr := look57 hes hrep id
  simp only [got, hf, Option.getD_some, Option.isSome_some, encF_agg] at hr
  have HT := Lib.hid h
  have HI := Lib.hid (fun (W : World) (hg : W.heap[w.heap.size]? = some (.cells (cellsF f) 30 (0, 0))) (hq : W.heap[q]? = some oq) => hI w.heap.size f W hg hq hok)
  have HQ := Lib.hid hq
  have hbs := h.lt_b
  have hms := h.lt_m
  clear h hf hes hrep hI hq hok
  rw [hc] at HI
  generalize (F f).2 = f2 at *
  have hq : frEq ⟨f2.id, f2.role, f2.weight, f2.up, f2.quiet, f2.time, f2.till⟩ ⟨f.id, f.role, f.weight, f.up, f.quiet, f.time, f.till⟩ = false := frEq_false hff
  clear hc hff
  rcases hfn with rfl | rfl
  all_goals
    go_enter Try.func27, Try.ntmps27
    go_wp2_with (go_at_call 26; refine (made_yes _ HT.out).mono ?_; rintro e w' ⟨rfl, rfl⟩)
    refine (HI.out _ (blk_alloc (blk_new w _)) (blk_alloc (blk_alloc HQ.out))).mono ?_
    rintro e W1 ⟨rfl, hg1, hch⟩
    have hs : (w.alloc (.cells (cellsF f) 30)).heap.size = w.heap.size + 1 := by simp
    have hg2 := hch.blk (blk_new (w.alloc (.cells (cellsF f) 30)) (.cells (cellsF f) 30)) (by rw [hs]; omega)
    rw [hs] at hg2
    have HT1 := Lib.hid (((HT.out.alloc (.cells (cellsF f) 30)).alloc (.cells (cellsF f) 30)).heap (hch.block b (by simp; omega) (by omega)) (hch.block m (by simp; omega) (by omega)))
    have HB := Lib.hid (((Chg.refl (Own b m) w).alloc (.cells (cellsF f) 30)).alloc (.cells (cellsF f) 30) |>.trans' hch (fun i hi => by right; omega))
    clear hs hch
    obtain ⟨c0, c1, c2, c3, c4, c5, c6⟩ := cellF f2 hg1
    obtain ⟨d0, d1, d2, d3, d4, d5, d6⟩ := cellF f hg2
    have h2 := HT1.out.cell1
    clear hg1 hg2 h1 hr
    go_wp2
    go_still_tail 6, (by kernel_rfl)
    change wpList _ _ _ _ _ W1.drew
    have HT2 := Lib.hid HT1.out.drew
    have HB2 := Lib.hid HB.out.drew
    obtain ⟨o, ho, hm⟩ := store57 HT2.out.map id f2
    rw [encF_agg] at ho
    have HM := Lib.hid hm
    clear HT1 HB hm c0 c1 c2 c3 c4 c5 c6 d0 d1 d2 d3 d4 d5 d6 h2
    generalize W1.drew = W2 at *
    go_wp2
    go_ret
    exact ⟨rfl, HT2.out.setB HM.out, HB2.out.setB (.inl (.inr rfl)) _⟩
end Go.Proofs.Ytdckcbahfdcafaa.F
