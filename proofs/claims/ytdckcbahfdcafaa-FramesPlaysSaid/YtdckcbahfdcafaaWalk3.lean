/- Walks: Weight, Drop, the two small functions that turn a framework. -/
import Derived.Test.YtdckcbahfdcafaaWalk2
import Derived.StillTailTactics
set_option linter.unusedVariables false
set_option linter.unusedSimpArgs false
namespace Go.Proofs.Ytdckcbahfdcafaa.F
open Go.RowKit Go.Proofs.Ytdckcbahfdcafaa.Hp Go.Proofs.Ytdckcbahfdcafaa.Mp
set_option maxRecDepth 100000

set_option maxHeartbeats 400000 in
theorem weight_calls {b m : Nat} {cap : Int} {l : List (Int × Fr)} {R : List (Int × Int)} (r : Nat) (hr : 1 ≤ r ∧ r ≤ 32) (mr wr : Int) (w : World) (h : Tab w b m cap l R) (hm : R[r]? = some (mr, wr)) (hz : mr ≠ 0) :
    Calls Try.prog 15 #[.pointer (some ⟨b, 0, none⟩), .int .i64 r] w fun e w' => e = .returned (.tuple #[.int .i64 wr, .bool true]) ∧ w = w' := by
  obtain ⟨hlt, hget⟩ := List.getElem?_eq_some_iff.1 hm
  have h1 := h.many r hlt
  have h2 := h.weight r hlt
  rw [hget] at h1 h2
  have hb : (mr == 0) = false := by rw [beq_eq_false_iff_ne]; exact hz
  have HT := Lib.hid h
  clear h hm hget hlt hz
  obtain ⟨hr1, hr2⟩ := hr
  have d1 : decide ((r : Int) < 1) = false := decide_eq_false (by omega)
  have d2 : decide (32 < (r : Int)) = false := decide_eq_false (by omega)
  go_enter Try.func15, Try.ntmps15
  go_wp2_with (go_at_call 26; refine (made_yes _ HT.out).mono ?_; rintro e w' ⟨rfl, rfl⟩)
  go_ret2
  exact ⟨rfl, rfl⟩

theorem remove57 {m : Nat} {l : List (Int × Fr)} {W : World} (h : IsMap encF W m l) (id : Int) : ∃ o, (Builtin.delete_ #[57, 2] 0 #[.map (some m), .int .i64 id]).run Try.prog W = .ok (.tuple #[]) (setB W m o) ∧ IsMap encF (setB W m o) m (mdel l id) :=
  run_remove (P := Try.prog) Try.underlying57 Try.underlying2 h id 2 0

set_option maxHeartbeats 400000 in
theorem drop_no {b m : Nat} {cap : Int} {l : List (Int × Fr)} {R : List (Int × Int)} (id : Int) (w : World) (h : Tab w b m cap l R) (hn : mget l id = none) :
    Calls Try.prog 24 #[.pointer (some ⟨b, 0, none⟩), .int .i64 id] w fun e w' => e = .returned (.bool false) ∧ Below w.heap.size w w' := by
  have HG := fun W (hW : Tab W b m cap l R) => get_calls id W hW
  simp only [got, hn, Option.getD_none, Option.isSome_none] at HG
  have HT := Lib.hid h
  have HGh := Lib.hid HG
  clear h hn HG
  go_enter Try.func24, Try.ntmps24
  go_wp2_with fail
  refine (HGh.out _ HT.out).mono ?_
  rintro e w1 ⟨rfl, hb⟩
  simp only [encF_agg, Fr.zero]
  have HB := Lib.hid hb
  clear hb
  go_wp2
  go_ret
  exact ⟨rfl, (HB.out.trans ((Below.refl w1.heap.size w1).alloc (Nat.le_refl _) _ |>.mono HB.out.size))⟩

set_option maxHeartbeats 400000 in
theorem drop_yes {b m : Nat} {cap : Int} {l : List (Int × Fr)} {R : List (Int × Int)} (id : Int) (w : World) (h : Tab w b m cap l R) (f : Fr) (hf : mget l id = some f) (r : Nat) (hfr : f.role = r) (hr : r ≤ 32) (mr wr : Int) (hR : R[r]? = some (mr, wr)) (hmr : 1 ≤ mr ∧ mr ≤ 1000) :
    Calls Try.prog 24 #[.pointer (some ⟨b, 0, none⟩), .int .i64 id] w fun e w' => e = .returned (.bool true) ∧ Tab w' b m cap (mdel l id) (R.set r (mr - 1, wr)) ∧ Chg (Own b m) w w' := by
  have HG := fun W (hW : Tab W b m cap l R) => get_calls id W hW
  simp only [got, hf, Option.getD_some, Option.isSome_some] at HG
  have HT := Lib.hid h
  have HGh := Lib.hid HG
  clear h hf HG
  obtain ⟨fid, frole, fw, fu, fq, ft, fl⟩ := f
  simp only at hfr
  subst hfr
  go_enter Try.func24, Try.ntmps24
  go_wp2_with fail
  refine (HGh.out _ HT.out).mono ?_
  rintro e w1 ⟨rfl, hb⟩
  simp only [encF_agg]
  have HT1 := Lib.hid (HT.out.below hb)
  have HB := Lib.hid hb
  have HR := Lib.hid hR
  clear hb hR
  obtain ⟨hm1, hm2⟩ := hmr
  have hbl := HT1.out.lt_b
  go_wp2
  have HT2 := Lib.hid (HT1.out.alloc (.cells #[.int .i64 fid, .int .i64 r, .int .i64 fw, .bool fu, .bool fq, .int .i64 ft, .int .i64 fl] 30))
  have h2 := HT2.out.many' HR.out
  have hfz2 := HT2.out.free (2 + r * 2)
  have h3 := (blk_cell (blk_new w1 (.cells #[.int .i64 fid, .int .i64 r, .int .i64 fw, .bool fu, .bool fq, .int .i64 ft, .int .i64 fl] 30)) 1)
  have HB2 := Lib.hid ((Chg.of_below HB.out (Own b m)).alloc (.cells #[.int .i64 fid, .int .i64 r, .int .i64 fw, .bool fu, .bool fq, .int .i64 ft, .int .i64 fl] 30))
  clear HB HT1
  generalize w1.alloc (.cells #[.int .i64 fid, .int .i64 r, .int .i64 fw, .bool fu, .bool fq, .int .i64 ft, .int .i64 fl] 30) = W at *
  generalize w1.heap.size = g at *
  simp at h3
  have hi1 : (0 : Int) ≤ (r : Int) := by omega
  have hi2 : (r : Int) < 33 := by omega
  have hw : IntKind.i64.wrap (mr - 1) = mr - 1 := IntWalk.i64_in _ (by omega)
  go_still_tail 13, (by kernel_rfl)
  change wpList _ _ _ _ _ W.drew
  have HT3 := Lib.hid HT2.out.drew
  have HB3 := Lib.hid HB2.out.drew
  clear HT2 HB2 h2 h3 hfz2 hw hi1 hi2
  generalize W.drew = W3 at *
  have h4 := HT3.out.many' HR.out
  have h5 := HT3.out.free (2 + r * 2)
  have HT4 := HT3.out.set_many' HR.out (mr - 1)
  have h6 := HT4.cell1
  obtain ⟨o, ho, hm⟩ := remove57 HT4.map id
  have HM := Lib.hid hm
  have HT5 := Lib.hid HT4
  clear HT4 hm
  go_wp2
  go_ret
  exact ⟨rfl, HT5.out.setB HM.out, (HB3.out.setCell (.inl (.inl rfl)) _).setB (.inl (.inr rfl)) _⟩
end Go.Proofs.Ytdckcbahfdcafaa.F
