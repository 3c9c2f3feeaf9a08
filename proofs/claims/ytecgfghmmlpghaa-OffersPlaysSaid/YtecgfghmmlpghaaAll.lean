/- Walks: All. -/
import Derived.Test.YtecgfghmmlpghaaAll0
set_option linter.unusedVariables false
set_option linter.unusedSimpArgs false
namespace Go.Proofs.Ytecgfghmmlpghaa.O
open Go.RowKit Go.Sort Go.Proofs.Ytecgfghmmlpghaa.Hp Go.Proofs.Ytecgfghmmlpghaa.Mp Go.Proofs.Ytecgfghmmlpghaa.Ap
set_option maxRecDepth 100000
/-- What All answers. -/
def AllA (os : List Of) (w : World) (e : Ending) (w' : World) : Prop := ∃ v xs, e = .returned v ∧ xs.map (·.1) = os ∧ ORow w.heap.size w' v xs ∧ Below w.heap.size w w'
section
variable {b mo mf ma : Nat} {most last : Int} {lo : List (Int × Ox)} {lf la : List (Int × Nat)}
set_option maxHeartbeats 4000000 in
theorem all_calls (hS : SortC) (w : World) (h : Tof w b mo mf ma most last lo lf la) (hlen : lo.length ≤ 900) (hv : ∀ p ∈ lo, p.2.1.vec.length ≤ 700) :
    Calls Try.prog 12 #[.pointer (some ⟨b, 0, none⟩)] w (AllA (lo.map (·.2.1)) w) := by
  obtain ⟨i0, hi, hz0, hz1, hz2⟩ := info_parts info30
  have HT := Lib.hid h
  have HV := Lib.hid hv
  have HL := Lib.hid hlen
  have KS := Lib.hid (sortedO_calls hS w h.offers h.nd hlen)
  obtain ⟨c0, c1, c2, c3, c4⟩ := h.cells
  clear h hv hlen
  go_enter Try.func12, Try.ntmps12
  go_wp2_with (first | (go_at_call 25; refine (made_yes _ HT.out).mono ?_; rintro e w' ⟨rfl, rfl⟩) | fail)
  refine KS.out.mono ?_
  rintro e w1 ⟨v1, ss, rfl, hp, hs, hrow, hb⟩
  have hss : ss = lo.map (·.1) := hp.eq_of_pairwise (le := (· ≤ ·)) (fun a b _ _ h1 h2 => Int.le_antisymm h1 h2) hs (by
    rw [List.pairwise_map]
    exact HT.out.rise.imp (fun h => Int.le_of_lt h))
  subst hss
  have hrow2 : w1.ownsRow w.heap.size 2 1 v1 (lo.map (·.1)).length ((lo.map (·.1)).map (Value.int .i64)) := by rw [List.length_map]; exact hrow
  obtain ⟨va, vc, rfl, hci⟩ := row_nums hrow2
  rw [List.length_map] at *
  have HCI := Lib.hid hci
  have HB1 := Lib.hid hb
  have HT1 := Lib.hid (HT.out.below hb)
  clear hp hs hrow hrow2 hci hb KS HT c0 c1 c2 c3 c4
  go_wp2_with fail
  go_loopg [3, 16] lo.length (fun n v i wr => ∃ (k : Nat) (xs : List Ox), k ≤ lo.length ∧ n = lo.length - k ∧ i = .int .i64 k ∧ Hid (xs.map (·.1) = (lo.map (·.2.1)).take k) ∧ Hid (ORow w1.heap.size wr v xs) ∧ Hid (Below w1.heap.size w1 wr))
  case atStart => exact ⟨0, [], by omega, rfl, rfl, Lib.hid rfl, Lib.hid (ORow.nil _ _), Lib.hid (Below.refl _ _)⟩
  case round =>
    obtain ⟨k, xs, hk, rfl, rfl, HX, HO, HB⟩ := hrel
    by_cases hlt : k < lo.length
    · obtain ⟨g, rfl, hg1, hg2, hc⟩ := HCI.out k (by rw [List.length_map]; exact hlt)
      rw [List.getElem_map] at hc
      have y : wr.cell? ⟨g, k, none⟩ = some (.int .i64 lo[k].1) := (cell_same (HB.out.block g hg2) k).trans hc
      have HTR := Lib.hid (HT1.out.below HB.out)
      have KG := Lib.hid (get_some lo[k].1 wr HTR.out lo[k].2 (mget_mem HTR.out.nd (List.getElem_mem hlt)) (HV.out _ (List.getElem_mem hlt)))
      have hXk : (lo.map (·.2.1)).take (k + 1) = (lo.map (·.2.1)).take k ++ [lo[k].2.1] := by
        rw [List.take_succ_eq_append_getElem (by rw [List.length_map]; exact hlt), List.getElem_map]
      have HXK := Lib.hid hXk
      have hxl : xs.length = k := by
        have := congrArg List.length HX.out
        rw [List.length_map, List.length_take, List.length_map] at this
        omega
      have HXL := Lib.hid hxl
      have hki : (k : Int) < (lo.length : Int) := by omega
      have hk0 : (0 : Int) ≤ (k : Int) := by omega
      have hw : IntKind.i64.wrap ((k : Int) + 1) = (k : Int) + 1 := IntWalk.i64_in _ (by have := HL.out; omega)
      have HLT := Lib.hid hlt
      clear hc hg1 hXk hxl hk
      generalize lo[k] = p at *
      obtain ⟨pid, ⟨oid, ofr, oag, ovec, otill⟩, pva, pvc⟩ := p
      simp only at HXK
      have KG : Hid (Calls Try.prog 15 #[.pointer (some ⟨b, 0, none⟩), .int .i64 pid] wr fun e w' => ∃ va vc, e = .returned (.tuple #[.agg #[.int .i64 oid, .int .i64 ofr, .int .i64 oag, .slice va ovec.length vc, .int .i64 otill], .bool true]) ∧ PAt (New wr w') w' va ovec ∧ Below wr.heap.size wr w') := KG
      go_wp2_with fail
      refine KG.out.mono ?_
      rintro e w2 ⟨va', vc', rfl, hp2, hb2⟩
      have HP2 := Lib.hid hp2
      have HB2 := Lib.hid hb2
      clear hp2 hb2 KG
      have hba := (Below.refl _ w2).alloc (Nat.le_refl _) (.cells #[.int .i64 oid, .int .i64 ofr, .int .i64 oag, .slice va' ovec.length vc', .int .i64 otill] 30)
      have HN := Lib.hid (blk_new w2 (.cells #[.int .i64 oid, .int .i64 ofr, .int .i64 oag, .slice va' ovec.length vc', .int .i64 otill] 30))
      have HO3 := Lib.hid ((HO.out.below HB2.out).below hba)
      have HB3 := Lib.hid (HB.out.trans ((HB2.out.trans (hba.mono HB2.out.size)).mono HB.out.size))
      have HP3 := Lib.hid (HP2.out.keep (w' := w2.alloc (.cells #[.int .i64 oid, .int .i64 ofr, .int .i64 oag, .slice va' ovec.length vc', .int .i64 otill] 30)) (T' := fun i => w1.heap.size ≤ i ∧ i < (w2.alloc (.cells #[.int .i64 oid, .int .i64 ofr, .int .i64 oag, .slice va' ovec.length vc', .int .i64 otill] 30)).heap.size ∧ u3.ownBlock ≠ some i) (fun i hi => Below.heap_alloc _ _ _ hi.2)
        (fun i hi => ⟨Nat.le_trans HB.out.size hi.1, Nat.lt_of_lt_of_le hi.2 hba.size, fun e => by have := (HO.out.row.lt i e).2; have := hi.1; omega⟩))
      clear hba HP2 HB2 HO HB HTR
      have hn := blk_cell HN.out
      have n0 := hn 0
      have n1 := hn 1
      have n2 := hn 2
      have n3 := hn 3
      have n4 := hn 4
      clear hn
      have HCN : Hid (∀ j u, (flatO [((⟨oid, ofr, oag, ovec, otill⟩ : Of), va', vc')])[j]? = some u → ((w2.alloc (.cells #[.int .i64 oid, .int .i64 ofr, .int .i64 oag, .slice va' ovec.length vc', .int .i64 otill] 30)).alloc (.cells #[.int .i64 oid, .int .i64 ofr, .int .i64 oag, .slice va' ovec.length vc', .int .i64 otill] 30)).cell? ((⟨w2.heap.size + 1, 0, none⟩ : Addr).add j) = some u) := Lib.hid (by
        have := cells_new (w2.alloc (.cells #[.int .i64 oid, .int .i64 ofr, .int .i64 oag, .slice va' ovec.length vc', .int .i64 otill] 30)) (cellsO (⟨oid, ofr, oag, ovec, otill⟩, va', vc')) 30 (flatO [((⟨oid, ofr, oag, ovec, otill⟩ : Of), va', vc')]) (by simp [flatO])
        rw [show (w2.alloc (.cells #[.int .i64 oid, .int .i64 ofr, .int .i64 oag, .slice va' ovec.length vc', .int .i64 otill] 30)).heap.size = w2.heap.size + 1 by simp] at this
        exact this)
      go_wp2_with (at_builtin; refine wpList_append_rows _ rfl _ _ 39 rfl w1.heap.size 30 i0 _ 5 56 Try.underlying39 hi hz0 hz1 hz2 rfl (by decide) _ xs.length (flatO xs) rfl (HO3.out.row.alloc _) (some ⟨w2.heap.size + 1, 0, none⟩) 1 1 (flatO [(⟨oid, ofr, oag, ovec, otill⟩, va', vc')]) rfl rfl (fun _ => ⟨_, rfl, HCN.out⟩) (flatO_one _) (by have := HXL.out; have := HL.out; have := HLT.out; unfold maxLen; omega) (by have := HXL.out; have := HL.out; have := HLT.out; omega) (by have := HB3.out.size; simp at this; simp; omega) ?_; intro fs fc w5 hown hg5 hat)
      have HO5 := Lib.hid (HO3.out.app HP3.out hg5 hown hat)
      have HB5 := Lib.hid ((HB3.out.alloc HB3.out.size _).grown hg5 (by have := HB3.out.size; simp at this ⊢; omega) (fun j hj => (HO3.out.row.lt j hj).1))
      clear hown hg5 hat HO3 HB3 HP3
      go_roundg (lo.length - (k + 1))
      case measure => have := HLT.out; omega
      case rel => exact ⟨k + 1, _, HLT.out, rfl, by go_num, Lib.hid (by rw [HXK.out, List.map_append, HX.out]; rfl), HO5, HB5⟩
    · have hki : decide ((k : Int) < (lo.length : Int)) = false := decide_eq_false (by omega)
      have hXX : xs.map (·.1) = lo.map (·.2.1) := by rw [HX.out, List.take_of_length_le (by rw [List.length_map]; omega)]
      have HXX := Lib.hid hXX
      have HO9 : Hid (ORow w.heap.size wr u3 xs) := Lib.hid ⟨row_base HO.out.row HB1.out.size, fun x hx => (HO.out.vec x hx).keep (fun _ _ => rfl) (fun i hi => ⟨Nat.le_trans HB1.out.size hi.1, hi.2⟩)⟩
      have HB9 := Lib.hid (HB1.out.trans (HB.out.mono HB1.out.size))
      clear hXX hk HX HO HB
      go_wp2_with fail
      go_ret
      exact ⟨_, xs, rfl, HXX.out, HO9.out, HB9.out⟩
end
/-- A plain table's. -/
theorem all_plain (b : Nat) (w : World) (h : w.cell? ⟨b, 2, none⟩ = some (.map none)) : Calls Try.prog 12 #[.pointer (some ⟨b, 0, none⟩)] w fun e w' => e = .returned (.slice none 0 0) ∧ w = w' := by
  go_enter Try.func12, Try.ntmps12
  go_wp2_with (first | (go_at_call 25; refine (made_plain _ _ h).mono ?_; rintro e w' ⟨rfl, rfl⟩) | fail)
  go_ret
  exact ⟨rfl, rfl⟩
end Go.Proofs.Ytecgfghmmlpghaa.O
