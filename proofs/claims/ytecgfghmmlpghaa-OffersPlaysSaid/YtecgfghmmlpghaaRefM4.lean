/- Walks: the reference's Of. -/
import Derived.Test.YtecgfghmmlpghaaRefM0
set_option linter.unusedVariables false
set_option linter.unusedSimpArgs false
namespace Go.Proofs.Ytecgfghmmlpghaa.O
open Go.RowKit Go.Sort Go.Proofs.Ytecgfghmmlpghaa.Hp Go.Proofs.Ytecgfghmmlpghaa.Mp Go.Proofs.Ytecgfghmmlpghaa.Ap
set_option maxRecDepth 100000
/-- Whose they are. -/
def ofF (os : List Of) (fr ag : Int) : List Int := (os.filter (fun o => o.frame == fr || o.agent == ag)).map (·.id)
theorem ofF_succ {os : List Of} {fr ag : Int} {k : Nat} (h : k < os.length) : ofF (os.take (k + 1)) fr ag = if (os[k].frame == fr || os[k].agent == ag) = true then ofF (os.take k) fr ag ++ [os[k].id] else ofF (os.take k) fr ag := by
  unfold ofF
  rw [List.take_add_one, List.getElem?_eq_getElem h, Option.toList_some, List.filter_append, List.filter_cons]
  cases e : (os[k].frame == fr || os[k].agent == ag) <;> simp
theorem ofF_length (os : List Of) (fr ag : Int) : (ofF os fr ag).length ≤ os.length := by
  unfold ofF
  rw [List.length_map]
  exact List.length_filter_le _ _
set_option maxHeartbeats 4000000 in
theorem refOfIds_calls (T : Nat → Prop) (most last fr ag : Int) (fa : Option Addr) (g fc : Nat) (xs : List Ox) (w : World) (hlen : xs.length ≤ 900) (hT : ∀ i, T i → i < w.heap.size) (h : OAt T w fa g 0 xs) :
    Calls Try.prog 22 #[.agg #[.int .i64 most, .int .i64 last, .slice fa xs.length fc], .int .i64 fr, .int .i64 ag] w fun e w' => ∃ fb fd, e = .returned (.slice fb (ofF (xs.map (·.1)) fr ag).length fd) ∧ Hid (NAt w' fb (ofF (xs.map (·.1)) fr ag)) ∧ Below w.heap.size w w' := by
  obtain ⟨i0, hi, hz0, hz1, hz2⟩ := info_parts info2
  have HA := Lib.hid h
  have HT := Lib.hid hT
  have HL := Lib.hid hlen
  have HB0 := Lib.hid ((Below.refl _ w).alloc (Nat.le_refl _) (.cells #[.int .i64 most, .int .i64 last, .slice fa xs.length fc] 54))
  have HX0 := Lib.hid (blk_new w (.cells #[.int .i64 most, .int .i64 last, .slice fa xs.length fc] 54))
  clear h hT hlen
  go_enter Try.func22, Try.ntmps22
  go_wp2_with fail
  generalize w.alloc (.cells #[.int .i64 most, .int .i64 last, .slice fa xs.length fc] 54) = W0 at *
  go_loopg [7, 8] xs.length (fun n v i wr => ∃ (k : Nat) (acc : List Int), k ≤ xs.length ∧ n = xs.length - k ∧ i = .int .i64 k ∧ Hid (acc = ofF ((xs.map (·.1)).take k) fr ag) ∧ Hid (wr.heap[w.heap.size]? = some (.cells #[.int .i64 most, .int .i64 last, .slice fa xs.length fc] 54 (0, 0))) ∧ Hid (wr.ownsRow (w.heap.size + 1) 2 1 v acc.length (acc.map (Value.int .i64))) ∧ Hid (Below w.heap.size w wr))
  case atStart => exact ⟨0, [], by omega, rfl, rfl, Lib.hid rfl, HX0, Lib.hid (World.ownsRow_nil _ _ _ _), HB0⟩
  case round =>
    obtain ⟨k, acc, hk, rfl, rfl, HACC, HX, HO, HB⟩ := hrel
    have b2 := blk_cell HX.out 2
    by_cases hlt : k < xs.length
    · obtain ⟨rfl, hg⟩ := HA.out.lt (by omega)
      have hcc := (HA.out.keep (w' := wr) (T' := T) (fun i hi => HB.out.block i (HT.out i hi)) (fun _ h => h)).cells hlt
      simp only [Nat.zero_add] at hcc
      obtain ⟨x0, x1, x2, x3, x4⟩ := hcc
      have hs := ofF_succ (os := xs.map (·.1)) (fr := fr) (ag := ag) (k := k) (by rw [List.length_map]; exact hlt)
      rw [List.getElem_map, ← HACC.out] at hs
      have HS := Lib.hid hs
      have hal : acc.length ≤ 900 := by
        have := ofF_length ((xs.map (·.1)).take k) fr ag
        rw [← HACC.out, List.length_take, List.length_map] at this
        have := HL.out
        omega
      have HAL := Lib.hid hal
      have HSZ := Lib.hid (show w.heap.size + 1 ≤ wr.heap.size from blk_lt HX.out)
      have hki : (k : Int) < (xs.length : Int) := by omega
      have hk0 : (0 : Int) ≤ (k : Int) := by omega
      have hw : IntKind.i64.wrap ((k : Int) + 1) = (k : Int) + 1 := IntWalk.i64_in _ (by have := HL.out; omega)
      have HLT : Hid (k < xs.length) := Lib.hid hlt
      clear hs hal hk hg
      generalize xs[k] = x at *
      obtain ⟨⟨oid, ofr, oag, ovec, otill⟩, va, vc⟩ := x
      simp only at x0 x1 x2 x3 x4 HS
      cases hc1 : (ofr == fr) with
      | true =>
        rw [hc1, Bool.true_or, if_pos rfl] at HS
        have hc2 : decide (ofr = fr) = true := by simpa using hc1
        go_wp2_with (at_builtin; refine wpList_append_own _ rfl _ _ 41 rfl (w.heap.size + 1) 2 i0 (.int .i64 0) 1 8 Try.underlying41 hi hz0 hz1 hz2 rfl (by decide) _ _ _ rfl (HO.out.alloc _) ⟨wr.heap.size, 0, none⟩ 1 1 [.int .i64 oid] rfl rfl (cell_one_new _ _ _) (ints_oneCell .i64 [oid]) (by have := HAL.out; unfold maxLen; omega) (by have := HAL.out; omega) (by have := HSZ.out; simp; omega) ?_; intro v' w3 hown' hg3 hnil3)
        have HB3 := Lib.hid ((HB.out.alloc HB.out.size _).grown hg3 (by have := HB.out.size; simp at this ⊢; omega) (fun j hj => by have := HO.out.lt j hj; omega))
        have HX3 := Lib.hid ((hg3.block _ (by have := HSZ.out; simp; omega) (fun e => by have := HO.out.lt _ e.symm; omega)).trans (blk_alloc HX.out))
        go_roundg (xs.length - (k + 1))
        case measure => have := HLT.out; omega
        case rel => exact ⟨k + 1, acc ++ [oid], HLT.out, rfl, by go_num, Lib.hid HS.out.symm, HX3, Lib.hid (by simpa using hown'), HB3⟩
      | false =>
        have hc2 : decide (ofr = fr) = false := by simpa using hc1
        cases hc3 : (oag == ag) with
        | true =>
          rw [hc1, hc3, Bool.or_true, if_pos rfl] at HS
          have hc4 : decide (oag = ag) = true := by simpa using hc3
          go_wp2_with (at_builtin; refine wpList_append_own _ rfl _ _ 41 rfl (w.heap.size + 1) 2 i0 (.int .i64 0) 1 8 Try.underlying41 hi hz0 hz1 hz2 rfl (by decide) _ _ _ rfl (HO.out.alloc _) ⟨wr.heap.size, 0, none⟩ 1 1 [.int .i64 oid] rfl rfl (cell_one_new _ _ _) (ints_oneCell .i64 [oid]) (by have := HAL.out; unfold maxLen; omega) (by have := HAL.out; omega) (by have := HSZ.out; simp; omega) ?_; intro v' w3 hown' hg3 hnil3)
          have HB3 := Lib.hid ((HB.out.alloc HB.out.size _).grown hg3 (by have := HB.out.size; simp at this ⊢; omega) (fun j hj => by have := HO.out.lt j hj; omega))
          have HX3 := Lib.hid ((hg3.block _ (by have := HSZ.out; simp; omega) (fun e => by have := HO.out.lt _ e.symm; omega)).trans (blk_alloc HX.out))
          go_roundg (xs.length - (k + 1))
          case measure => have := HLT.out; omega
          case rel => exact ⟨k + 1, acc ++ [oid], HLT.out, rfl, by go_num, Lib.hid HS.out.symm, HX3, Lib.hid (by simpa using hown'), HB3⟩
        | false =>
          rw [hc1, hc3, Bool.or_false, if_neg (by simp)] at HS
          have hc4 : decide (oag = ag) = false := by simpa using hc3
          go_wp2_with fail
          go_roundg (xs.length - (k + 1))
          case measure => have := HLT.out; omega
          case rel => exact ⟨k + 1, acc, HLT.out, rfl, by go_num, Lib.hid HS.out.symm, HX, HO, HB⟩
    · have hki : decide ((k : Int) < (xs.length : Int)) = false := decide_eq_false (by omega)
      have hacc : acc = ofF (xs.map (·.1)) fr ag := by rw [HACC.out, List.take_of_length_le (by rw [List.length_map]; omega)]
      have HE := Lib.hid hacc
      obtain ⟨fb, fd, rfl, hc⟩ := row_nums HO.out
      have HN : Hid (NAt wr fb acc) := Lib.hid (fun k hk => by obtain ⟨g, h1, _, h2, h3⟩ := hc k hk; exact ⟨g, h1, h2, h3⟩)
      clear hacc hk hc
      go_wp2_with fail
      go_ret
      exact ⟨fb, fd, by rw [← HE.out]; rfl, by rw [← HE.out]; exact HN, HB.out⟩
end Go.Proofs.Ytecgfghmmlpghaa.O
