/- All: the frameworks, by their numbers. -/
import Derived.Test.YtdckcbahfdcafaaRef5
set_option linter.unusedVariables false
set_option linter.unusedSimpArgs false
namespace Go.Proofs.Ytdckcbahfdcafaa.F
open Go.RowKit Go.Sort Go.Proofs.Ytdckcbahfdcafaa.Hp Go.Proofs.Ytdckcbahfdcafaa.Mp
set_option maxRecDepth 100000

theorem info30 : (Try.prog.info? 30).map (fun i => (i.zero, i.size, i.bytes)) = some (some (encF Fr.zero), 7, 48) := by kernel_rfl
theorem cells_new (w : World) (cs : Array Value) (t : TypeId) (xs : List Value) (hx : cs.toList = xs) : ∀ j u, xs[j]? = some u → (w.alloc (.cells cs t)).cell? ((⟨w.heap.size, 0, none⟩ : Addr).add j) = some u := by
  intro j u hj
  rw [Go.WideShapes.add_plain, Nat.zero_add, blk_cell (blk_new w (.cells cs t)), ← Array.getElem?_toList, hx]
  exact hj
theorem one7 (f : Fr) : ∀ u ∈ flatF [f], u.oneCell' = true := by
  intro u hu
  simp only [flatF, cellsF, List.append_nil] at hu
  simp at hu
  rcases hu with rfl | rfl | rfl | rfl | rfl | rfl | rfl <;> rfl

set_option maxHeartbeats 4000000 in
theorem all_calls (hS : SortC) {b m : Nat} {cap : Int} {l : List (Int × Fr)} {R : List (Int × Int)} (w : World) (h : Tab w b m cap l R) (hnd : (l.map (·.1)).Nodup) (hlen : l.length ≤ 900) :
    Calls Try.prog 20 #[.pointer (some ⟨b, 0, none⟩)] w fun e w' => ∃ (v : Value) (ss : List Int), e = .returned v ∧ ss.Perm (l.map (·.1)) ∧ ss.Pairwise (· ≤ ·) ∧ w'.ownsRow w.heap.size 30 7 v (ss.map (got l)).length (flatF (ss.map (got l))) ∧ Below w.heap.size w w' := by
  obtain ⟨i0, hi, hz0, hz1, hz2⟩ := info_parts info30
  have HC := Lib.hid (sorted_calls hS _ h hnd hlen)
  have HT := Lib.hid h
  have HL := Lib.hid hlen
  clear h hnd hlen
  go_enter Try.func20, Try.ntmps20
  go_wp2_with fail
  refine HC.out.mono ?_
  rintro e w1 ⟨v, ss, rfl, hp1, hp2, hrow, hb1⟩
  have hpl : ss.length = l.length := by have := hp1.length_eq; simpa using this
  rw [← hpl] at hrow
  obtain ⟨oa, og, oc, rfl, hoa, hoc⟩ := row_cell hrow
  have HO := Lib.hid (And.intro hoa hoc)
  have HP := Lib.hid (And.intro hp1 (And.intro hp2 hpl))
  have HB1 := Lib.hid hb1
  clear hp1 hp2 hrow hb1 hpl hoa hoc
  go_wp2_with fail
  go_loopg [3, 9] ss.length (fun n v x wr => ∃ (k : Nat), k ≤ ss.length ∧ n = ss.length - k ∧ x = .int .i64 k ∧ Hid (wr.ownsRow w1.heap.size 30 7 v ((ss.take k).map (got l)).length (flatF ((ss.take k).map (got l)))) ∧ Hid (Below w1.heap.size w1 wr))
  case atStart => exact ⟨0, by omega, rfl, rfl, Lib.hid ⟨by simp [flatF], .inl ⟨rfl, rfl⟩⟩, Lib.hid (Below.refl _ _)⟩
  case round =>
    obtain ⟨k, hk, rfl, rfl, hO, hB⟩ := hrel
    have HTr := Lib.hid ((HT.out.below HB1.out).below hB.out)
    by_cases hlt : k < ss.length
    · obtain ⟨h1, h2, h3⟩ := HO.out.1 (by omega)
      subst h1
      have c0 := below_cell hB.out (show og < w1.heap.size from h3) (HO.out.2 k hlt)
      rw [Nat.zero_add] at c0
      have hm := HTr.out.cell1
      have hlk := look57a HTr.out.map ss[k]
      have HF := Lib.hid (show (ss.take (k + 1)).map (got l) = (ss.take k).map (got l) ++ [got l ss[k]] by rw [List.take_add_one, List.getElem?_eq_getElem hlt, Option.toList_some, List.map_append]; rfl)
      generalize ss[k] = x at *
      generalize got l x = f at *
      rw [encF_agg] at hlk
      have hki : (k : Int) < (ss.length : Int) := by omega
      have hk0 : (0 : Int) ≤ (k : Int) := by omega
      have hw : IntKind.i64.wrap ((k : Int) + 1) = (k : Int) + 1 := IntWalk.i64_in _ (by have := HL.out; have := HP.out.2.2; omega)
      have HLT := Lib.hid hlt
      have HLn := Lib.hid (show ((ss.take k).map (got l)).length ≤ 900 by rw [List.length_map]; have := HL.out; have := HP.out.2.2; simp; omega)
      clear h2 h3
      go_wp2_with (at_builtin; refine wpList_append_own _ rfl _ _ 39 rfl w1.heap.size 30 i0 (encF Fr.zero) 7 48 Try.underlying39 hi hz0 hz1 hz2 rfl (by decide) _ _ _ rfl (hO.out.alloc _) ⟨wr.heap.size, 0, none⟩ 1 1 (flatF [f]) rfl rfl (cells_new _ _ _ _ rfl) (one7 f) (by have := HLn.out; unfold maxLen; omega) (by have := HLn.out; omega) (by have := hB.out.size; simp; omega) ?_; intro v' w4 hown' hg4 hnil4)
      go_roundg (ss.length - (k + 1))
      case measure => have := HLT.out; omega
      case rel =>
        refine ⟨k + 1, HLT.out, rfl, by go_num, Lib.hid ?_, Lib.hid ?_⟩
        · rw [HF.out, flatF_append, List.length_append]
          exact hown'
        · exact (hB.out.alloc hB.out.size _).grown hg4 (by have := hB.out.size; simp; omega) (fun j hj => row_own hO.out hj.symm)
    · have hki : decide ((k : Int) < (ss.length : Int)) = false := decide_eq_false (by omega)
      have HTk := Lib.hid (show ss.take k = ss from List.take_of_length_le (by omega))
      go_wp2
      go_ret
      have h := row_base (base' := w.heap.size) hO.out HB1.out.size
      rw [HTk.out] at h
      exact ⟨_, ss, rfl, HP.out.1, HP.out.2.1, h, HB1.out.trans (hB.out.mono HB1.out.size)⟩
end Go.Proofs.Ytdckcbahfdcafaa.F
