/- Walks: made, Last, New, vec.Copy. -/
import Derived.Test.YtecgfghmmlpghaaDat
import Derived.Deep.QuietTactic
import Derived.BigQuiet
import Derived.WalkMore
import Derived.Lib.Hide
set_option linter.unusedVariables false
set_option linter.unusedSimpArgs false
namespace Go.Proofs.Ytecgfghmmlpghaa.O
open Go.RowKit Go.Proofs.Ytecgfghmmlpghaa.Hp Go.Proofs.Ytecgfghmmlpghaa.Mp
set_option maxRecDepth 100000

theorem neq43 (r : Option Nat) (w : World) : (binOp .neq 43 (.map r) (.map none)).run Try.prog w = .ok (.bool (!r.isNone)) w := run_neq_map_nil (P := Try.prog) w 43 2 30 r Try.underlying43
section
variable {b mo mf ma : Nat} {most last : Int} {lo : List (Int × Ox)} {lf la : List (Int × Nat)}
set_option maxHeartbeats 400000 in
theorem made_yes (w : World) (h : Tof w b mo mf ma most last lo lf la) :
    Calls Try.prog 25 #[.pointer (some ⟨b, 0, none⟩)] w fun e w' => e = .returned (.bool true) ∧ w = w' := by
  have h2 := h.cells.2.2.1
  have hn := neq43 (some mo)
  clear h
  go_enter Try.func25, Try.ntmps25
  go_wp2
  go_ret
  exact ⟨rfl, rfl⟩
set_option maxHeartbeats 400000 in
theorem made_nil (w : World) : Calls Try.prog 25 #[.pointer none] w fun e w' => e = .returned (.bool false) ∧ w = w' := by
  go_enter Try.func25, Try.ntmps25
  go_wp2
  go_ret
  exact ⟨rfl, rfl⟩
set_option maxHeartbeats 400000 in
theorem made_plain (b : Nat) (w : World) (h1 : w.cell? ⟨b, 2, none⟩ = some (.map none)) : Calls Try.prog 25 #[.pointer (some ⟨b, 0, none⟩)] w fun e w' => e = .returned (.bool false) ∧ w = w' := by
  have hn := neq43 none
  go_enter Try.func25, Try.ntmps25
  go_wp2
  go_ret
  exact ⟨rfl, rfl⟩
set_option maxHeartbeats 400000 in
theorem last_calls (w : World) (h : Tof w b mo mf ma most last lo lf la) :
    Calls Try.prog 10 #[.pointer (some ⟨b, 0, none⟩)] w fun e w' => e = .returned (.int .i64 last) ∧ w = w' := by
  have h1 := h.cells.2.1
  have HT := Lib.hid h
  clear h
  go_enter Try.func10, Try.ntmps10
  go_wp2_with (go_at_call 25; refine (made_yes _ HT.out).mono ?_; rintro e w' ⟨rfl, rfl⟩)
  go_ret
  exact ⟨rfl, rfl⟩
end
set_option maxHeartbeats 400000 in
theorem new_no (most : Int) (w : World) (h : most < 0 ∨ 9007199254740992 < most) : Calls Try.prog 7 #[.int .i64 most] w fun e w' => e = .returned (.pointer none) ∧ w = w' := by
  have hq : most < 0 ∨ ¬ most < 0 ∧ 9007199254740992 < most := by omega
  rcases hq with hq | ⟨hq1, hq2⟩
  all_goals
    clear h
    go_enter Try.func7, Try.ntmps7
    go_wp2
    go_ret
    exact ⟨rfl, rfl⟩
set_option maxHeartbeats 1000000 in
theorem new_yes (most : Int) (w : World) (h : 0 ≤ most ∧ most ≤ 9007199254740992) : Calls Try.prog 7 #[.int .i64 most] w fun e w' => e = .returned (.pointer (some ⟨w.heap.size + 3, 0, none⟩)) ∧ Tof w' (w.heap.size + 3) w.heap.size (w.heap.size + 1) (w.heap.size + 2) most 0 [] [] [] ∧ Below w.heap.size w w' := by
  have hmm := @run_makeMap Try.prog
  have h1 : ¬ most < 0 := by omega
  have h2 : ¬ 9007199254740992 < most := by omega
  clear h
  go_enter Try.func7, Try.ntmps7
  go_wp2
  go_ret
  refine ⟨rfl, ?_, ((((Below.refl _ _).alloc (Nat.le_refl _) _).alloc (by simp) _).alloc (by simp; omega) _).alloc (by simp; omega) _⟩
  have e1 := blk_new w (.map #[] 0)
  have s1 : (w.alloc (.map #[] 0)).heap.size = w.heap.size + 1 := by simp
  generalize w.alloc (.map #[] 0) = w1 at *
  have e2 := blk_new w1 (.map #[] 0)
  have e1 := blk_alloc (o' := .map #[] 0) e1
  have s2 : (w1.alloc (.map #[] 0)).heap.size = w.heap.size + 2 := by simp; omega
  rw [s1] at e2
  generalize w1.alloc (.map #[] 0) = w2 at *
  have e3 := blk_new w2 (.map #[] 0)
  have e1 := blk_alloc (o' := .map #[] 0) e1
  have e2 := blk_alloc (o' := .map #[] 0) e2
  have s3 : (w2.alloc (.map #[] 0)).heap.size = w.heap.size + 3 := by simp; omega
  rw [s2] at e3
  generalize w2.alloc (.map #[] 0) = w3 at *
  have e4 := blk_new w3 (.cells #[.int .i64 most, .int .i64 0, .map (some w.heap.size), .map (some (w.heap.size + 1)), .map (some (w.heap.size + 2))] 46)
  rw [s3] at e4
  have hs : ∀ {w' : World} (m : Nat), w'.heap[m]? = some (.map #[] 0) → Sets w' m [] (fun _ => []) := fun m hm => ⟨⟨#[], 0, hm, rfl, ⟨by simp, by simp⟩⟩, by simp, by simp [mget], fun _ _ => rfl, by simp [mget], by simp [mget]⟩
  have hno : ∀ (m i : Nat), OwnS m [] i → i = m := fun m i hi => by
    rcases hi with h | ⟨k, hk⟩
    · exact h
    · simp [mget] at hk
  exact ⟨e4, ⟨#[], 0, blk_alloc e1, rfl, ⟨by simp, by simp⟩⟩, by simp, by simp, by simp, hs _ (blk_alloc e2), hs _ (blk_alloc e3), ⟨fun h => by have := hno _ _ h; omega, fun h => by have := hno _ _ h; omega⟩, fun i h1 h2 => by have := hno _ _ h1; have := hno _ _ h2; omega, Int.le_refl _⟩
/-- Blocks that are new. -/
def New (w w' : World) : Nat → Prop := fun i => w.heap.size ≤ i ∧ i < w'.heap.size
theorem madeCells_get (z : Array Value) (n : Nat) (j : Nat) (hj : j < n) : (madeCells z n)[j]? = some z[j % z.size]! := by
  unfold madeCells
  simp [hj]
set_option maxHeartbeats 400000 in
theorem copy_calls (T : Nat → Prop) (va : Option Addr) (vc : Nat) (vec : List Pt) (w : World) (h : PAt T w va vec) (hT : ∀ i, T i → i < w.heap.size) (hlen : vec.length ≤ 700) :
    Calls Try.prog 27 #[.slice va vec.length vc] w fun e w' => ∃ va', e = .returned (.slice va' vec.length vec.length) ∧ VAt w' va' vec ∧ PAt (New w w') w' va' vec ∧ Below w.heap.size w w' := by
  obtain ⟨i0, hi, hz0, hz1, hz2⟩ := info_parts info48
  have hs48 : (Try.prog.info? 48).map (·.size) = some 3 := by rw [hi]; simp [hz1]
  obtain ⟨g, o, h1, h2⟩ := h
  have hB := (Below.refl _ w).alloc (Nat.le_refl _) (.cells (madeCells #[.int .i64 0, .int .i64 0, .int .i64 0] (vec.length * 3)) 48)
  have HSRC := Lib.hid (fun (h0 : 0 < vec.length) (j : Nat) (v : Value) (hj : (flatP vec)[j]? = some v) => show (w.alloc (.cells (madeCells #[.int .i64 0, .int .i64 0, .int .i64 0] (vec.length * 3)) 48)).cell? ((⟨g, o, none⟩ : Addr).add j) = some v from by
    rw [add_flat]
    exact below_cell hB (hT _ (h1 h0).2) (h2 j v hj))
  have H1 := Lib.hid h1
  have HB := Lib.hid hB
  have HFIT := Lib.hid (show 0 + (flatP vec).length ≤ (madeCells #[Value.int .i64 0, .int .i64 0, .int .i64 0] (vec.length * 3)).size by rw [size_madeCells, flatP_length]; omega)
  have HL := Lib.hid hlen
  clear h1 h2 hT hlen hB
  go_enter Try.func27, Try.ntmps27
  go_wp2_with (first
    | (refine wpList_make_n _ rfl _ _ 26 rfl 48 i0 (.agg #[.int .i64 0, .int .i64 0, .int .i64 0]) 3 24 Try.underlying26 hi hz0 hz1 hz2 .i64 .i64 _ vec.length rfl rfl rfl (by have := HL.out; omega) (by have := HL.out; omega) ?_)
    | ((with_reducible refine wpList_copy_n rfl (.tmp 7) (.tmp 8) 26 26 rfl 48 3 Try.underlying26 hs48 (some ⟨w.heap.size, 0, none⟩) va vec.length vec.length vec.length vc ?_ ?_ w.heap.size 0 _ 48 (blk_new _ _) vec.length (Nat.min_self _) (flatP vec) (flatP_length vec) (fun h0 => ⟨rfl, ⟨g, o, none⟩, (H1.out h0).1, HSRC.out h0⟩) HFIT.out (flatP_one vec) ?_); (· rfl); (· rfl); intro w2 hb2 hc2; have HB2 := Lib.hid hb2; have HC2 := Lib.hid hc2; clear hb2 hc2))
  go_ret
  have hlen2 : (splice (madeCells #[Value.int .i64 0, .int .i64 0, .int .i64 0] (vec.length * 3)).toList 0 (flatP vec)) = flatP vec := by
    unfold splice
    have e1 : (madeCells #[Value.int .i64 0, .int .i64 0, .int .i64 0] (vec.length * 3)).toList.length = (flatP vec).length := by rw [Array.length_toList, size_madeCells, flatP_length]
    rw [List.take_zero, List.nil_append, Nat.zero_add, ← e1, List.drop_length, List.append_nil]
  have hcs : (splice (madeCells #[Value.int .i64 0, .int .i64 0, .int .i64 0] (vec.length * 3)).toList 0 (flatP vec)).toArray.toList = flatP vec := by rw [List.toList_toArray, hlen2]
  refine ⟨_, rfl, ⟨w.heap.size, _, fun _ => rfl, HB2.out, hcs⟩, ⟨w.heap.size, 0, fun _ => ⟨rfl, Nat.le_refl _, blk_lt HB2.out⟩, fun j u hu => ?_⟩, ?_⟩
  · rw [Nat.zero_add, blk_cell HB2.out, ← Array.getElem?_toList, hcs]
    exact hu
  · exact HB.out.trans (HC2.out.below (fun i hi => by omega) (by simp))
end Go.Proofs.Ytecgfghmmlpghaa.O
