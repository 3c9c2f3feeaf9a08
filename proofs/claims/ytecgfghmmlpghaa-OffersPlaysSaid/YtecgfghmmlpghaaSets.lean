/- Walks: put and drop, in a map of maps. -/
import Derived.Test.YtecgfghmmlpghaaWalk1
set_option linter.unusedVariables false
set_option linter.unusedSimpArgs false
namespace Go.Proofs.Ytecgfghmmlpghaa.O
open Go.RowKit Go.Proofs.Ytecgfghmmlpghaa.Hp Go.Proofs.Ytecgfghmmlpghaa.Mp
set_option maxRecDepth 100000

theorem zero71 (w : World) : (zeroValue 71).run Try.prog w = .ok (.map none) w := by kernel_rfl
theorem look44 {w : World} {m : Nat} {l : List (Int × Nat)} (h : IsMap encS w m l) (k : Int) : (Instr.lookup 44 (.map (some m)) (.int .i64 k) false).run Try.prog w = .ok (.map (mget l k)) w := by
  obtain ⟨es, clk, hb, hr, _⟩ := h
  rw [run_look1 (P := Try.prog) Try.underlying44 Try.underlying2 (.map none) zero71 hb hr k]
  cases mget l k <;> rfl
theorem store44 {w : World} {m : Nat} {l : List (Int × Nat)} (h : IsMap encS w m l) (k : Int) (r : Nat) : ∃ o, (Instr.mapUpdate 44 (.map (some m)) (.int .i64 k) (.map (some r))).run Try.prog w = .ok () (setB w m o) ∧ IsMap encS (setB w m o) m (mput l k r) := run_mstore (P := Try.prog) (enc := encS) Try.underlying44 Try.underlying2 h k r
theorem store71 {w : World} {m : Nat} {l : List (Int × Unit)} (h : IsMap encU w m l) (k : Int) : ∃ o, (Instr.mapUpdate 71 (.map (some m)) (.int .i64 k) (.agg #[])).run Try.prog w = .ok () (setB w m o) ∧ IsMap encU (setB w m o) m (mput l k ()) := run_mstore (P := Try.prog) (enc := encU) Try.underlying71 Try.underlying2 h k ()
theorem eql71 (r : Option Nat) (w : World) : (binOp .eql 71 (.map r) (.map none)).run Try.prog w = .ok (.bool r.isNone) w := run_eql_map_nil (P := Try.prog) w 71 2 69 r Try.underlying71
theorem mget_keysU {ids : List Int} {k : Int} : mget (keysU ids) k = if k ∈ ids then some () else none := by
  induction ids with
  | nil => simp [keysU, mget]
  | cons x ids ih =>
    simp only [keysU, List.map_cons, mget] at ih ⊢
    by_cases h : x = k
    · simp [h]
    · rw [if_neg h, ih]
      simp [Ne.symm h]
theorem mput_keysU {ids : List Int} {k : Int} (h : k ∉ ids) : mput (keysU ids) k () = keysU (ids ++ [k]) := by
  rw [mput_none (by rw [mget_keysU, if_neg h])]
  simp [keysU]
theorem mdel_keysU {ids : List Int} {k : Int} : mdel (keysU ids) k = keysU (ids.erase k) := by
  induction ids with
  | nil => rfl
  | cons x ids ih =>
    simp only [keysU, List.map_cons, mdel, List.erase_cons] at ih ⊢
    by_cases h : x = k
    · simp [h]
    · simp [h, ih]
/-- Blocks besides one are as they were. -/
theorem setB_far {w : World} {m : Nat} {o : Obj} {i : Nat} (h : i ≠ m) : (setB w m o).heap[i]? = w.heap[i]? := by
  simp [Hp.setB, Array.getElem?_setIfInBounds, Ne.symm h]
theorem setB_size {w : World} {m : Nat} {o : Obj} : (setB w m o).heap.size = w.heap.size := by simp [Hp.setB]
/-- What put leaves. -/
def PutS (m : Nat) (l : List (Int × Nat)) (ids' : Int → List Int) (w : World) (e : Ending) (w' : World) : Prop :=
  e = .returned (.tuple #[]) ∧ ∃ l', Sets w' m l' ids' ∧ (∀ i, OwnS m l' i → OwnS m l i ∨ w.heap.size ≤ i) ∧ Chg (OwnS m l) w w'
set_option maxHeartbeats 1000000 in
theorem put_some (m : Nat) (l : List (Int × Nat)) (ids : Int → List Int) (whose id : Int) (w : World) (h : Sets w m l ids) (hid : id ∉ ids whose) (r : Nat) (hr : mget l whose = some r) :
    Calls Try.prog 28 #[.map (some m), .int .i64 whose, .int .i64 id] w (PutS m l (fun k => if k = whose then ids whose ++ [id] else ids k) w) := by
  have h1 := look44 h.map whose
  rw [hr] at h1
  have he := eql71 (some r)
  obtain ⟨o, h2, h3⟩ := store71 (h.get whose r hr).1 id
  rw [mput_keysU hid] at h3
  have HS := Lib.hid h
  have HR := Lib.hid hr
  have H3 := Lib.hid h3
  clear h hr h3 hid
  go_enter Try.func28, Try.ntmps28
  go_wp2
  go_end0
  have hne := HS.out.ne whose r HR.out
  refine ⟨rfl, l, ⟨IsMap.heap HS.out.map (setB_far (Ne.symm hne)), HS.out.nd, fun k r2 h2 => ?_, fun k hk => ?_, HS.out.inj, HS.out.ne⟩, fun i hi => .inl hi, (Chg.refl (OwnS m l) w).setB (.inl (.inr ⟨whose, HR.out⟩)) _⟩
  · by_cases hk : k = whose
    · subst hk
      have : r2 = r := Option.some.inj (h2.symm.trans HR.out)
      subst this
      simp only [if_pos]
      exact ⟨H3.out, by simp⟩
    · simp only [if_neg hk]
      exact ⟨IsMap.heap (HS.out.get k r2 h2).1 (setB_far (fun e => hk (HS.out.inj k whose r (e ▸ h2) HR.out))), (HS.out.get k r2 h2).2⟩
  · have : k ≠ whose := fun e => by rw [e, HR.out] at hk; cases hk
    simp only [if_neg this]
    exact HS.out.gone k hk
set_option maxHeartbeats 1000000 in
theorem put_none (m : Nat) (l : List (Int × Nat)) (ids : Int → List Int) (whose id : Int) (w : World) (h : Sets w m l ids) (hr : mget l whose = none) :
    Calls Try.prog 28 #[.map (some m), .int .i64 whose, .int .i64 id] w (PutS m l (fun k => if k = whose then ids whose ++ [id] else ids k) w) := by
  have h1 := look44 h.map whose
  rw [hr] at h1
  have he := eql71 none
  have hmm := @run_makeMap Try.prog
  have hm1 := IsMap.heap (w' := w.alloc (.map #[] 0)) h.map (Below.heap_alloc _ _ _ (IsMap.lt h.map))
  obtain ⟨o, h2, h3⟩ := store44 hm1 whose w.heap.size
  have h4 := look44 h3 whose
  rw [mget_mput, if_pos rfl] at h4
  have hlt := IsMap.lt h.map
  have hfresh : IsMap encU (setB (w.alloc (.map #[] 0)) m o) w.heap.size [] := ⟨#[], 0, (setB_far (by omega)).trans (blk_new _ _), rfl, ⟨by simp, by simp⟩⟩
  obtain ⟨o2, h5, h6⟩ := store71 hfresh id
  have HS := Lib.hid h
  have HR := Lib.hid hr
  have H3 := Lib.hid h3
  have H6 := Lib.hid h6
  have HLT := Lib.hid hlt
  clear h hr h3 h6 hm1 hfresh hlt
  go_enter Try.func28, Try.ntmps28
  go_wp2
  go_end0
  have hempty := HS.out.gone whose HR.out
  have hlt := HLT.out
  have hkeep : ∀ i, i < w.heap.size → i ≠ m → (setB (setB (w.alloc (.map #[] 0)) m o) w.heap.size o2).heap[i]? = w.heap[i]? := fun i hi hne => by
    rw [setB_far (by omega), setB_far hne]
    exact Below.heap_alloc _ _ _ hi
  refine ⟨rfl, mput l whose w.heap.size, ⟨IsMap.heap H3.out (setB_far (by omega)), nodup_mput HS.out.nd _ _, fun k r2 h2 => ?_, fun k hk => ?_, fun k1 k2 r2 e1 e2 => ?_, fun k r2 h2 => ?_⟩, fun i hi => ?_, ?_⟩
  · rw [mget_mput] at h2
    by_cases hk : whose = k
    · rw [if_pos hk] at h2
      obtain rfl := Option.some.inj h2
      subst hk
      simp only [if_pos, hempty]
      exact ⟨H6.out, by simp⟩
    · rw [if_neg hk] at h2
      simp only [if_neg (Ne.symm hk)]
      exact ⟨IsMap.heap (HS.out.get k r2 h2).1 (hkeep r2 (HS.out.own_lt r2 (.inr ⟨k, h2⟩)) (HS.out.ne k r2 h2)), (HS.out.get k r2 h2).2⟩
  · rw [mget_mput] at hk
    split at hk
    · cases hk
    · rename_i hne
      simp only [if_neg (Ne.symm hne)]
      exact HS.out.gone k hk
  · rw [mget_mput] at e1 e2
    split at e1 <;> split at e2
    · rename_i a b; omega
    · have := HS.out.own_lt r2 (.inr ⟨k2, e2⟩)
      have := Option.some.inj e1
      omega
    · have := HS.out.own_lt r2 (.inr ⟨k1, e1⟩)
      have := Option.some.inj e2
      omega
    · exact HS.out.inj k1 k2 r2 e1 e2
  · rw [mget_mput] at h2
    split at h2
    · have := Option.some.inj h2; omega
    · exact HS.out.ne k r2 h2
  · rcases hi with rfl | ⟨k, hk⟩
    · exact .inl (.inl rfl)
    · rw [mget_mput] at hk
      split at hk
      · have := Option.some.inj hk; exact .inr (by omega)
      · exact .inl (.inr ⟨k, hk⟩)
  · exact ((Chg.alloc (Chg.refl (OwnS m l) w) _).setB (.inl (.inl rfl)) _).setB (.inr (Nat.le_refl _)) _
theorem put_calls (m : Nat) (l : List (Int × Nat)) (ids : Int → List Int) (whose id : Int) (w : World) (h : Sets w m l ids) (hid : id ∉ ids whose) :
    Calls Try.prog 28 #[.map (some m), .int .i64 whose, .int .i64 id] w (PutS m l (fun k => if k = whose then ids whose ++ [id] else ids k) w) := by
  cases hr : mget l whose with
  | none => exact put_none m l ids whose id w h hr
  | some r => exact put_some m l ids whose id w h hid r hr
end Go.Proofs.Ytecgfghmmlpghaa.O
