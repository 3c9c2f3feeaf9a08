/- Walks: made, find, New, Open, Shut, Long, Lost. -/
import Derived.Test.YtchhpgnlfofdcaaTab
import Derived.Deep.QuietTactic
import Derived.BigQuiet
import Derived.WalkMore
import Derived.Lib.Hide
set_option linter.unusedVariables false
set_option linter.unusedSimpArgs false
namespace Go.Proofs.Ytchhpgnlfofdcaa.Q
open Go.RowKit Go.Proofs.Ytchhpgnlfofdcaa.Hp Go.Proofs.Ytchhpgnlfofdcaa.Mp
set_option maxRecDepth 100000

theorem neq33 (r : Option Nat) (w : World) : (binOp .neq 33 (.map r) (.map none)).run Try.prog w = .ok (.bool (!r.isNone)) w := run_neq_map_nil (P := Try.prog) w 33 2 54 r Try.underlying33

set_option maxHeartbeats 400000 in
theorem made_yes {b m : Nat} {most : Int} {l : List (Int × Qr)} (w : World) (h : Tq w b m most l) :
    Calls Try.prog 18 #[.pointer (some ⟨b, 0, none⟩)] w fun e w' => e = .returned (.bool true) ∧ w = w' := by
  have h1 := h.cell1
  have hn := neq33 (some m)
  clear h
  go_enter Try.func18, Try.ntmps18
  go_wp2
  go_ret
  exact ⟨rfl, rfl⟩
set_option maxHeartbeats 400000 in
theorem made_nil (w : World) : Calls Try.prog 18 #[.pointer none] w fun e w' => e = .returned (.bool false) ∧ w = w' := by
  go_enter Try.func18, Try.ntmps18
  go_wp2
  go_ret
  exact ⟨rfl, rfl⟩
set_option maxHeartbeats 400000 in
theorem made_plain (b : Nat) (w : World) (h1 : w.cell? ⟨b, 1, none⟩ = some (.map none)) : Calls Try.prog 18 #[.pointer (some ⟨b, 0, none⟩)] w fun e w' => e = .returned (.bool false) ∧ w = w' := by
  have hn := neq33 none
  go_enter Try.func18, Try.ntmps18
  go_wp2
  go_ret
  exact ⟨rfl, rfl⟩

/-- What find tells. -/
def ptrQ (l : List (Int × Qr)) (k : Int) : Value := match mget l k with
  | some q => encQ q
  | none => .pointer none
theorem look33 {m : Nat} {l : List (Int × Qr)} {W : World} (hm : IsMap encQ W m l) (k : Int) :
    (Instr.lookup 33 (.map (some m)) (.int .i64 k) true).run Try.prog W = .ok (.tuple #[ptrQ l k, .bool (mget l k).isSome]) W := by
  obtain ⟨es, clk, hb, h, _⟩ := hm
  rw [run_look (P := Try.prog) Try.underlying33 Try.underlying2 (.pointer none) zero54 hb h k]
  unfold ptrQ
  cases mget l k <;> rfl
set_option maxHeartbeats 400000 in
theorem find_calls {b m : Nat} {most : Int} {l : List (Int × Qr)} (k : Int) (w : World) (h : Tq w b m most l) :
    Calls Try.prog 17 #[.pointer (some ⟨b, 0, none⟩), .int .i64 k] w fun e w' => e = .returned (.tuple #[ptrQ l k, .bool (mget l k).isSome]) ∧ w = w' := by
  have hl := look33 h.map k
  have h1 := h.cell1
  have HT := Lib.hid h
  have hv : ∃ a, ptrQ l k = .pointer a := by unfold ptrQ encQ; cases mget l k <;> exact ⟨_, rfl⟩
  obtain ⟨a, ha⟩ := hv
  rw [ha] at hl ⊢
  generalize (mget l k).isSome = s at *
  clear h ha
  go_enter Try.func17, Try.ntmps17
  go_wp2_with (go_at_call 18; refine (made_yes _ HT.out).mono ?_; rintro e w' ⟨rfl, rfl⟩)
  go_ret2
  exact ⟨rfl, rfl⟩
set_option maxHeartbeats 400000 in
theorem find_nil (k : Int) (w : World) : Calls Try.prog 17 #[.pointer none, .int .i64 k] w fun e w' => e = .returned (.tuple #[.pointer none, .bool false]) ∧ w = w' := by
  go_enter Try.func17, Try.ntmps17
  go_wp2_with (go_at_call 18; refine (made_nil _).mono ?_; rintro e w' ⟨rfl, rfl⟩)
  go_ret2
  exact ⟨rfl, rfl⟩
set_option maxHeartbeats 400000 in
theorem find_plain (b : Nat) (k : Int) (w : World) (h1 : w.cell? ⟨b, 1, none⟩ = some (.map none)) : Calls Try.prog 17 #[.pointer (some ⟨b, 0, none⟩), .int .i64 k] w fun e w' => e = .returned (.tuple #[.pointer none, .bool false]) ∧ w = w' := by
  go_enter Try.func17, Try.ntmps17
  go_wp2_with (go_at_call 18; refine (made_plain _ _ h1).mono ?_; rintro e w' ⟨rfl, rfl⟩)
  go_ret2
  exact ⟨rfl, rfl⟩

set_option maxHeartbeats 400000 in
theorem new_no (most : Int) (w : World) (h : most < 1) : Calls Try.prog 6 #[.int .i64 most] w fun e w' => e = .returned (.pointer none) ∧ w = w' := by
  go_enter Try.func6, Try.ntmps6
  go_wp2
  go_ret
  exact ⟨rfl, rfl⟩
set_option maxHeartbeats 400000 in
theorem new_yes (most : Int) (w : World) (h : 1 ≤ most) : Calls Try.prog 6 #[.int .i64 most] w fun e w' => e = .returned (.pointer (some ⟨w.heap.size + 1, 0, none⟩)) ∧ Tq w' (w.heap.size + 1) w.heap.size most [] ∧ Below w.heap.size w w' := by
  have hmm := @run_makeMap Try.prog
  go_enter Try.func6, Try.ntmps6
  go_wp2
  go_ret
  refine ⟨rfl, ⟨?_, ⟨#[], 0, blk_alloc (blk_new _ _), rfl, ⟨by simp, by simp⟩⟩, by simp, by simp [mget], by simp [mget]⟩, (((Below.refl _ _).alloc (Nat.le_refl _) _).alloc (by simp) _)⟩
  have e := blk_new (w.alloc (.map #[] 0)) (.cells #[.int .i64 most, .map (some w.heap.size)] 35)
  rw [show (w.alloc (.map #[] 0)).heap.size = w.heap.size + 1 from by simp] at e
  exact e

/-- A fresh ring. -/
def freshQ (n : Nat) : Qr := ⟨n, n, [], 0⟩
theorem store33 {w : World} {m : Nat} {l : List (Int × Qr)} (hm : IsMap encQ w m l) (k : Int) (q : Qr) :
    ∃ o, (Instr.mapUpdate 33 (.map (some m)) (.int .i64 k) (.pointer (some ⟨q.rb, 0, none⟩))).run Try.prog w = .ok () (setB w m o) ∧ IsMap encQ (setB w m o) m (mput l k q) := run_mstore (P := Try.prog) (enc := encQ) Try.underlying33 Try.underlying2 hm k q
set_option maxHeartbeats 400000 in
theorem open_yes {b m : Nat} {most : Int} {l : List (Int × Qr)} (k : Int) (w : World) (h : Tq w b m most l) (hmost : 0 ≤ most) (hk : mget l k = none) :
    Calls Try.prog 7 #[.pointer (some ⟨b, 0, none⟩), .int .i64 k] w fun e w' => e = .returned (.bool true) ∧ Tq w' b m most (mput l k (freshQ w.heap.size)) ∧ Chg (fun i => i = m) w w' := by
  have hf := find_calls k w h
  rw [show ptrQ l k = .pointer none from by unfold ptrQ; rw [hk], hk] at hf
  have HF := Lib.hid hf
  have HT := Lib.hid h
  have hb : Below w.heap.size w (w.alloc (.cells #[.slice none 0 0, .int .i64 0, .int .i64 0, .int .i64 0] 58)) := (Below.refl _ _).alloc (Nat.le_refl _) _
  have hT1 := h.below hb
  have h1 := h.cell1
  obtain ⟨o, ho, hm⟩ := store33 hT1.map k (freshQ w.heap.size)
  have HM := Lib.hid hm
  have HT1 := Lib.hid hT1
  have HK := Lib.hid hk
  have HMo := Lib.hid hmost
  simp only [freshQ] at ho
  clear h hf hT1 hm hk hb hmost
  go_enter Try.func7, Try.ntmps7
  go_wp2_with (first | (go_at_call 17; refine HF.out.mono ?_; rintro e w' ⟨rfl, rfl⟩) | (go_at_call 18; refine (made_yes _ HT.out).mono ?_; rintro e w' ⟨rfl, rfl⟩))
  go_ret
  have hmlt := HT.out.lt_m
  have hnew : (setB (w.alloc (.cells #[.slice none 0 0, .int .i64 0, .int .i64 0, .int .i64 0] 58)) m o).heap[w.heap.size]? = some (.cells #[.slice none 0 0, .int .i64 0, .int .i64 0, .int .i64 0] 58 (0, 0)) := blk_setB_far (blk_new _ _) (by omega)
  have hkeep : ∀ i, i ≠ m → i < w.heap.size → (setB (w.alloc (.cells #[.slice none 0 0, .int .i64 0, .int .i64 0, .int .i64 0] 58)) m o).heap[i]? = w.heap[i]? := fun i hi hlt => by
    have e := Array.getElem?_eq_getElem hlt
    rw [e]
    exact blk_setB_far (blk_alloc e) hi
  have hno : ∀ k2 q2, mget l k2 = some q2 → ∀ i, Rb q2 i → i ≠ m ∧ i < w.heap.size := fun k2 q2 hk2 i hi => by
    obtain ⟨c, f, hr⟩ := HT.out.ring k2 q2 hk2
    refine ⟨?_, hr.lt i hi⟩
    rintro rfl
    obtain ⟨es, clk, hmb, _⟩ := HT.out.map
    obtain ⟨cs, t1⟩ := hr.tag_rb
    rcases hi with rfl | rfl
    · rw [t1] at hmb; simp at hmb
    · rcases hr.tag_ab with h2 | ⟨cs2, h2⟩
      · rw [h2, t1] at hmb; simp at hmb
      · rw [h2] at hmb; simp at hmb
  refine ⟨rfl, ⟨(hkeep b (fun e => HT.out.b_not_own (.inl e)) HT.out.lt_b).trans HT.out.blk, HM.out, nodup_mput HT.out.nd _ _, ?_, ?_⟩, ((Chg.refl (fun i => i = m) w).alloc _).setB (.inl rfl) _⟩
  · intro k2 q2 hk2
    rw [mget_mput] at hk2
    split at hk2
    · injection hk2 with hk2
      subst hk2
      exact ⟨0, 0, ⟨⟨none, hnew, .inl ⟨rfl, rfl, rfl, rfl, rfl⟩⟩, HMo.out, by omega, by simp [freshQ], by simp [freshQ]⟩⟩
    · obtain ⟨c, f, hr⟩ := HT.out.ring k2 q2 hk2
      refine ⟨c, f, hr.keep (fun i hi => hkeep i (hno k2 q2 hk2 i hi).1 (hno k2 q2 hk2 i hi).2) (fun i cur hc => hkeep i ?_ (blk_lt hc))⟩
      rintro rfl
      exact HT.out.no71 _ cur hc (.inl rfl)
  · have hlt2 : ∀ k2 q2, mget l k2 = some q2 → q2.rb < w.heap.size ∧ q2.ab < w.heap.size := fun k2 q2 hk2 => by
      obtain ⟨c, f, hr⟩ := HT.out.ring k2 q2 hk2
      exact ⟨hr.lt_rb, hr.lt_ab⟩
    intro k1 k2 q1 q2 e1 e2 hne
    rw [mget_mput] at e1 e2
    split at e1 <;> split at e2
    · rename_i u1 u2; exact absurd (u1.symm.trans u2) hne
    · injection e1 with e1
      subst e1
      have := hlt2 k2 q2 e2
      simp only [freshQ]
      omega
    · injection e2 with e2
      subst e2
      have := hlt2 k1 q1 e1
      simp only [freshQ]
      omega
    · exact HT.out.sep k1 k2 q1 q2 e1 e2 hne
set_option maxHeartbeats 400000 in
theorem open_there {b m : Nat} {most : Int} {l : List (Int × Qr)} (k : Int) (w : World) (h : Tq w b m most l) (q : Qr) (hk : mget l k = some q) :
    Calls Try.prog 7 #[.pointer (some ⟨b, 0, none⟩), .int .i64 k] w fun e w' => e = .returned (.bool false) ∧ w = w' := by
  have hf := find_calls k w h
  rw [show ptrQ l k = encQ q from by unfold ptrQ; rw [hk], hk] at hf
  have HF := Lib.hid hf
  clear h hf hk
  go_enter Try.func7, Try.ntmps7
  go_wp2_with (go_at_call 17; refine HF.out.mono ?_; rintro e w' ⟨rfl, rfl⟩)
  go_ret
  exact ⟨rfl, rfl⟩
set_option maxHeartbeats 400000 in
theorem open_nil (k : Int) (w : World) : Calls Try.prog 7 #[.pointer none, .int .i64 k] w fun e w' => e = .returned (.bool false) ∧ w = w' := by
  go_enter Try.func7, Try.ntmps7
  go_wp2_with (first | (go_at_call 17; refine (find_nil _ _).mono ?_; rintro e w' ⟨rfl, rfl⟩) | (go_at_call 18; refine (made_nil _).mono ?_; rintro e w' ⟨rfl, rfl⟩))
  go_ret
  exact ⟨rfl, rfl⟩
set_option maxHeartbeats 400000 in
theorem open_plain (b : Nat) (k : Int) (w : World) (h1 : w.cell? ⟨b, 1, none⟩ = some (.map none)) : Calls Try.prog 7 #[.pointer (some ⟨b, 0, none⟩), .int .i64 k] w fun e w' => e = .returned (.bool false) ∧ w = w' := by
  go_enter Try.func7, Try.ntmps7
  go_wp2_with (first | (go_at_call 17; refine (find_plain _ _ _ h1).mono ?_; rintro e w' ⟨rfl, rfl⟩) | (go_at_call 18; refine (made_plain _ _ h1).mono ?_; rintro e w' ⟨rfl, rfl⟩))
  go_ret
  exact ⟨rfl, rfl⟩
end Go.Proofs.Ytchhpgnlfofdcaa.Q
