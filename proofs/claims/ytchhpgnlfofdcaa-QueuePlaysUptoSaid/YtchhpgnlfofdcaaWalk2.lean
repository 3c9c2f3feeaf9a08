/- Walks: Shut, Long, Lost, vec.Copy. -/
import Derived.Test.YtchhpgnlfofdcaaWalk1
set_option linter.unusedVariables false
set_option linter.unusedSimpArgs false
namespace Go.Proofs.Ytchhpgnlfofdcaa.Q
open Go.RowKit Go.Proofs.Ytchhpgnlfofdcaa.Hp Go.Proofs.Ytchhpgnlfofdcaa.Mp
set_option maxRecDepth 100000

theorem ptr_some {l : List (Int × Qr)} {k : Int} {q : Qr} (h : mget l k = some q) : ptrQ l k = .pointer (some ⟨q.rb, 0, none⟩) := by unfold ptrQ; rw [h]; rfl
theorem ptr_none {l : List (Int × Qr)} {k : Int} (h : mget l k = none) : ptrQ l k = .pointer none := by unfold ptrQ; rw [h]
theorem RingAt.long {w : World} {most : Int} {q : Qr} {cap frm : Nat} (h : RingAt w most q cap frm) : w.cell? ⟨q.rb, 2, none⟩ = some (.int .i64 q.evs.length) := by obtain ⟨ea, h1, _⟩ := h.blk; exact blk_cell h1 2
theorem RingAt.gone {w : World} {most : Int} {q : Qr} {cap frm : Nat} (h : RingAt w most q cap frm) : w.cell? ⟨q.rb, 3, none⟩ = some (.int .i64 q.lost) := by obtain ⟨ea, h1, _⟩ := h.blk; exact blk_cell h1 3

/-- How many are in a queue; how many it lost. -/
def longF (l : List (Int × Qr)) (k : Int) : Int := match mget l k with | some q => q.evs.length | none => 0
def lostF (l : List (Int × Qr)) (k : Int) : Int := match mget l k with | some q => q.lost | none => 0
set_option maxHeartbeats 400000 in
theorem long_calls {b m : Nat} {most : Int} {l : List (Int × Qr)} (k : Int) (w : World) (h : Tq w b m most l) :
    Calls Try.prog 10 #[.pointer (some ⟨b, 0, none⟩), .int .i64 k] w fun e w' => e = .returned (.int .i64 (longF l k)) ∧ w = w' := by
  have hf := find_calls k w h
  unfold longF
  cases hk : mget l k with
  | none =>
    rw [ptr_none hk, hk] at hf
    have HF := Lib.hid hf
    clear h hf hk
    go_enter Try.func10, Try.ntmps10
    go_wp2_with (go_at_call 17; refine HF.out.mono ?_; rintro e w' ⟨rfl, rfl⟩)
    go_ret
    exact ⟨rfl, rfl⟩
  | some q =>
    rw [ptr_some hk, hk] at hf
    obtain ⟨c, f, hr⟩ := h.ring k q hk
    have h2 := hr.long
    have HF := Lib.hid hf
    clear h hf hk hr
    go_enter Try.func10, Try.ntmps10
    go_wp2_with (go_at_call 17; refine HF.out.mono ?_; rintro e w' ⟨rfl, rfl⟩)
    go_ret
    exact ⟨rfl, rfl⟩
set_option maxHeartbeats 400000 in
theorem lost_calls {b m : Nat} {most : Int} {l : List (Int × Qr)} (k : Int) (w : World) (h : Tq w b m most l) :
    Calls Try.prog 9 #[.pointer (some ⟨b, 0, none⟩), .int .i64 k] w fun e w' => e = .returned (.int .i64 (lostF l k)) ∧ w = w' := by
  have hf := find_calls k w h
  unfold lostF
  cases hk : mget l k with
  | none =>
    rw [ptr_none hk, hk] at hf
    have HF := Lib.hid hf
    clear h hf hk
    go_enter Try.func9, Try.ntmps9
    go_wp2_with (go_at_call 17; refine HF.out.mono ?_; rintro e w' ⟨rfl, rfl⟩)
    go_ret
    exact ⟨rfl, rfl⟩
  | some q =>
    rw [ptr_some hk, hk] at hf
    obtain ⟨c, f, hr⟩ := h.ring k q hk
    have h2 := hr.gone
    have HF := Lib.hid hf
    clear h hf hk hr
    go_enter Try.func9, Try.ntmps9
    go_wp2_with (go_at_call 17; refine HF.out.mono ?_; rintro e w' ⟨rfl, rfl⟩)
    go_ret
    exact ⟨rfl, rfl⟩

theorem remove33 {w : World} {m : Nat} {l : List (Int × Qr)} (hm : IsMap encQ w m l) (k : Int) :
    ∃ o, (Builtin.delete_ #[33, 2] 0 #[.map (some m), .int .i64 k]).run Try.prog w = .ok (.tuple #[]) (setB w m o) ∧ IsMap encQ (setB w m o) m (mdel l k) := run_remove (P := Try.prog) (enc := encQ) Try.underlying33 Try.underlying2 hm k 2 0
theorem mget_mdel_some {l : List (Int × Qr)} (hnd : (l.map (·.1)).Nodup) {k k2 : Int} {q : Qr} (h : mget (mdel l k) k2 = some q) : mget l k2 = some q := by
  rw [mget_mdel hnd] at h
  split at h
  · simp at h
  · exact h
theorem Tq.del {w : World} {b m : Nat} {most : Int} {l : List (Int × Qr)} (h : Tq w b m most l) (k : Int) {o : Obj} (hm : IsMap encQ (setB w m o) m (mdel l k)) : Tq (setB w m o) b m most (mdel l k) := by
  have hkeep : ∀ i, i ≠ m → i < w.heap.size → (setB w m o).heap[i]? = w.heap[i]? := fun i hi hlt => by
    have e := Array.getElem?_eq_getElem hlt
    rw [e]
    exact blk_setB_far e hi
  refine ⟨(hkeep b (fun e => h.b_not_own (.inl e)) h.lt_b).trans h.blk, hm, nodup_mdel h.nd k, fun k2 q2 hk2 => ?_, fun k1 k2 q1 q2 e1 e2 hne => h.sep k1 k2 q1 q2 (mget_mdel_some h.nd e1) (mget_mdel_some h.nd e2) hne⟩
  have hk2' := mget_mdel_some h.nd hk2
  obtain ⟨c, f, hr⟩ := h.ring k2 q2 hk2'
  refine ⟨c, f, hr.keep (fun i hi => hkeep i ?_ (hr.lt i hi)) (fun i cur hc => hkeep i ?_ (blk_lt hc))⟩
  · rintro rfl
    obtain ⟨es, clk, hmb, _⟩ := h.map
    obtain ⟨cs, t1⟩ := hr.tag_rb
    rcases hi with rfl | rfl
    · rw [t1] at hmb; simp at hmb
    · rcases hr.tag_ab with h2 | ⟨cs2, h2⟩
      · rw [h2, t1] at hmb; simp at hmb
      · rw [h2] at hmb; simp at hmb
  · rintro rfl
    exact h.no71 _ cur hc (.inl rfl)
set_option maxHeartbeats 400000 in
theorem shut_calls {b m : Nat} {most : Int} {l : List (Int × Qr)} (k : Int) (w : World) (h : Tq w b m most l) :
    Calls Try.prog 26 #[.pointer (some ⟨b, 0, none⟩), .int .i64 k] w fun e w' => e = .returned (.bool (mget l k).isSome) ∧ Tq w' b m most (mdel l k) ∧ Chg (fun i => i = m) w w' := by
  have hf := find_calls k w h
  cases hk : mget l k with
  | none =>
    rw [ptr_none hk, hk] at hf
    have HF := Lib.hid hf
    have HT := Lib.hid h
    rw [mdel_none hk]
    clear h hf hk
    go_enter Try.func26, Try.ntmps26
    go_wp2_with (go_at_call 17; refine HF.out.mono ?_; rintro e w' ⟨rfl, rfl⟩)
    go_ret
    exact ⟨rfl, HT.out, Chg.refl _ _⟩
  | some q =>
    rw [ptr_some hk, hk] at hf
    have h1 := h.cell1
    obtain ⟨o, ho, hm⟩ := remove33 h.map k
    have HF := Lib.hid hf
    have HT := Lib.hid (h.del k hm)
    clear h hf hk hm
    go_enter Try.func26, Try.ntmps26
    go_wp2_with (go_at_call 17; refine HF.out.mono ?_; rintro e w' ⟨rfl, rfl⟩)
    go_ret
    exact ⟨rfl, HT.out, (Chg.refl (fun i => i = m) w).setB (.inl rfl) _⟩

theorem madeCells_get (z : Array Value) (n : Nat) (j : Nat) (hj : j < n) : (madeCells z n)[j]? = some z[j % z.size]! := by
  unfold madeCells
  simp [hj]
set_option maxHeartbeats 400000 in
theorem copy_calls (T : Nat → Prop) (va : Option Addr) (vc : Nat) (vec : List Pt) (w : World) (h : PAt T w va vec) (hT : ∀ i, T i → i < w.heap.size) (hlen : vec.length ≤ 700) :
    Calls Try.prog 19 #[.slice va vec.length vc] w fun e w' => ∃ va', e = .returned (.slice va' vec.length vec.length) ∧ VAt w' va' vec ∧ Below w.heap.size w w' := by
  obtain ⟨i0, hi, hz0, hz1, hz2⟩ := info_parts info71
  have hs71 : (Try.prog.info? 71).map (·.size) = some 3 := by rw [hi]; simp [hz1]
  obtain ⟨g, o, h1, h2⟩ := h
  have hB := (Below.refl _ w).alloc (Nat.le_refl _) (.cells (madeCells #[.int .i64 0, .int .i64 0, .int .i64 0] (vec.length * 3)) 71)
  have HSRC := Lib.hid (fun (h0 : 0 < vec.length) (j : Nat) (v : Value) (hj : (flatP vec)[j]? = some v) => show (w.alloc (.cells (madeCells #[.int .i64 0, .int .i64 0, .int .i64 0] (vec.length * 3)) 71)).cell? ((⟨g, o, none⟩ : Addr).add j) = some v from by
    rw [add_flat]
    exact below_cell hB (hT _ (h1 h0).2) (h2 j v hj))
  have H1 := Lib.hid h1
  have HB := Lib.hid hB
  have HFIT := Lib.hid (show 0 + (flatP vec).length ≤ (madeCells #[Value.int .i64 0, .int .i64 0, .int .i64 0] (vec.length * 3)).size by rw [size_madeCells, flatP_length]; omega)
  have HL := Lib.hid hlen
  clear h1 h2 hT hlen hB
  go_enter Try.func19, Try.ntmps19
  go_wp2_with (first
    | (refine wpList_make_n _ rfl _ _ 26 rfl 71 i0 (.agg #[.int .i64 0, .int .i64 0, .int .i64 0]) 3 24 Try.underlying26 hi hz0 hz1 hz2 .i64 .i64 _ vec.length rfl rfl rfl (by have := HL.out; omega) (by have := HL.out; omega) ?_)
    | ((with_reducible refine wpList_copy_n rfl (.tmp 7) (.tmp 8) 26 26 rfl 71 3 Try.underlying26 hs71 (some ⟨w.heap.size, 0, none⟩) va vec.length vec.length vec.length vc ?_ ?_ w.heap.size 0 _ 71 (blk_new _ _) vec.length (Nat.min_self _) (flatP vec) (flatP_length vec) (fun h0 => ⟨rfl, ⟨g, o, none⟩, (H1.out h0).1, HSRC.out h0⟩) HFIT.out (flatP_one vec) ?_); (· rfl); (· rfl); intro w2 hb2 hc2; have HB2 := Lib.hid hb2; have HC2 := Lib.hid hc2; clear hb2 hc2))
  go_ret
  have hlen2 : (splice (madeCells #[Value.int .i64 0, .int .i64 0, .int .i64 0] (vec.length * 3)).toList 0 (flatP vec)) = flatP vec := by
    unfold splice
    have e1 : (madeCells #[Value.int .i64 0, .int .i64 0, .int .i64 0] (vec.length * 3)).toList.length = (flatP vec).length := by rw [Array.length_toList, size_madeCells, flatP_length]
    rw [List.take_zero, List.nil_append, Nat.zero_add, ← e1, List.drop_length, List.append_nil]
  refine ⟨_, rfl, ⟨w.heap.size, _, fun _ => rfl, HB2.out, ?_⟩, ?_⟩
  · rw [List.toList_toArray, hlen2]
  · exact HB.out.trans (HC2.out.below (fun i hi => by omega) (by simp))
end Go.Proofs.Ytchhpgnlfofdcaa.Q
