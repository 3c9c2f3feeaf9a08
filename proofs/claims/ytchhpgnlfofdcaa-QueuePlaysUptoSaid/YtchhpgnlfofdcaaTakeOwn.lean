/- Walks: Take, with what it answers as a row of its own. -/
import Derived.Test.YtchhpgnlfofdcaaTakeAll
set_option linter.unusedVariables false
set_option linter.unusedSimpArgs false
namespace Go.Proofs.Ytchhpgnlfofdcaa.Q
open Go.RowKit Go.Proofs.Ytchhpgnlfofdcaa.Hp Go.Proofs.Ytchhpgnlfofdcaa.Mp
set_option maxRecDepth 100000

/-- A row of events that is owned, whose parts lie in blocks of their own. -/
structure Rw (w : World) (B : Nat) (v : Value) (xs : List Ex) : Prop where
  own : w.ownsRow B 28 5 v xs.length (flatX xs)
  vec : ∀ x ∈ xs, VAt w x.2.1 x.1.vec
theorem Rw.keep {w w' : World} {B : Nat} {v : Value} {xs : List Ex} (h : Rw w B v xs) (h1 : ∀ g, v.ownBlock = some g → w'.heap[g]? = w.heap[g]?) (h2 : ∀ (i : Nat) (c : Array Value), w.heap[i]? = some (Obj.cells c 71 (0, 0)) → w'.heap[i]? = w.heap[i]?) : Rw w' B v xs :=
  ⟨⟨h.own.1, h.own.2.imp id fun ⟨g, cap, cur, e1, e2, e3, e4⟩ => ⟨g, cap, cur, e1, e2, (h1 g (by rw [e1]; rfl)).trans e3, e4⟩⟩, fun x hx => (h.vec x hx).keep h2⟩
theorem Rw.lt {w : World} {B : Nat} {v : Value} {xs : List Ex} (h : Rw w B v xs) {g : Nat} (hg : v.ownBlock = some g) : g < w.heap.size := by
  obtain ⟨cs, hb⟩ := row_tag h.own hg.symm
  exact blk_lt hb
theorem Rw.ge {w : World} {B : Nat} {v : Value} {xs : List Ex} (h : Rw w B v xs) {g : Nat} (hg : v.ownBlock = some g) : B ≤ g := row_own h.own hg.symm
theorem Rw.below {w w' : World} {B : Nat} {v : Value} {xs : List Ex} (h : Rw w B v xs) (hb : Below w.heap.size w w') : Rw w' B v xs :=
  h.keep (fun g hg => hb.block g (h.lt hg)) (fun i c hc => hb.block i (blk_lt hc))
theorem Rw.events {w : World} {B : Nat} {v : Value} {xs : List Ex} (h : Rw w B v xs) : ∃ fa fc, v = .slice fa xs.length fc ∧ ERow (fun i => i < w.heap.size) w fa (xs.map (·.1)) :=
  row_events h.own h.vec (fun i c hc => blk_lt hc) (fun i hi => h.lt hi)
/-- What Take leaves, with the row that it made. -/
def TakeOwn (b m : Nat) (most : Int) (l : List (Int × Qr)) (k : Int) (out left : List Ev) (q : Qr) (w : World) (e : Ending) (w' : World) : Prop :=
  ∃ (xs : List Ex) (fa : Option Addr) (fc : Nat), e = .returned (.slice fa out.length fc) ∧ xs.map (·.1) = out ∧ Rw w' w.heap.size (.slice fa out.length fc) xs ∧ (out = [] → fa = none ∧ fc = 0) ∧ Qs w w' b m most l (mput l k { q with evs := left })
theorem Ts.doneOwn {w wr : World} {b m : Nat} {most : Int} {l : List (Int × Qr)} {k : Int} {q : Qr} {j cap frm fc : Nat} {xs : List Ex} {fa : Option Addr} (h : Ts w wr most q j cap frm xs (.slice fa j fc)) (hj : j ≤ q.evs.length) (ht : Tq w b m most l) (hk : mget l k = some q) (h0 : j = 0 → fa = none ∧ fc = 0) :
    TakeOwn b m most l k (q.evs.take j) (q.evs.drop j) q w (.returned (.slice fa j fc)) wr := by
  obtain ⟨h1, h2⟩ := ht.one hk h.ring rfl (.inl rfl) h.chg
  have hl := h.len hj
  have hlt : (q.evs.take j).length = j := by rw [List.length_take, Nat.min_eq_left hj]
  refine ⟨xs, fa, fc, by rw [hlt], h.evs, by rw [hlt]; exact ⟨h.own, h.vec⟩, fun he => h0 (by rw [he] at hlt; exact hlt.symm), h1, h2, h.chg.mono (fun i hi => .inr ⟨k, q, hk, hi⟩)⟩
set_option maxHeartbeats 4000000 in
theorem takeOwn_calls (b m : Nat) (most : Int) (l : List (Int × Qr)) (k : Int) (n : Int) (q : Qr) (w : World) (h : Tq w b m most l) (hk : mget l k = some q) (hlen : q.evs.length ≤ 900) :
    Calls Try.prog 12 #[.pointer (some ⟨b, 0, none⟩), .int .i64 k, .int .i64 n] w (TakeOwn b m most l k (q.evs.take (takeN q.evs n)) (q.evs.drop (takeN q.evs n)) q w) := by
  obtain ⟨i0, hi, hz0, hz1, hz2⟩ := info_parts info28
  have hf := find_calls k w h
  rw [ptr_some hk, hk] at hf
  obtain ⟨cap0, frm0, hr0⟩ := h.ring k q hk
  have HS : Hid (Ts w w most q 0 cap0 frm0 [] (.slice none 0 0)) := Lib.hid ⟨hr0, rfl, ⟨rfl, .inl ⟨rfl, rfl⟩⟩, by simp, Chg.refl _ _⟩
  have HLT := Lib.hid (And.intro hr0.lt_rb hr0.lt_ab)
  have HF := Lib.hid hf
  have HT := Lib.hid h
  have HK := Lib.hid hk
  have HL := Lib.hid hlen
  clear hf h hk hlen hr0
  go_enter Try.func12, Try.ntmps12
  go_wp2_with (go_at_call 17; refine HF.out.mono ?_; rintro e w' ⟨rfl, rfl⟩)
  go_loopg [7] q.evs.length (fun g u wr => ∃ (j cap frm : Nat) (xs : List Ex) (fa : Option Addr) (fc : Nat), j ≤ q.evs.length ∧ g = q.evs.length - j ∧ u = .slice fa j fc ∧ j ≤ n.toNat ∧ Hid (Ts w wr most q j cap frm xs (.slice fa j fc)) ∧ Hid (j = 0 → fa = none ∧ fc = 0))
  case atStart => exact ⟨0, _, _, [], none, 0, by omega, rfl, rfl, by omega, HS, Lib.hid (fun _ => ⟨rfl, rfl⟩)⟩
  case round =>
    obtain ⟨j, cap, frm, xs, fa, fc, hj, rfl, rfl, hjn, H, HZ⟩ := hrel
    clear HS
    have c2 := H.out.ring.long
    simp only at c2
    cases hd : q.evs.drop j with
    | nil =>
      rw [hd] at c2
      have HE := Lib.hid (show takeN q.evs n = j by have := congrArg List.length hd; rw [List.length_drop] at this; simp at this; unfold takeN; omega)
      have HJ := Lib.hid hj
      clear hd
      go_wp2
      go_ret
      rw [HE.out]
      exact H.out.doneOwn HJ.out HT.out HK.out HZ.out
    | cons x rest =>
      rw [hd] at c2
      by_cases hn : (j : Int) < n
      · have KT := Lib.hid (take_calls most { q with evs := q.evs.drop j } cap frm _ H.out.ring x rest hd (by simp only [List.length_drop]; have := HL.out; omega))
        have HD := Lib.hid hd
        have HN := Lib.hid hn
        have HJ := Lib.hid (And.intro hj hjn)
        have HX := Lib.hid (H.out.len hj)
        clear hd hj hjn
        go_wp2_with fail
        refine KT.out.mono ?_
        rintro e w1 ⟨va, vc, cap', frm', rfl, hv1, hr1, hc1⟩
        have HV1 := Lib.hid hv1
        have HR1 : Hid (RingAt w1 most ⟨q.rb, q.ab, rest, q.lost⟩ cap' frm') := Lib.hid hr1
        have HC1 : Hid (Chg (Rb q) _ w1) := Lib.hid (hc1.mono (T := Rb q) (fun i hi => hi))
        have HO1 := Lib.hid (row_chg H.out.own HC1.out (fun i hi => by have := HLT.out; rcases hi with rfl | rfl <;> omega))
        have HSZ := Lib.hid (Nat.le_trans H.out.chg.size HC1.out.size)
        clear hv1 hr1 hc1 c2 KT
        go_wp2_with (at_builtin; refine wpList_append_lies _ rfl _ _ 22 rfl w.heap.size 28 i0 (.agg #[.int .i64 0, .int .i64 0, .int .i64 0, .int .i64 0, .slice none 0 0]) 5 56 Try.underlying22 hi hz0 hz1 hz2 rfl (by decide) (.slice fa j fc) xs.length (flatX xs) rfl (HO1.out.alloc _) ⟨w1.heap.size, 0, none⟩ 1 1 (flatX [(x, va, vc)]) rfl rfl (cells_new _ _ _ _ rfl) (one_five x va vc) (by decide) (by have := HL.out; have := HX.out; have := HJ.out.1; unfold maxLen; omega) (by have := HL.out; have := HX.out; have := HJ.out.1; omega) (by have := HSZ.out; simp; omega) _ rfl ?_; intro g4 c4 w4 hown4 hg4 hat4 hlt4; have HT4 := Lib.hid (H.out.append HLT.out HD.out HV1.out HR1.out HC1.out hg4 hown4); clear hown4 hg4 hat4 hlt4)
        go_roundg (q.evs.length - (j + 1))
        case measure => have := (drop_next HD.out).2.2; omega
        case rel =>
          have h6 := HT4.out
          rw [HX.out] at h6
          exact ⟨j + 1, cap', frm', _, some ⟨g4, 0, none⟩, c4, (drop_next HD.out).2.2, rfl, by rw [HX.out], by have := HN.out; omega, Lib.hid h6, Lib.hid (fun h => by omega)⟩
      · have hn' : decide ((j : Int) < n) = false := decide_eq_false hn
        have HE := Lib.hid (show takeN q.evs n = j by unfold takeN; omega)
        have HJ := Lib.hid hj
        clear hd
        go_wp2
        go_ret
        rw [HE.out]
        exact H.out.doneOwn HJ.out HT.out HK.out HZ.out
end Go.Proofs.Ytchhpgnlfofdcaa.Q
