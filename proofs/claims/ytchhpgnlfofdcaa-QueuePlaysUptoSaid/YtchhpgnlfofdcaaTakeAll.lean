/- Walks: Take. -/
import Derived.Test.YtchhpgnlfofdcaaPutAll
import Derived.Deep.AppendLies
import Derived.Outline
set_option linter.unusedVariables false
set_option linter.unusedSimpArgs false
namespace Go.Proofs.Ytchhpgnlfofdcaa.Q
open Go.RowKit Go.Proofs.Ytchhpgnlfofdcaa.Hp Go.Proofs.Ytchhpgnlfofdcaa.Mp
set_option maxRecDepth 100000

/-- An event with where its parts lie. -/
abbrev Ex := Ev × Option Addr × Nat
def flatX : List Ex → List Value
  | [] => []
  | x :: xs => cellsE x.1 x.2.1 x.2.2 ++ flatX xs
theorem flatX_append : ∀ a b, flatX (a ++ b) = flatX a ++ flatX b
  | [], b => rfl
  | x :: a, b => by simp only [List.cons_append, flatX, flatX_append a b, List.append_assoc]
theorem flatX_length : ∀ xs, (flatX xs).length = xs.length * 5
  | [] => rfl
  | x :: xs => by simp only [flatX, List.length_append, flatX_length xs, List.length_cons]; show 5 + _ = _; omega
theorem flatX_get : ∀ (xs : List Ex) (j i : Nat) (h : j < xs.length), i < 5 → (flatX xs)[j * 5 + i]? = (cellsE xs[j].1 xs[j].2.1 xs[j].2.2)[i]?
  | x :: xs, 0, i, h, hi => by
    simp only [flatX, Nat.zero_mul, Nat.zero_add, List.getElem_cons_zero]
    rw [List.getElem?_append_left (show i < 5 from hi)]
  | x :: xs, j + 1, i, h, hi => by
    have := flatX_get xs j i (by simpa using h) hi
    simp only [flatX, List.getElem_cons_succ]
    rw [List.getElem?_append_right (show 5 ≤ (j + 1) * 5 + i by omega), ← this]
    congr 1
    show (j + 1) * 5 + i - 5 = _
    omega
theorem one_five (e : Ev) (va : Option Addr) (vc : Nat) : ∀ u ∈ flatX [(e, va, vc)], u.oneCell' = true := by
  intro u hu
  simp only [flatX, cellsE, List.append_nil, List.mem_cons, List.not_mem_nil, or_false] at hu
  rcases hu with rfl | rfl | rfl | rfl | rfl <;> rfl
theorem cells_new (w : World) (cs : Array Value) (t : TypeId) (xs : List Value) (hx : cs.toList = xs) : ∀ j u, xs[j]? = some u → (w.alloc (.cells cs t)).cell? ((⟨w.heap.size, 0, none⟩ : Addr).add j) = some u := by
  intro j u hj
  rw [add_flat, Nat.zero_add, blk_cell (blk_new w (.cells cs t)), ← Array.getElem?_toList, hx]
  exact hj
/-- A row that is owned, of events whose parts lie in blocks of their own, reads as these events. -/
theorem row_events {T : Nat → Prop} {w : World} {base : Nat} {v : Value} {xs : List Ex} (h : w.ownsRow base 28 5 v xs.length (flatX xs)) (hv : ∀ x ∈ xs, VAt w x.2.1 x.1.vec) (hT : ∀ (i : Nat) (c : Array Value), w.heap[i]? = some (Obj.cells c 71 (0, 0)) → T i) (hT2 : ∀ i, v.ownBlock = some i → T i) :
    ∃ fa fc, v = .slice fa xs.length fc ∧ ERow T w fa (xs.map (·.1)) := by
  rcases h.2 with ⟨rfl, h0⟩ | ⟨g, cap, cur, rfl, hb, hbk, h1, h2, h3, h4⟩
  · refine ⟨none, 0, by rw [h0], ?_⟩
    rw [List.eq_nil_of_length_eq_zero h0]
    exact ERow.nil _ _ _
  · refine ⟨_, cap, rfl, g, 0, fun hl => ⟨rfl, hT2 g rfl⟩, fun j hj => ?_⟩
    rw [List.length_map] at hj
    have key : ∀ i, i < 5 → w.cell? ⟨g, 0 + j * 5 + i, none⟩ = (cellsE xs[j].1 xs[j].2.1 xs[j].2.2)[i]? := by
      intro i hi
      rw [Nat.zero_add, blk_cell hbk, ← Array.getElem?_toList, ← flatX_get xs j i hj hi, ← h4, List.getElem?_take_of_lt (by omega)]
    rw [List.getElem_map]
    exact ⟨xs[j].2.1, xs[j].2.2, key 0 (by omega), key 1 (by omega), key 2 (by omega), key 3 (by omega), key 4 (by omega), (hv _ (List.getElem_mem hj)).pat hT⟩
theorem row_own {w : World} {base : Nat} {e : TypeId} {size n : Nat} {v : Value} {xs : List Value} (h : w.ownsRow base e size v n xs) {k : Nat} (hk : some k = v.ownBlock) : base ≤ k := by
  rcases h.2 with ⟨rfl, _⟩ | ⟨g, cap, cur, rfl, e2, _⟩
  · cases hk
  · cases hk; exact e2
theorem row_tag {w : World} {base : Nat} {e : TypeId} {size n : Nat} {v : Value} {xs : List Value} (h : w.ownsRow base e size v n xs) {k : Nat} (hk : some k = v.ownBlock) : ∃ cs, w.heap[k]? = some (.cells cs e (0, 0)) := by
  rcases h.2 with ⟨rfl, _⟩ | ⟨g, cap, cur, rfl, e2, e3, _⟩
  · cases hk
  · cases hk; exact ⟨_, e3⟩
theorem row_chg {S : Nat → Prop} {w w' : World} {base : Nat} {e : TypeId} {size n : Nat} {v : Value} {xs : List Value} (h : w.ownsRow base e size v n xs) (hc : Chg S w w') (hS : ∀ i, S i → i < base) : w'.ownsRow base e size v n xs :=
  ⟨h.1, h.2.imp id fun ⟨g, cap, cur, e1, e2, e3, e4⟩ => ⟨g, cap, cur, e1, e2, hc.blk e3 (fun hs => by have := hS g hs; omega), e4⟩⟩

/-- Where Take is. -/
structure Ts (w wr : World) (most : Int) (q : Qr) (j cap frm : Nat) (xs : List Ex) (v : Value) : Prop where
  ring : RingAt wr most { q with evs := q.evs.drop j } cap frm
  evs : xs.map (·.1) = q.evs.take j
  own : wr.ownsRow w.heap.size 28 5 v xs.length (flatX xs)
  vec : ∀ x ∈ xs, VAt wr x.2.1 x.1.vec
  chg : Chg (Rb q) w wr
section
variable {w wr w1 : World} {most : Int} {q : Qr} {j cap frm cap' frm' : Nat} {xs : List Ex} {v : Value}
theorem Ts.len (h : Ts w wr most q j cap frm xs v) (hj : j ≤ q.evs.length) : xs.length = j := by
  have := congrArg List.length h.evs
  rw [List.length_map, List.length_take] at this
  omega
theorem Ts.no71 (h : Ts w wr most q j cap frm xs v) : ∀ (i : Nat) (c : Array Value), wr.heap[i]? = some (Obj.cells c 71 (0, 0)) → ¬ Rb q i := fun i c hc => h.ring.no71 i c hc
theorem drop_next {α : Type} {L : List α} {j : Nat} {x : α} {rest : List α} (h : L.drop j = x :: rest) : L.drop (j + 1) = rest ∧ L.take (j + 1) = L.take j ++ [x] ∧ j < L.length := by
  have hlt : j < L.length := by
    rcases Nat.lt_or_ge j L.length with h1 | h1
    · exact h1
    · rw [List.drop_eq_nil_of_le h1] at h; simp at h
  rw [List.drop_eq_getElem_cons hlt] at h
  injection h with h1 h2
  refine ⟨h2, ?_, hlt⟩
  rw [List.take_add_one, List.getElem?_eq_getElem hlt, h1]
  rfl
/-- One more is taken: the ring, then the append. -/
theorem Ts.append {x : Ev} {rest : List Ev} {va : Option Addr} {vc : Nat} {o : Obj} {w4 : World} {v' : Value} (h : Ts w wr most q j cap frm xs v) (hlt : q.rb < w.heap.size ∧ q.ab < w.heap.size) (hd : q.evs.drop j = x :: rest) (hv : VAt w1 va x.vec)
    (hr : RingAt w1 most ⟨q.rb, q.ab, rest, q.lost⟩ cap' frm') (hc : Chg (Rb q) wr w1) (hg : (w1.alloc o).grownBy w4 v.ownBlock) (ho : w4.ownsRow w.heap.size 28 5 v' (xs.length + 1) (flatX xs ++ flatX [(x, va, vc)])) :
    Ts w w4 most q (j + 1) cap' frm' (xs ++ [(x, va, vc)]) v' := by
  obtain ⟨d1, d2, d3⟩ := drop_next hd
  have hlt1 : ∀ i, Rb q i → i < w.heap.size := fun i hi => by rcases hi with rfl | rfl; exact hlt.1; exact hlt.2
  have hown1 : (w1.alloc o).ownsRow w.heap.size 28 5 v xs.length (flatX xs) := (row_chg h.own hc (fun i hi => hlt1 i hi)).alloc _
  have hsz : w.heap.size ≤ w1.heap.size := Nat.le_trans h.chg.size hc.size
  have hsa : w1.heap.size ≤ (w1.alloc o).heap.size := by simp
  have hold : ∀ k, k < w1.heap.size → some k ≠ v.ownBlock → w4.heap[k]? = w1.heap[k]? := fun k hk hn => by
    rw [hg.block k (by omega) hn]
    exact Below.heap_alloc _ _ _ hk
  have hsmall : ∀ k, k < w.heap.size → some k ≠ v.ownBlock := fun k hk e => by have := row_own hown1 e; omega
  have h71 : ∀ (k : Nat) (c : Array Value), w1.heap[k]? = some (Obj.cells c 71 (0, 0)) → w4.heap[k]? = w1.heap[k]? := fun k c hc71 => by
    refine hold k (blk_lt hc71) (fun e => ?_)
    obtain ⟨cs, ht⟩ := row_tag hown1 e
    rw [blk_alloc hc71] at ht
    simp at ht
  refine ⟨?_, ?_, ?_, ?_, ?_⟩
  · rw [d1]
    exact hr.keep (fun i hi => hold i (by have := hlt1 i hi; omega) (hsmall i (hlt1 i hi))) h71
  · rw [List.map_append, h.evs, d2]; rfl
  · rw [List.length_append, flatX_append]
    exact ho
  · intro y hy
    rcases List.mem_append.1 hy with hy | hy
    · have := (h.vec y hy).keep (w' := w1) (fun i c hc71 => hc.block i (blk_lt hc71) (h.no71 i c hc71))
      exact this.keep h71
    · have : y = (x, va, vc) := by simpa using hy
      rw [this]
      exact hv.keep h71
  · have h1 := h.chg.trans hc
    refine ⟨(hg.os.trans h1.os), hg.tape.trans h1.tape, hg.output.trans h1.output, by have := hg.size; omega, fun k hk hn => ?_⟩
    rw [hold k (by omega) (hsmall k hk)]
    exact h1.block k hk hn
end
/-- How many are taken. -/
def takeN (evs : List Ev) (n : Int) : Nat := min n.toNat evs.length
/-- What Take leaves. -/
def TakeAll (b m : Nat) (most : Int) (l : List (Int × Qr)) (k : Int) (out left : List Ev) (q : Qr) (w : World) (e : Ending) (w' : World) : Prop :=
  ∃ fa fc, e = .returned (.slice fa out.length fc) ∧ Qs w w' b m most l (mput l k { q with evs := left }) ∧ ERow (fun i => i < w'.heap.size ∧ ¬ Own m l i) w' fa out
theorem own_same {m : Nat} {l : List (Int × Qr)} {k : Int} {q : Qr} (hk : mget l k = some q) (es : List Ev) (i : Nat) (h : Own m l i) : Own m (mput l k { q with evs := es }) i := by
  rcases h with rfl | ⟨k2, q2, h2, hi⟩
  · exact .inl rfl
  · by_cases e : k = k2
    · subst e
      rw [hk] at h2
      injection h2 with h2
      subst h2
      exact .inr ⟨k, { q with evs := es }, by rw [mget_mput, if_pos rfl], hi⟩
    · exact .inr ⟨k2, q2, by rw [mget_mput, if_neg e]; exact h2, hi⟩
theorem Ts.done {w wr : World} {b m : Nat} {most : Int} {l : List (Int × Qr)} {k : Int} {q : Qr} {j cap frm fc : Nat} {xs : List Ex} {fa : Option Addr} (h : Ts w wr most q j cap frm xs (.slice fa j fc)) (hj : j ≤ q.evs.length) (ht : Tq w b m most l) (hk : mget l k = some q) :
    TakeAll b m most l k (q.evs.take j) (q.evs.drop j) q w (.returned (.slice fa j fc)) wr := by
  obtain ⟨h1, h2⟩ := ht.one hk h.ring rfl (.inl rfl) h.chg
  have hl := h.len hj
  have hown := h.own
  rw [show ∀ n, wr.ownsRow w.heap.size 28 5 (.slice fa j fc) n (flatX xs) = wr.ownsRow w.heap.size 28 5 (.slice fa j fc) n (flatX xs) from fun _ => rfl] at hown
  obtain ⟨fa2, fc2, e, hrow⟩ := row_events (T := fun i => i < wr.heap.size ∧ ¬ Own m l i) hown h.vec
    (fun i c hc => ⟨blk_lt hc, fun ho => h1.no71 i c hc (own_same hk _ i ho)⟩)
    (fun i hi => by
      have hge := row_own hown hi.symm
      obtain ⟨cs, hb⟩ := row_tag hown hi.symm
      exact ⟨blk_lt hb, fun ho => by have := ht.own_lt i ho; omega⟩)
  injection e with e1 e2 e3
  subst e1
  rw [h.evs] at hrow
  refine ⟨fa, fc, ?_, ⟨h1, h2, h.chg.mono (fun i hi => .inr ⟨k, q, hk, hi⟩)⟩, hrow⟩
  rw [List.length_take, Nat.min_eq_left hj]
set_option maxHeartbeats 4000000 in
theorem takeAll_calls (b m : Nat) (most : Int) (l : List (Int × Qr)) (k : Int) (n : Int) (q : Qr) (w : World) (h : Tq w b m most l) (hk : mget l k = some q) (hlen : q.evs.length ≤ 900) :
    Calls Try.prog 12 #[.pointer (some ⟨b, 0, none⟩), .int .i64 k, .int .i64 n] w (TakeAll b m most l k (q.evs.take (takeN q.evs n)) (q.evs.drop (takeN q.evs n)) q w) := by
  obtain ⟨i0, hi, hz0, hz1, hz2⟩ := info_parts info28
  have hf := find_calls k w h
  rw [ptr_some hk, hk] at hf
  obtain ⟨cap0, frm0, hr0⟩ := h.ring k q hk
  have HS : Hid (Ts w w most q 0 cap0 frm0 [] (.slice none 0 0)) := Lib.hid ⟨hr0, rfl, ⟨rfl, .inl ⟨rfl, rfl⟩⟩, by simp, Chg.refl _ _⟩
  have HLT := Lib.hid (And.intro hr0.lt_rb hr0.lt_ab)
  have HF := Lib.hid hf
  have HT := Lib.hid h
  have HK := Lib.hid hk
  have HL := Lib.hid hlen
  clear hf h hk hlen hr0
  go_enter Try.func12, Try.ntmps12
  go_wp2_with (go_at_call 17; refine HF.out.mono ?_; rintro e w' ⟨rfl, rfl⟩)
  go_loopg [7] q.evs.length (fun g u wr => ∃ (j cap frm : Nat) (xs : List Ex) (fa : Option Addr) (fc : Nat), j ≤ q.evs.length ∧ g = q.evs.length - j ∧ u = .slice fa j fc ∧ j ≤ n.toNat ∧ Hid (Ts w wr most q j cap frm xs (.slice fa j fc)))
  case atStart => exact ⟨0, _, _, [], none, 0, by omega, rfl, rfl, by omega, HS⟩
  case round =>
    obtain ⟨j, cap, frm, xs, fa, fc, hj, rfl, rfl, hjn, H⟩ := hrel
    clear HS
    have c2 := H.out.ring.long
    simp only at c2
    cases hd : q.evs.drop j with
    | nil =>
      rw [hd] at c2
      have HE := Lib.hid (show takeN q.evs n = j by have := congrArg List.length hd; rw [List.length_drop] at this; simp at this; unfold takeN; omega)
      have HJ := Lib.hid hj
      clear hd
      go_wp2
      go_ret
      rw [HE.out]
      exact H.out.done HJ.out HT.out HK.out
    | cons x rest =>
      rw [hd] at c2
      by_cases hn : (j : Int) < n
      · have KT := Lib.hid (take_calls most { q with evs := q.evs.drop j } cap frm _ H.out.ring x rest hd (by simp only [List.length_drop]; have := HL.out; omega))
        have HD := Lib.hid hd
        have HN := Lib.hid hn
        have HJ := Lib.hid (And.intro hj hjn)
        have HX := Lib.hid (H.out.len hj)
        clear hd hj hjn
        go_wp2_with fail
        refine KT.out.mono ?_
        rintro e w1 ⟨va, vc, cap', frm', rfl, hv1, hr1, hc1⟩
        have HV1 := Lib.hid hv1
        have HR1 : Hid (RingAt w1 most ⟨q.rb, q.ab, rest, q.lost⟩ cap' frm') := Lib.hid hr1
        have HC1 : Hid (Chg (Rb q) _ w1) := Lib.hid (hc1.mono (T := Rb q) (fun i hi => hi))
        have HO1 := Lib.hid (row_chg H.out.own HC1.out (fun i hi => by have := HLT.out; rcases hi with rfl | rfl <;> omega))
        have HSZ := Lib.hid (Nat.le_trans H.out.chg.size HC1.out.size)
        clear hv1 hr1 hc1 c2 KT
        go_wp2_with (at_builtin; refine wpList_append_lies _ rfl _ _ 22 rfl w.heap.size 28 i0 (.agg #[.int .i64 0, .int .i64 0, .int .i64 0, .int .i64 0, .slice none 0 0]) 5 56 Try.underlying22 hi hz0 hz1 hz2 rfl (by decide) (.slice fa j fc) xs.length (flatX xs) rfl (HO1.out.alloc _) ⟨w1.heap.size, 0, none⟩ 1 1 (flatX [(x, va, vc)]) rfl rfl (cells_new _ _ _ _ rfl) (one_five x va vc) (by decide) (by have := HL.out; have := HX.out; have := HJ.out.1; unfold maxLen; omega) (by have := HL.out; have := HX.out; have := HJ.out.1; omega) (by have := HSZ.out; simp; omega) _ rfl ?_; intro g4 c4 w4 hown4 hg4 hat4 hlt4; have HT4 := Lib.hid (H.out.append HLT.out HD.out HV1.out HR1.out HC1.out hg4 hown4); clear hown4 hg4 hat4 hlt4)
        go_roundg (q.evs.length - (j + 1))
        case measure => have := (drop_next HD.out).2.2; omega
        case rel =>
          have h6 := HT4.out
          rw [HX.out] at h6
          exact ⟨j + 1, cap', frm', _, some ⟨g4, 0, none⟩, c4, (drop_next HD.out).2.2, rfl, by rw [HX.out], by have := HN.out; omega, Lib.hid h6⟩
      · have hn' : decide ((j : Int) < n) = false := decide_eq_false hn
        have HE := Lib.hid (show takeN q.evs n = j by unfold takeN; omega)
        have HJ := Lib.hid hj
        clear hd
        go_wp2
        go_ret
        rw [HE.out]
        exact H.out.done HJ.out HT.out HK.out
end Go.Proofs.Ytchhpgnlfofdcaa.Q
