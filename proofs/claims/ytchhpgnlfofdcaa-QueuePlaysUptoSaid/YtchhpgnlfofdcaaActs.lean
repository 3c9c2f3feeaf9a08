/- Acts, where they lie; Few. -/
import Derived.Test.YtchhpgnlfofdcaaLawP
set_option linter.unusedVariables false
set_option linter.unusedSimpArgs false
namespace Go.Proofs.Ytchhpgnlfofdcaa.Q
open Go.RowKit Go.Proofs.Ytchhpgnlfofdcaa.Hp Go.Proofs.Ytchhpgnlfofdcaa.Mp
set_option maxRecDepth 100000

/-- An act. -/
structure Ac where
  kind : Int
  frame : Int
  n : Int
  evs : List Ev
/-- An act at a place. -/
structure AcAt (T : Nat → Prop) (w : World) (g o : Nat) (a : Ac) (ea : Option Addr) (ec : Nat) : Prop where
  c0 : w.cell? ⟨g, o, none⟩ = some (.int .i64 a.kind)
  c1 : w.cell? ⟨g, o + 1, none⟩ = some (.int .i64 a.frame)
  c2 : w.cell? ⟨g, o + 2, none⟩ = some (.int .i64 a.n)
  c3 : w.cell? ⟨g, o + 3, none⟩ = some (.slice ea a.evs.length ec)
  evs : ERow T w ea a.evs
/-- Acts at a slice's place. -/
structure AAt (T : Nat → Prop) (w : World) (fa : Option Addr) (g o : Nat) (ls : List Ac) : Prop where
  lt : 0 < ls.length → fa = some ⟨g, o, none⟩ ∧ T g
  at' : ∀ j (hj : j < ls.length), ∃ ea ec, AcAt T w g (o + j * 4) ls[j] ea ec
section
variable {T T' : Nat → Prop} {w w' : World} {g o : Nat} {a : Ac} {ea fa : Option Addr} {ec : Nat} {ls : List Ac}
theorem AcAt.keep (h : AcAt T w g o a ea ec) (hg : w'.heap[g]? = w.heap[g]?) (hk : ∀ i, T i → w'.heap[i]? = w.heap[i]?) (hT : ∀ i, T i → T' i) : AcAt T' w' g o a ea ec :=
  ⟨(cell_same hg _).trans h.c0, (cell_same hg _).trans h.c1, (cell_same hg _).trans h.c2, (cell_same hg _).trans h.c3, h.evs.keep hk hT⟩
theorem AAt.keep (h : AAt T w fa g o ls) (hk : ∀ i, T i → w'.heap[i]? = w.heap[i]?) (hT : ∀ i, T i → T' i) : AAt T' w' fa g o ls :=
  ⟨fun hl => ⟨(h.lt hl).1, hT _ (h.lt hl).2⟩, fun j hj => by
    obtain ⟨va, vc, he⟩ := h.at' j hj
    exact ⟨va, vc, he.keep (hk g (h.lt (by omega)).2) hk hT⟩⟩
end
/-- How much the events of an act are. -/
def totE : List Ev → Nat
  | [] => 0
  | e :: es => 1 + e.vec.length + totE es
def totA : List Ac → Nat
  | [] => 0
  | a :: ls => totE a.evs + totA ls
theorem totE_take (es : List Ev) (k : Nat) (h : k < es.length) : totE (es.take (k + 1)) = totE (es.take k) + 1 + es[k].vec.length := by
  induction es generalizing k with
  | nil => simp at h
  | cons e es ih =>
    cases k with
    | zero => simp [totE]
    | succ k =>
      have := ih k (by simpa using h)
      simp only [List.take_succ_cons, totE, List.getElem_cons_succ, this]
      omega
theorem totE_le (es : List Ev) (k : Nat) : totE (es.take k) ≤ totE es := by
  induction es generalizing k with
  | nil => simp [totE]
  | cons e es ih =>
    cases k with
    | zero => simp [totE]
    | succ k => have := ih k; simp only [List.take_succ_cons, totE]; omega
theorem totA_take (ls : List Ac) (k : Nat) (h : k < ls.length) : totA (ls.take (k + 1)) = totA (ls.take k) + totE ls[k].evs := by
  induction ls generalizing k with
  | nil => simp at h
  | cons e es ih =>
    cases k with
    | zero => simp [totA]
    | succ k =>
      have := ih k (by simpa using h)
      simp only [List.take_succ_cons, totA, List.getElem_cons_succ, this]
      omega
theorem totA_le (ls : List Ac) (k : Nat) : totA (ls.take k) ≤ totA ls := by
  induction ls generalizing k with
  | nil => simp [totA]
  | cons e es ih =>
    cases k with
    | zero => simp [totA]
    | succ k => have := ih k; simp only [List.take_succ_cons, totA]; omega
theorem totE_len (es : List Ev) : es.length ≤ totE es := by
  induction es with
  | nil => simp
  | cons e es ih => simp only [List.length_cons, totE]; omega
theorem totE_vec {es : List Ev} {e : Ev} (h : e ∈ es) : e.vec.length ≤ totE es := by
  induction es with
  | nil => simp at h
  | cons x es ih =>
    simp only [totE]
    rcases List.mem_cons.1 h with rfl | h
    · omega
    · have := ih h; omega
theorem totA_mem {ls : List Ac} {a : Ac} (h : a ∈ ls) : totE a.evs ≤ totA ls := by
  induction ls with
  | nil => simp at h
  | cons x ls ih =>
    simp only [totA]
    rcases List.mem_cons.1 h with rfl | h
    · omega
    · have := ih h; omega
set_option maxHeartbeats 4000000 in
theorem few_calls (T : Nat → Prop) (fa : Option Addr) (g o fc : Nat) (ls : List Ac) (w : World) (hn : ls.length ≤ 1048576) (ht : totA ls ≤ 1048576) (hT : ∀ i, T i → i < w.heap.size) (h : AAt T w fa g o ls) :
    Calls Try.prog 15 #[.slice fa ls.length fc] w fun e w' => e = .returned (.bool (decide (ls.length ≤ 100) && decide (totA ls ≤ 600))) ∧ w = w' := by
  have HA := Lib.hid h
  have HT := Lib.hid hT
  have HN := Lib.hid (And.intro hn ht)
  clear h hT hn ht
  go_enter Try.func15, Try.ntmps15
  go_wp2_with fail
  go_loopg [3, 4] ls.length (fun gg n x wr => ∃ (j : Nat), j ≤ ls.length ∧ gg = ls.length - j ∧ n = .int .i64 (totA (ls.take j)) ∧ x = .int .i64 j ∧ wr = w)
  case atStart => exact ⟨0, by omega, rfl, rfl, rfl, rfl⟩
  case round =>
    obtain ⟨j, hj, rfl, rfl, rfl, rfl⟩ := hrel
    by_cases hlt : j < ls.length
    · obtain ⟨h1, h2⟩ := HA.out.lt (by omega)
      subst h1
      obtain ⟨ea, ec, hac⟩ := HA.out.at' j hlt
      have c3 := hac.c3
      have HE := Lib.hid hac.evs
      have HTA := Lib.hid (totA_take ls j hlt)
      have HTM := Lib.hid (totA_mem (List.getElem_mem hlt))
      have HTL := Lib.hid (totA_le ls (j + 1))
      have hji : (j : Int) < (ls.length : Int) := by omega
      have hj0 : (0 : Int) ≤ (j : Int) := by omega
      have hwj : IntKind.i64.wrap ((j : Int) + 1) = (j : Int) + 1 := IntWalk.i64_in _ (by have := HN.out; omega)
      have HLT := Lib.hid hlt
      clear hac h2
      generalize ls[j].evs = es at *
      obtain ⟨eg, eo, he⟩ := HE.out
      have HEV := Lib.hid he
      clear he
      go_wp2_with fail
      go_loopg [3, 5] es.length (fun gg n x wr' => ∃ (k : Nat), k ≤ es.length ∧ gg = es.length - k ∧ n = .int .i64 ((totA (ls.take j) + totE (es.take k) : Nat) : Int) ∧ x = .int .i64 k ∧ wr' = wr)
      case atStart => exact ⟨0, by omega, rfl, rfl, rfl, rfl⟩
      case round =>
        obtain ⟨k, hk, rfl, rfl, rfl, rfl⟩ := hrel
        by_cases hlk : k < es.length
        · obtain ⟨h1, h2⟩ := HEV.out.lt (by omega)
          subst h1
          obtain ⟨va, vc, hev⟩ := HEV.out.at' k hlk
          have c4 := hev.c4
          have HTE := Lib.hid (totE_take es k hlk)
          have HTK := Lib.hid (totE_le es (k + 1))
          have hki : (k : Int) < (es.length : Int) := by omega
          have hk0 : (0 : Int) ≤ (k : Int) := by omega
          have hwk : IntKind.i64.wrap ((k : Int) + 1) = (k : Int) + 1 := IntWalk.i64_in _ (by have h5 := totE_len es; have := HN.out; have := HTM.out; omega)
          have HLK := Lib.hid hlk
          clear hev h2
          generalize es[k] = ev at *
          have hw1 : IntKind.i64.wrap (((totA (ls.take j) + totE (es.take k) : Nat) : Int) + 1) = ((totA (ls.take j) + totE (es.take k) : Nat) : Int) + 1 := IntWalk.i64_in _ (by have := HTE.out; have := HTK.out; have := HTA.out; have := HTL.out; have := HN.out; omega)
          have hw2 : IntKind.i64.wrap (((totA (ls.take j) + totE (es.take k) : Nat) : Int) + 1 + (ev.vec.length : Int)) = ((totA (ls.take j) + totE (es.take (k + 1)) : Nat) : Int) := by
            rw [IntWalk.i64_in _ (by have := HTE.out; have := HTK.out; have := HTA.out; have := HTL.out; have := HN.out; omega)]
            have := HTE.out; omega
          generalize totA (ls.take j) + totE (es.take k) = tt at *
          go_wp2_with fail
          go_roundg (es.length - (k + 1))
          case measure => have := HLK.out; omega
          case rel => exact ⟨k + 1, HLK.out, rfl, by first | rfl | (simp [hw2]) | exact congrArg (Value.int .i64) (by omega), by go_num, rfl⟩
        · have hki : decide ((k : Int) < (es.length : Int)) = false := decide_eq_false (by omega)
          have HTK := Lib.hid (show es.take k = es from List.take_of_length_le (by omega))
          have hsum : totA (ls.take j) + totE (es.take k) = totA (ls.take (j + 1)) := by rw [HTK.out, HTA.out]
          rw [hsum]
          clear hsum
          go_wp2_with fail
          go_roundg (ls.length - (j + 1))
          case measure => have := HLT.out; omega
          case rel => exact ⟨j + 1, HLT.out, rfl, rfl, by go_num, rfl⟩
    · have hji : decide ((j : Int) < (ls.length : Int)) = false := decide_eq_false (by omega)
      have htk : ls.take j = ls := List.take_of_length_le (by omega)
      rw [htk]
      have h1 : decide ((ls.length : Int) ≤ 100) = decide (ls.length ≤ 100) := decide_eq_decide.2 (by omega)
      have h2 : decide ((totA ls : Int) ≤ 600) = decide (totA ls ≤ 600) := decide_eq_decide.2 (by omega)
      clear htk
      by_cases hq : ls.length ≤ 100
      · have q1 : decide (ls.length ≤ 100) = true := decide_eq_true hq
        clear hq
        go_wp2
        go_ret
        have := of_decide_eq_true q1
        simp
        try omega
      · have q1 : decide (ls.length ≤ 100) = false := decide_eq_false hq
        clear hq
        go_wp2
        go_ret
        have := of_decide_eq_false q1
        simp
        try omega
set_option maxHeartbeats 1000000 in
theorem take_absent {b m : Nat} {most : Int} {l : List (Int × Qr)} (k n : Int) (w : World) (h : Tq w b m most l) (hk : mget l k = none) : Calls Try.prog 12 #[.pointer (some ⟨b, 0, none⟩), .int .i64 k, .int .i64 n] w fun e w' => e = .returned (.slice none 0 0) ∧ w = w' := by
  have hf := find_calls k w h
  rw [ptr_none hk, hk] at hf
  have HF := Lib.hid hf
  clear h hf hk
  go_enter Try.func12, Try.ntmps12
  go_wp2_with (go_at_call 17; refine HF.out.mono ?_; rintro e w' ⟨rfl, rfl⟩)
  refine wp_loop_rounds 1 ?_
  rw [rounds_succ]
  go_wp2
  go_ret
  exact ⟨rfl, rfl⟩
end Go.Proofs.Ytchhpgnlfofdcaa.Q
