/- Acts, where they lie; Few. -/
import Derived.Test.YtecgfghmmlpghaaGet
import Derived.Deep.LoopGhost
set_option linter.unusedVariables false
set_option linter.unusedSimpArgs false
namespace Go.Proofs.Ytecgfghmmlpghaa.O
open Go.RowKit Go.Proofs.Ytecgfghmmlpghaa.Hp Go.Proofs.Ytecgfghmmlpghaa.Mp
set_option maxRecDepth 100000
/-- An act. -/
structure Ac where
  close : Bool
  id : Int
  frame : Int
  agent : Int
  vec : List Pt
  till : Int
/-- An act at a place. -/
structure AcAt (T : Nat → Prop) (w : World) (g o : Nat) (a : Ac) (va : Option Addr) (vc : Nat) : Prop where
  c0 : w.cell? ⟨g, o, none⟩ = some (.bool a.close)
  c1 : w.cell? ⟨g, o + 1, none⟩ = some (.int .i64 a.id)
  c2 : w.cell? ⟨g, o + 2, none⟩ = some (.int .i64 a.frame)
  c3 : w.cell? ⟨g, o + 3, none⟩ = some (.int .i64 a.agent)
  c4 : w.cell? ⟨g, o + 4, none⟩ = some (.slice va a.vec.length vc)
  c5 : w.cell? ⟨g, o + 5, none⟩ = some (.int .i64 a.till)
  vec : PAt T w va a.vec
/-- Acts at a slice's place. -/
structure AAt (T : Nat → Prop) (w : World) (fa : Option Addr) (g o : Nat) (ls : List Ac) : Prop where
  lt : 0 < ls.length → fa = some ⟨g, o, none⟩ ∧ T g
  at' : ∀ j (hj : j < ls.length), ∃ va vc, AcAt T w g (o + j * 6) ls[j] va vc
section
variable {T T' : Nat → Prop} {w w' : World} {g o : Nat} {a : Ac} {va fa : Option Addr} {vc : Nat} {ls : List Ac}
theorem AcAt.keep (h : AcAt T w g o a va vc) (hg : w'.heap[g]? = w.heap[g]?) (hk : ∀ i, T i → w'.heap[i]? = w.heap[i]?) (hT : ∀ i, T i → T' i) : AcAt T' w' g o a va vc :=
  ⟨(cell_same hg _).trans h.c0, (cell_same hg _).trans h.c1, (cell_same hg _).trans h.c2, (cell_same hg _).trans h.c3, (cell_same hg _).trans h.c4, (cell_same hg _).trans h.c5, h.vec.keep hk hT⟩
theorem AAt.keep (h : AAt T w fa g o ls) (hk : ∀ i, T i → w'.heap[i]? = w.heap[i]?) (hT : ∀ i, T i → T' i) : AAt T' w' fa g o ls :=
  ⟨fun hl => ⟨(h.lt hl).1, hT _ (h.lt hl).2⟩, fun j hj => by
    obtain ⟨va, vc, he⟩ := h.at' j hj
    exact ⟨va, vc, he.keep (hk g (h.lt (by omega)).2) hk hT⟩⟩
end
/-- How many parts there are in all. -/
def totA : List Ac → Nat
  | [] => 0
  | a :: ls => a.vec.length + totA ls
theorem totA_take (ls : List Ac) (k : Nat) (h : k < ls.length) : totA (ls.take (k + 1)) = totA (ls.take k) + ls[k].vec.length := by
  induction ls generalizing k with
  | nil => simp at h
  | cons e es ih =>
    cases k with
    | zero => simp [totA]
    | succ k =>
      have := ih k (by simpa using h)
      simp only [List.take_succ_cons, totA, List.getElem_cons_succ, this]
      omega
theorem totA_le (ls : List Ac) (k : Nat) : totA (ls.take k) ≤ totA ls := by
  induction ls generalizing k with
  | nil => simp [totA]
  | cons e es ih =>
    cases k with
    | zero => simp [totA]
    | succ k => have := ih k; simp only [List.take_succ_cons, totA]; omega
theorem totA_mem {ls : List Ac} {a : Ac} (h : a ∈ ls) : a.vec.length ≤ totA ls := by
  induction ls with
  | nil => simp at h
  | cons x ls ih =>
    simp only [totA]
    rcases List.mem_cons.1 h with rfl | h
    · omega
    · have := ih h; omega
def fewA (ls : List Ac) : Bool := decide (ls.length ≤ 100) && decide (totA ls ≤ 400)
set_option maxHeartbeats 4000000 in
theorem few_calls (T : Nat → Prop) (fa : Option Addr) (g o fc : Nat) (ls : List Ac) (w : World) (h : AAt T w fa g o ls) (hn : ls.length ≤ 4611686018427387903) (ht : ls.length ≤ 100 → totA ls ≤ 4611686018427387903) :
    Calls Try.prog 6 #[.slice fa ls.length fc] w fun e w' => e = .returned (.bool (fewA ls)) ∧ w = w' := by
  have HA := Lib.hid h
  have HN := Lib.hid hn
  have HT := Lib.hid ht
  clear h hn ht
  go_enter Try.func6, Try.ntmps6
  go_wp2_with fail
  go_loopg [3, 4] ls.length (fun n s i wr => ∃ (k : Nat) (z : Int), k ≤ ls.length ∧ n = ls.length - k ∧ s = .int .i64 z ∧ i = .int .i64 k ∧ Hid (ls.length ≤ 100 → z = (totA (ls.take k) : Nat)) ∧ w = wr)
  case atStart => exact ⟨0, 0, by omega, rfl, rfl, rfl, Lib.hid (fun _ => rfl), rfl⟩
  case round =>
    obtain ⟨k, z, hk, rfl, rfl, rfl, HZ, rfl⟩ := hrel
    by_cases hlt : k < ls.length
    · obtain ⟨rfl, _⟩ := HA.out.lt (by omega)
      obtain ⟨va, vc, hat⟩ := HA.out.at' k hlt
      have y := hat.c4
      have hki : (k : Int) < (ls.length : Int) := by omega
      have hk0 : (0 : Int) ≤ (k : Int) := by omega
      have hw : IntKind.i64.wrap ((k : Int) + 1) = (k : Int) + 1 := IntWalk.i64_in _ (by have := HN.out; omega)
      have HZ2 : Hid (ls.length ≤ 100 → IntKind.i64.wrap (z + (ls[k].vec.length : Int)) = (totA (ls.take (k + 1)) : Nat)) := Lib.hid (fun h100 => by
        have e := HZ.out h100
        have htk := totA_take ls k hlt
        have htl := totA_le ls (k + 1)
        have := HT.out h100
        rw [e, IntWalk.i64_in _ (by omega)]
        omega)
      have HLT := Lib.hid hlt
      clear hat hk HZ
      go_wp2_with fail
      go_roundg (ls.length - (k + 1))
      case measure => have := HLT.out; omega
      case rel => exact ⟨k + 1, _, HLT.out, rfl, rfl, by go_num, Lib.hid (fun h => (IntWalk.i64_left _).symm.trans (HZ2.out h)), rfl⟩
    · have hki : decide ((k : Int) < (ls.length : Int)) = false := decide_eq_false (by omega)
      obtain rfl : k = ls.length := by omega
      rw [List.take_length] at HZ
      clear hk hlt
      by_cases h1 : (ls.length : Int) ≤ 100
      · have d1 : decide ((ls.length : Int) ≤ 100) = true := decide_eq_true h1
        have e := HZ.out (by omega)
        have HF : Hid (fewA ls = (decide ((ls.length : Int) ≤ 100) && decide (z ≤ 400))) := Lib.hid (by
          unfold fewA
          rw [show decide (ls.length ≤ 100) = decide ((ls.length : Int) ≤ 100) from decide_eq_decide.2 (by omega), show decide (totA ls ≤ 400) = decide (z ≤ 400) from decide_eq_decide.2 (by omega)])
        clear e HZ
        go_wp2_with fail
        go_ret
        exact ⟨by rw [HF.out, d1]; rfl, rfl⟩
      · have d1 : decide ((ls.length : Int) ≤ 100) = false := decide_eq_false h1
        have HF : Hid (fewA ls = false) := Lib.hid (by
          unfold fewA
          rw [show decide (ls.length ≤ 100) = decide ((ls.length : Int) ≤ 100) from decide_eq_decide.2 (by omega), d1]; rfl)
        clear HZ
        go_wp2_with fail
        go_ret
        exact ⟨by rw [HF.out]; rfl, rfl⟩
theorem few_len {ls : List Ac} (h : fewA ls = true) : ls.length ≤ 100 ∧ totA ls ≤ 400 := by
  unfold fewA at h
  simpa using h
end Go.Proofs.Ytecgfghmmlpghaa.O
