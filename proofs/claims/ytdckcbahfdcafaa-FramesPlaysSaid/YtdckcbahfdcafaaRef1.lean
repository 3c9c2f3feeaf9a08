/- The reference's table: At, Weight. -/
import Derived.Test.YtdckcbahfdcafaaRolesWalk
set_option linter.unusedVariables false
set_option linter.unusedSimpArgs false
namespace Go.Proofs.Ytdckcbahfdcafaa.F
open Go.RowKit Go.Sort Go.Proofs.Ytdckcbahfdcafaa.Hp Go.Proofs.Ytdckcbahfdcafaa.Mp
set_option maxRecDepth 100000

/-- A row of frameworks: their cells. -/
def flatF : List Fr → List Value
  | [] => []
  | f :: fs => (cellsF f).toList ++ flatF fs
theorem flatF_length : ∀ fs, (flatF fs).length = fs.length * 7
  | [] => rfl
  | f :: fs => by simp only [flatF, List.length_append, flatF_length fs, List.length_cons]; show 7 + _ = _; omega
theorem flatF_get : ∀ (fs : List Fr) (j i : Nat) (h : j < fs.length), i < 7 → (flatF fs)[j * 7 + i]? = (cellsF fs[j]).toList[i]?
  | f :: fs, 0, i, h, hi => by
    simp only [flatF, Nat.zero_mul, Nat.zero_add, List.getElem_cons_zero]
    rw [List.getElem?_append_left (show i < 7 from hi)]
  | f :: fs, j + 1, i, h, hi => by
    have := flatF_get fs j i (by simpa using h) hi
    simp only [flatF, List.getElem_cons_succ]
    rw [List.getElem?_append_right (show 7 ≤ (j + 1) * 7 + i by omega), ← this]
    congr 1
    show (j + 1) * 7 + i - 7 = _
    omega
theorem flatF_append : ∀ a b, flatF (a ++ b) = flatF a ++ flatF b
  | [], b => rfl
  | f :: a, b => by simp only [List.cons_append, flatF, flatF_append a b, List.append_assoc]
/-- The cells of a framework that stands at a place of a row. -/
structure FrAt (w : World) (g o : Nat) (f : Fr) : Prop where
  c0 : w.cell? ⟨g, o, none⟩ = some (.int .i64 f.id)
  c1 : w.cell? ⟨g, o + 1, none⟩ = some (.int .i64 f.role)
  c2 : w.cell? ⟨g, o + 2, none⟩ = some (.int .i64 f.weight)
  c3 : w.cell? ⟨g, o + 3, none⟩ = some (.bool f.up)
  c4 : w.cell? ⟨g, o + 4, none⟩ = some (.bool f.quiet)
  c5 : w.cell? ⟨g, o + 5, none⟩ = some (.int .i64 f.time)
  c6 : w.cell? ⟨g, o + 6, none⟩ = some (.int .i64 f.till)
theorem frow_cell {w : World} {base : Nat} {v : Value} {fs : List Fr} (h : w.ownsRow base 30 7 v fs.length (flatF fs)) :
    ∃ (fa : Option Addr) (g c : Nat), v = .slice fa fs.length c ∧ (0 < fs.length → fa = some ⟨g, 0, none⟩ ∧ base ≤ g ∧ g < w.heap.size) ∧ ∀ j (hj : j < fs.length), FrAt w g (0 + j * 7) fs[j] := by
  rcases h.2 with ⟨rfl, h0⟩ | ⟨g, cap, cur, rfl, hb, hbk, h1, h2, h3, h4⟩
  · exact ⟨none, 0, 0, by rw [h0], fun hh => by omega, fun j hj => by omega⟩
  · refine ⟨_, g, cap, rfl, fun _ => ⟨rfl, hb, blk_lt hbk⟩, fun j hj => ?_⟩
    have key : ∀ i, i < 7 → w.cell? ⟨g, 0 + j * 7 + i, none⟩ = (cellsF fs[j]).toList[i]? := by
      intro i hi
      rw [Nat.zero_add, blk_cell hbk, ← Array.getElem?_toList, ← flatF_get fs j i hj hi, ← h4, List.getElem?_take_of_lt (by omega)]
    exact ⟨key 0 (by omega), key 1 (by omega), key 2 (by omega), key 3 (by omega), key 4 (by omega), key 5 (by omega), key 6 (by omega)⟩
theorem FrAt.below {B : Nat} {w w' : World} {g o : Nat} {f : Fr} (h : FrAt w g o f) (hb : Below B w w') (hg : g < B) : FrAt w' g o f :=
  ⟨below_cell hb hg h.c0, below_cell hb hg h.c1, below_cell hb hg h.c2, below_cell hb hg h.c3, below_cell hb hg h.c4, below_cell hb hg h.c5, below_cell hb hg h.c6⟩

/-- The place of a framework; -1: there is none. -/
def atF (fs : List Fr) (id : Int) : Int := match fs.findIdx? (·.id == id) with
  | some k => k
  | none => -1

set_option maxHeartbeats 4000000 in
theorem at_calls (cap id : Int) (fa : Option Addr) (g fc : Nat) (fs : List Fr) (w : World) (hlen : fs.length ≤ 900) (ha : 0 < fs.length → fa = some ⟨g, 0, none⟩ ∧ g < w.heap.size) (hc : ∀ j (hj : j < fs.length), FrAt w g (0 + j * 7) fs[j]) :
    Calls Try.prog 14 #[.agg #[.int .i64 cap, .slice fa fs.length fc], .int .i64 id] w fun e w' => e = .returned (.int .i64 (atF fs id)) ∧ Below w.heap.size w w' := by
  have HA := Lib.hid ha
  have HC := Lib.hid hc
  have HL := Lib.hid hlen
  have HB := Lib.hid ((Below.refl _ w).alloc (Nat.le_refl _) (.cells #[.int .i64 cap, .slice fa fs.length fc] 41))
  have HN := Lib.hid (blk_new w (.cells #[.int .i64 cap, .slice fa fs.length fc] 41))
  clear ha hc hlen
  go_enter Try.func14, Try.ntmps14
  go_wp2
  go_loopg [5] fs.length (fun n i wr => ∃ (k : Nat), k ≤ fs.length ∧ n = fs.length - k ∧ i = .int .i64 k ∧ wr = w.alloc (.cells #[.int .i64 cap, .slice fa fs.length fc] 41) ∧ Hid (∀ j (hj : j < fs.length), j < k → fs[j].id ≠ id))
  case atStart => exact ⟨0, by omega, rfl, rfl, rfl, Lib.hid (fun j hj h => by omega)⟩
  case round =>
    obtain ⟨k, hk, rfl, rfl, rfl, HK⟩ := hrel
    by_cases hlt : k < fs.length
    · obtain ⟨h1, h2⟩ := HA.out (by omega)
      subst h1
      have hf := (HC.out k hlt).below HB.out h2
      rw [Nat.zero_add] at hf
      have c0 := hf.c0
      have HE := Lib.hid (show fs[k] = fs[k] from rfl)
      have HK2 := Lib.hid (fun (hne : fs[k].id ≠ id) j (hj : j < fs.length) (hjk : j < k + 1) => show fs[j].id ≠ id from by
        rcases Nat.lt_or_eq_of_le (Nat.le_of_lt_succ hjk) with h | h
        · exact HK.out j hj h
        · subst h; exact hne)
      have HR := Lib.hid (fun (he : fs[k].id = id) => show atF fs id = (k : Int) from by
        unfold atF
        rw [List.findIdx?_eq_some_iff_getElem.2 ⟨hlt, by simpa using he, fun j hj => by have := HK.out j (by omega) hj; simpa using this⟩])
      have hki : (k : Int) < (fs.length : Int) := by omega
      have hk0 : (0 : Int) ≤ (k : Int) := by omega
      have hw : IntKind.i64.wrap ((k : Int) + 1) = (k : Int) + 1 := IntWalk.i64_in _ (by have := HL.out; omega)
      have HLT := Lib.hid hlt
      clear hf h2 HE
      generalize fs[k].id = x at *
      by_cases hx : x = id
      · have hq : (x == id) = true := by rw [hx]; exact beq_self_eq_true _
        have HX := Lib.hid hx
        clear hx
        go_wp2
        go_ret
        exact ⟨by rw [HR.out HX.out]; rfl, HB.out⟩
      · have hq : (x == id) = false := by rw [beq_eq_false_iff_ne]; exact hx
        have HX := Lib.hid hx
        clear hx
        go_wp2
        go_roundg (fs.length - (k + 1))
        case measure => have := HLT.out; omega
        case rel => exact ⟨k + 1, HLT.out, rfl, by go_num, rfl, Lib.hid (HK2.out HX.out)⟩
    · have hki : decide ((k : Int) < (fs.length : Int)) = false := decide_eq_false (by omega)
      have hr : atF fs id = -1 := by
        unfold atF
        rw [List.findIdx?_eq_none_iff.2 (fun f hf => by
          obtain ⟨j, hj, rfl⟩ := List.getElem_of_mem hf
          have := HK.out j hj (by omega)
          simpa using this)]
      have HR := Lib.hid hr
      clear hr
      go_wp2
      go_ret
      exact ⟨by rw [HR.out]; rfl, HB.out⟩
end Go.Proofs.Ytdckcbahfdcafaa.F
