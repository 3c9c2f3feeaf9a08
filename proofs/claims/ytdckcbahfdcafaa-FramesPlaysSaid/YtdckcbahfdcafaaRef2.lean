/- The reference's table: Weight. -/
import Derived.Test.YtdckcbahfdcafaaRef1
set_option linter.unusedVariables false
set_option linter.unusedSimpArgs false
namespace Go.Proofs.Ytdckcbahfdcafaa.F
open Go.RowKit Go.Sort Go.Proofs.Ytdckcbahfdcafaa.Hp Go.Proofs.Ytdckcbahfdcafaa.Mp
set_option maxRecDepth 100000

/-- The weight of a role; 0: nobody is of it. -/
def weightF (fs : List Fr) (role : Int) : Int := match fs.find? (·.role == role) with
  | some f => f.weight
  | none => 0
theorem weightF_some {fs : List Fr} {role : Int} (k : Nat) (h : k < fs.length) (he : fs[k].role = role) (hn : ∀ j (hj : j < fs.length), j < k → fs[j].role ≠ role) : weightF fs role = fs[k].weight := by
  unfold weightF
  rw [List.find?_eq_some_iff_getElem.2 ⟨by simpa using he, k, h, rfl, fun j hj => by have := hn j (by omega) hj; simpa using this⟩]
theorem weightF_none {fs : List Fr} {role : Int} (hn : ∀ j (hj : j < fs.length), fs[j].role ≠ role) : weightF fs role = 0 := by
  unfold weightF
  rw [List.find?_eq_none.2 (fun f hf => by
    obtain ⟨j, hj, rfl⟩ := List.getElem_of_mem hf
    have := hn j hj
    simpa using this)]

set_option maxHeartbeats 4000000 in
theorem refWeight_calls (cap role : Int) (fa : Option Addr) (g fc : Nat) (fs : List Fr) (w : World) (hlen : fs.length ≤ 900) (ha : 0 < fs.length → fa = some ⟨g, 0, none⟩ ∧ g < w.heap.size) (hc : ∀ j (hj : j < fs.length), FrAt w g (0 + j * 7) fs[j]) :
    Calls Try.prog 18 #[.agg #[.int .i64 cap, .slice fa fs.length fc], .int .i64 role] w fun e w' => e = .returned (.int .i64 (weightF fs role)) ∧ Below w.heap.size w w' := by
  have HA := Lib.hid ha
  have HC := Lib.hid hc
  have HL := Lib.hid hlen
  have HB := Lib.hid ((Below.refl _ w).alloc (Nat.le_refl _) (.cells #[.int .i64 cap, .slice fa fs.length fc] 41))
  clear ha hc hlen
  go_enter Try.func18, Try.ntmps18
  go_wp2
  go_loopg [5] fs.length (fun n i wr => ∃ (k : Nat), k ≤ fs.length ∧ n = fs.length - k ∧ i = .int .i64 k ∧ wr = w.alloc (.cells #[.int .i64 cap, .slice fa fs.length fc] 41) ∧ Hid (∀ j (hj : j < fs.length), j < k → fs[j].role ≠ role))
  case atStart => exact ⟨0, by omega, rfl, rfl, rfl, Lib.hid (fun j hj h => by omega)⟩
  case round =>
    obtain ⟨k, hk, rfl, rfl, rfl, HK⟩ := hrel
    by_cases hlt : k < fs.length
    · obtain ⟨h1, h2⟩ := HA.out (by omega)
      subst h1
      have hf := (HC.out k hlt).below HB.out h2
      rw [Nat.zero_add] at hf
      have c1 := hf.c1
      have c2 := hf.c2
      have HK2 := Lib.hid (fun (hne : fs[k].role ≠ role) j (hj : j < fs.length) (hjk : j < k + 1) => show fs[j].role ≠ role from by
        rcases Nat.lt_or_eq_of_le (Nat.le_of_lt_succ hjk) with h | h
        · exact HK.out j hj h
        · subst h; exact hne)
      have HR := Lib.hid (fun (he : fs[k].role = role) => weightF_some k hlt he HK.out)
      have hki : (k : Int) < (fs.length : Int) := by omega
      have hk0 : (0 : Int) ≤ (k : Int) := by omega
      have hw : IntKind.i64.wrap ((k : Int) + 1) = (k : Int) + 1 := IntWalk.i64_in _ (by have := HL.out; omega)
      have HLT := Lib.hid hlt
      clear hf h2
      generalize fs[k].role = x at *
      generalize fs[k].weight = y at *
      by_cases hx : x = role
      · have hq : (x == role) = true := by rw [hx]; exact beq_self_eq_true _
        have HX := Lib.hid hx
        clear hx
        go_wp2
        go_ret
        exact ⟨by rw [HR.out HX.out]; rfl, HB.out⟩
      · have hq : (x == role) = false := by rw [beq_eq_false_iff_ne]; exact hx
        have HX := Lib.hid hx
        clear hx
        go_wp2
        go_roundg (fs.length - (k + 1))
        case measure => have := HLT.out; omega
        case rel => exact ⟨k + 1, HLT.out, rfl, by go_num, rfl, Lib.hid (HK2.out HX.out)⟩
    · have hki : decide ((k : Int) < (fs.length : Int)) = false := decide_eq_false (by omega)
      have HR := Lib.hid (weightF_none (fs := fs) (role := role) (fun j hj => HK.out j hj (by omega)))
      go_wp2
      go_ret
      exact ⟨by rw [HR.out]; rfl, HB.out⟩
end Go.Proofs.Ytdckcbahfdcafaa.F
