/- Walks: the reference's At; its Same, where both are alike. -/
import Derived.Test.YtecgfghmmlpghaaRefM0
set_option linter.unusedVariables false
set_option linter.unusedSimpArgs false
namespace Go.Proofs.Ytecgfghmmlpghaa.O
open Go.RowKit Go.Proofs.Ytecgfghmmlpghaa.Hp Go.Proofs.Ytecgfghmmlpghaa.Mp
set_option maxRecDepth 100000
attribute [local irreducible] Go.wpQuiet
/-- An offer's place, -1: none. -/
def atI (os : List Of) (id : Int) : Int := match os.findIdx? (fun o => o.id == id) with | some k => k | none => -1
theorem atI_some {os : List Of} {id : Int} {k : Nat} (hk : k < os.length) (h : os[k].id = id) (hp : ∀ j (hj : j < k), os[j].id ≠ id) : atI os id = k := by
  unfold atI
  rw [List.findIdx?_eq_some_iff_getElem.2 ⟨hk, by simpa using h, fun j hj => by simpa using hp j hj⟩]
theorem atI_none {os : List Of} {id : Int} (h : ∀ j (hj : j < os.length), os[j].id ≠ id) : atI os id = -1 := by
  unfold atI
  rw [List.findIdx?_eq_none_iff.2 (fun o ho => by
    obtain ⟨j, hj, rfl⟩ := List.mem_iff_getElem.1 ho
    simpa using h j hj)]
set_option maxHeartbeats 2000000 in
theorem at_calls (T : Nat → Prop) (most last id : Int) (fa : Option Addr) (g fc : Nat) (xs : List Ox) (w : World) (hlen : xs.length ≤ 900) (hT : ∀ i, T i → i < w.heap.size) (h : OAt T w fa g 0 xs) :
    Calls Try.prog 17 #[.agg #[.int .i64 most, .int .i64 last, .slice fa xs.length fc], .int .i64 id] w fun e w' => e = .returned (.int .i64 (atI (xs.map (·.1)) id)) ∧ Below w.heap.size w w' := by
  have hba := (Below.refl _ w).alloc (Nat.le_refl _) (.cells #[.int .i64 most, .int .i64 last, .slice fa xs.length fc] 54)
  have HB := Lib.hid hba
  have m2 := blk_cell (blk_new w (.cells #[.int .i64 most, .int .i64 last, .slice fa xs.length fc] 54)) 2
  have HA := Lib.hid (h.keep (w' := w.alloc (.cells #[.int .i64 most, .int .i64 last, .slice fa xs.length fc] 54)) (T' := T) (fun i hi => hba.block i (hT i hi)) (fun _ h => h))
  have HL := Lib.hid hlen
  clear h hT hlen hba
  go_enter Try.func17, Try.ntmps17
  go_wp2_with fail
  generalize w.alloc (.cells #[.int .i64 most, .int .i64 last, .slice fa xs.length fc] 54) = W at *
  go_loopg [5] xs.length (fun n i wr => ∃ (k : Nat), k ≤ xs.length ∧ n = xs.length - k ∧ i = .int .i64 k ∧ wr = W ∧ Hid (∀ j (hj : j < xs.length), j < k → xs[j].1.id ≠ id))
  case atStart => exact ⟨0, by omega, rfl, rfl, rfl, Lib.hid (fun j hj h => by omega)⟩
  case round =>
    obtain ⟨k, hk, rfl, rfl, rfl, HN⟩ := hrel
    by_cases hlt : k < xs.length
    · obtain ⟨rfl, _⟩ := HA.out.lt (by omega)
      have hc := HA.out.cells hlt
      simp only [Nat.zero_add] at hc
      obtain ⟨x0, _⟩ := hc
      have hki : (k : Int) < (xs.length : Int) := by omega
      have hk0 : (0 : Int) ≤ (k : Int) := by omega
      have hw : IntKind.i64.wrap ((k : Int) + 1) = (k : Int) + 1 := IntWalk.i64_in _ (by have := HL.out; omega)
      by_cases he : xs[k].1.id = id
      · have HR : Hid (atI (xs.map (·.1)) id = k) := Lib.hid (atI_some (by rw [List.length_map]; exact hlt) (by rw [List.getElem_map]; exact he) (fun j hj => by rw [List.getElem_map]; exact HN.out j (by omega) hj))
        have e1 : (xs[k].1.id == id) = true := by simpa using he
        clear he
        generalize xs[k].1.id = q at *
        go_wp2_with fail
        go_ret
        exact ⟨by rw [HR.out]; rfl, HB.out⟩
      · have e1 : (xs[k].1.id == id) = false := by simpa using he
        have HN2 : Hid (∀ j (hj : j < xs.length), j < k + 1 → xs[j].1.id ≠ id) := Lib.hid (fun j hj h => by
          rcases Nat.lt_succ_iff_lt_or_eq.1 h with h1 | rfl
          · exact HN.out j hj h1
          · exact he)
        have HLT : Hid (k < xs.length) := Lib.hid hlt
        clear he HN hk
        generalize xs[k].1.id = q at *
        go_wp2_with fail
        go_roundg (xs.length - (k + 1))
        case measure => have := HLT.out; omega
        case rel => exact ⟨k + 1, HLT.out, rfl, by go_num, rfl, HN2⟩
    · have hki : decide ((k : Int) < (xs.length : Int)) = false := decide_eq_false (by omega)
      have HR : Hid (atI (xs.map (·.1)) id = -1) := Lib.hid (atI_none (fun j hj => by rw [List.getElem_map]; rw [List.length_map] at hj; exact HN.out j hj (by omega)))
      go_wp2_with fail
      go_ret
      exact ⟨by rw [HR.out]; rfl, HB.out⟩
set_option maxHeartbeats 4000000 in
theorem same_calls (T : Nat → Prop) (fa fb : Option Addr) (ga oa gb ob fc fd : Nat) (xs ys : List Ox) (w : World) (hlen : xs.length ≤ 900) (hv : ∀ x ∈ xs, x.1.vec.length ≤ 700) (hT : ∀ i, T i → i < w.heap.size) (hxy : xs.map (·.1) = ys.map (·.1)) (h : OAt T w fa ga oa xs) (h' : OAt T w fb gb ob ys) :
    Calls Try.prog 18 #[.slice fa xs.length fc, .slice fb ys.length fd] w fun e w' => e = .returned (.bool true) ∧ Below w.heap.size w w' := by
  have hyl : ys.length = xs.length := by have := congrArg List.length hxy; simpa using this.symm
  rw [hyl]
  have HYL := Lib.hid hyl
  have HA := Lib.hid h
  have HA' := Lib.hid h'
  have HL := Lib.hid hlen
  have HXY := Lib.hid hxy
  have HV := Lib.hid hv
  have HT := Lib.hid hT
  clear h h' hT hlen hxy hyl hv
  go_enter Try.func18, Try.ntmps18
  go_wp2_with fail
  go_loopg [5] xs.length (fun n i wr => ∃ (k : Nat), k ≤ xs.length ∧ n = xs.length - k ∧ i = .int .i64 k ∧ Hid (Below w.heap.size w wr))
  case atStart => exact ⟨0, by omega, rfl, rfl, Lib.hid (Below.refl _ _)⟩
  case round =>
    obtain ⟨k, hk, rfl, rfl, HB⟩ := hrel
    by_cases hlt : k < xs.length
    · have hlty : k < ys.length := by rw [HYL.out]; exact hlt
      obtain ⟨rfl, hga⟩ := HA.out.lt (by omega)
      obtain ⟨rfl, hgb⟩ := HA'.out.lt (by omega)
      have hxk : xs[k].1 = ys[k].1 := by
        have := congrArg (fun l : List Of => l[k]?) HXY.out
        simpa [List.getElem?_map, List.getElem?_eq_getElem hlt, List.getElem?_eq_getElem hlty] using this
      have HC : Hid (∀ W, Below w.heap.size w W → _) := Lib.hid (fun W hb => (HA.out.keep (w' := W) (T' := T) (fun i hi => hb.block i (HT.out i hi)) (fun _ h => h)).cells hlt)
      have HC' : Hid (∀ W, Below w.heap.size w W → _) := Lib.hid (fun W hb => (HA'.out.keep (w' := W) (T' := T) (fun i hi => hb.block i (HT.out i hi)) (fun _ h => h)).cells hlty)
      have KV := Lib.hid (fun W (hb : Below w.heap.size w W) => vecSame_calls T xs[k].2.1 ys[k].2.1 xs[k].2.2 ys[k].2.2 xs[k].1.vec W (fun i hi => Nat.lt_of_lt_of_le (HT.out i hi) hb.size) (by have := HV.out _ (List.getElem_mem hlt); omega) ((HA.out.vec _ (List.getElem_mem hlt)).keep (fun i hi => hb.block i (HT.out i hi)) (fun _ h => h)) (by rw [hxk]; exact (HA'.out.vec _ (List.getElem_mem hlty)).keep (fun i hi => hb.block i (HT.out i hi)) (fun _ h => h)))
      rw [← hxk] at HC'
      have hki : (k : Int) < (xs.length : Int) := by omega
      have hk0 : (0 : Int) ≤ (k : Int) := by omega
      have hw : IntKind.i64.wrap ((k : Int) + 1) = (k : Int) + 1 := IntWalk.i64_in _ (by have := HL.out; omega)
      have HLT : Hid (k < xs.length) := Lib.hid hlt
      clear hk hxk hga hgb
      generalize xs[k] = x at *
      generalize ys[k] = y at *
      go_wp2_with fail
      (refine wp_region_quietC (fun w' => Below wr.heap.size wr w') (by kernel_rfl) (by kernel_rfl) ?hc0 ?_
       case hc0 => (exact below_drew (Below.refl _ _))
       repeat ((first
                 | go_big_quiet_skip
                 | (refine wpQuiet_ex (by kernel_rfl) ?_
                    apply Exists.intro
                    refine ⟨fun w' hC => ?_, ?_⟩
                    · skip
                      ((have hC2 : Below w.heap.size w w' := HB.out.trans (Below.mono hC HB.out.size); obtain ⟨x0, x1, x2, x3, x4⟩ := HC.out w' hC2; obtain ⟨y0, y1, y2, y3, y4⟩ := HC'.out w' hC2))
                      go_simp
                      first
                        | done
                        | (with_reducible rfl)
                        | ((go_at_call 33; exact Calls.quietC_of (KV.out w' hC2) (fun _ h2 => Below.trans hC (Below.mono h2 (Below.size hC)))))
                    try simp only [Act.put, List.setIfInBounds_toArray, List.set_cons_zero, List.set_cons_succ])))
       refine wpQuiet_nil ?_
       intro w' hC)
      have HB2 := Lib.hid (HB.out.trans (Below.mono hC HB.out.size))
      clear hC HB
      go_wp2_with fail
      go_roundg (xs.length - (k + 1))
      case measure => have := HLT.out; omega
      case rel => exact ⟨k + 1, HLT.out, rfl, by go_num, HB2⟩
    · have hki : decide ((k : Int) < (xs.length : Int)) = false := decide_eq_false (by omega)
      go_wp2_with fail
      go_ret
      exact ⟨rfl, HB.out⟩
end Go.Proofs.Ytecgfghmmlpghaa.O
