/- Walks: the reference's Same of vectors, SameIDs: where both are alike. -/
import Derived.Test.YtecgfghmmlpghaaShared0
set_option linter.unusedVariables false
set_option linter.unusedSimpArgs false
namespace Go.Proofs.Ytecgfghmmlpghaa.O
open Go.RowKit Go.Proofs.Ytecgfghmmlpghaa.Hp Go.Proofs.Ytecgfghmmlpghaa.Mp
set_option maxRecDepth 100000
attribute [local irreducible] Go.wpQuiet
set_option maxHeartbeats 2000000 in
theorem vecSame_calls (T : Nat → Prop) (va vb : Option Addr) (vc vd : Nat) (vec : List Pt) (w : World) (hT : ∀ i, T i → i < w.heap.size) (hlen : vec.length ≤ 100000) (h : PAt T w va vec) (h' : PAt T w vb vec) :
    Calls Try.prog 33 #[.slice va vec.length vc, .slice vb vec.length vd] w fun e w' => e = .returned (.bool true) ∧ Below w.heap.size w w' := by
  obtain ⟨g, o, h1, h2⟩ := h.part
  obtain ⟨g', o', h1', h2'⟩ := h'.part
  have H1 := Lib.hid h1
  have H2 := Lib.hid h1'
  have HG := Lib.hid (fun h0 => hT g (h1 h0).2)
  have HG' := Lib.hid (fun h0 => hT g' (h1' h0).2)
  have HC := Lib.hid h2
  have HC' := Lib.hid h2'
  have HL := Lib.hid hlen
  clear h1 h2 h1' h2' h h' hT hlen
  go_enter Try.func33, Try.ntmps33
  go_wp2_with fail
  go_loopg [5] vec.length (fun n i wr => ∃ (k : Nat), k ≤ vec.length ∧ n = vec.length - k ∧ i = .int .i64 k ∧ Hid (Below w.heap.size w wr))
  case atStart => exact ⟨0, by omega, rfl, rfl, Lib.hid (Below.refl _ _)⟩
  case round =>
    obtain ⟨k, hk, rfl, rfl, HB⟩ := hrel
    by_cases hlt : k < vec.length
    · obtain ⟨rfl, _⟩ := H1.out (by omega)
      obtain ⟨rfl, _⟩ := H2.out (by omega)
      obtain ⟨c1, c2, c3⟩ := HC.out k hlt
      obtain ⟨d1, d2, d3⟩ := HC'.out k hlt
      have hg := HG.out (by omega)
      have hg' := HG'.out (by omega)
      have x0 := below_cell HB.out hg c1
      have x1 := below_cell HB.out hg c2
      have x2 := below_cell HB.out hg c3
      have y0 := below_cell HB.out hg' d1
      have y1 := below_cell HB.out hg' d2
      have y2 := below_cell HB.out hg' d3
      have hki : (k : Int) < (vec.length : Int) := by omega
      have hk0 : (0 : Int) ≤ (k : Int) := by omega
      have hw : IntKind.i64.wrap ((k : Int) + 1) = (k : Int) + 1 := IntWalk.i64_in _ (by have := HL.out; omega)
      have HLT := Lib.hid hlt
      clear c1 c2 c3 d1 d2 d3 hg hg' hk
      generalize vec[k] = p at *
      have he : ∀ W, (Op.equalIn 10000 48 (.agg #[.int .i64 p.kind, .int .i64 p.role, .int .i64 p.amount]) (.agg #[.int .i64 p.kind, .int .i64 p.role, .int .i64 p.amount])).run Try.prog W = .ok true W := fun W => by
        have h9 := eqW48 9998 W p.kind p.role p.amount p.kind p.role p.amount
        rw [show (p.kind == p.kind && (p.role == p.role && p.amount == p.amount)) = true by simp] at h9
        exact h9
      have hgd : Try.prog.eqGuardType Try.prog.depth 48 = false := by kernel_rfl
      go_wp2_with fail
      (refine wp_region_quietC (fun w' => w' = wr.drew) (by kernel_rfl) (by kernel_rfl) ?hc0 ?_
       case hc0 => (rfl)
       repeat ((first
                 | go_big_quiet_skip
                 | (refine wpQuiet_ex (by kernel_rfl) ?_
                    apply Exists.intro
                    refine ⟨fun w' hC => ?_, ?_⟩
                    · skip
                      (subst hC)
                      go_simp
                      first
                        | done
                        | (with_reducible rfl)
                        | (fail)
                    try simp only [Act.put, List.setIfInBounds_toArray, List.set_cons_zero, List.set_cons_succ])))
       refine wpQuiet_nil ?_
       intro w' hC)
      subst hC
      go_wp2_with fail
      go_roundg (vec.length - (k + 1))
      case measure => have := HLT.out; omega
      case rel => exact ⟨k + 1, HLT.out, rfl, by go_num, Lib.hid (below_drew HB.out)⟩
    · have hki : decide ((k : Int) < (vec.length : Int)) = false := decide_eq_false (by omega)
      go_wp2_with fail
      go_ret
      exact ⟨rfl, HB.out⟩
set_option maxHeartbeats 2000000 in
theorem sameIDs_calls (va vb : Option Addr) (vc vd : Nat) (ids : List Int) (w : World) (hlen : ids.length ≤ 100000) (h : NAt w va ids) (h' : NAt w vb ids) :
    Calls Try.prog 21 #[.slice va ids.length vc, .slice vb ids.length vd] w fun e w' => e = .returned (.bool true) ∧ Below w.heap.size w w' := by
  have H1 := Lib.hid h
  have H2 := Lib.hid h'
  have HL := Lib.hid hlen
  clear h h' hlen
  go_enter Try.func21, Try.ntmps21
  go_wp2_with fail
  go_loopg [5] ids.length (fun n i wr => ∃ (k : Nat), k ≤ ids.length ∧ n = ids.length - k ∧ i = .int .i64 k ∧ Hid (Below w.heap.size w wr))
  case atStart => exact ⟨0, by omega, rfl, rfl, Lib.hid (Below.refl _ _)⟩
  case round =>
    obtain ⟨k, hk, rfl, rfl, HB⟩ := hrel
    by_cases hlt : k < ids.length
    · obtain ⟨g, rfl, hg, c1⟩ := H1.out k hlt
      obtain ⟨g', rfl, hg', d1⟩ := H2.out k hlt
      have x0 := below_cell HB.out hg c1
      have y0 := below_cell HB.out hg' d1
      have hki : (k : Int) < (ids.length : Int) := by omega
      have hk0 : (0 : Int) ≤ (k : Int) := by omega
      have hw : IntKind.i64.wrap ((k : Int) + 1) = (k : Int) + 1 := IntWalk.i64_in _ (by have := HL.out; omega)
      have HLT : Hid (k < ids.length) := Lib.hid hlt
      clear c1 d1 hg hg' hk
      generalize ids[k]'hlt = p at *
      go_wp2_with fail
      (refine wp_region_quietC (fun w' => w' = wr.drew) (by kernel_rfl) (by kernel_rfl) ?hc0 ?_
       case hc0 => (rfl)
       repeat ((first
                 | go_big_quiet_skip
                 | (refine wpQuiet_ex (by kernel_rfl) ?_
                    apply Exists.intro
                    refine ⟨fun w' hC => ?_, ?_⟩
                    · skip
                      (subst hC)
                      go_simp
                      first
                        | done
                        | (with_reducible rfl)
                        | (fail)
                    try simp only [Act.put, List.setIfInBounds_toArray, List.set_cons_zero, List.set_cons_succ])))
       refine wpQuiet_nil ?_
       intro w' hC)
      subst hC
      go_wp2_with fail
      go_roundg (ids.length - (k + 1))
      case measure => have := HLT.out; omega
      case rel => exact ⟨k + 1, HLT.out, rfl, by go_num, Lib.hid (below_drew HB.out)⟩
    · have hki : decide ((k : Int) < (ids.length : Int)) = false := decide_eq_false (by omega)
      go_wp2_with fail
      go_ret
      exact ⟨rfl, HB.out⟩
end Go.Proofs.Ytecgfghmmlpghaa.O
