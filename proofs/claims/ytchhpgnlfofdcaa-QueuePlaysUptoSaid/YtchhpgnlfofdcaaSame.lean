/- Walks: Same of two vectors, SameEvents of two rows, that are alike. -/
import Derived.Test.YtchhpgnlfofdcaaThose
import Derived.Laws.StructEq
set_option linter.unusedVariables false
set_option linter.unusedSimpArgs false
namespace Go.Proofs.Ytchhpgnlfofdcaa.Q
open Go.RowKit Go.Sort Go.Proofs.Ytchhpgnlfofdcaa.Hp Go.Proofs.Ytchhpgnlfofdcaa.Mp
set_option maxRecDepth 100000
section
variable {P : Program} {d : Nat} {xs ys : Array Value} {f : Field} {fs : List Field} {a b : Value} {r s : Bool} {w : World}
theorem fields_last (hn : (f.name == "_") = false) (ha : (part f.type xs f.offset).run P w = .ok a w) (hb : (part f.type ys f.offset).run P w = .ok b w) (he : (Op.equalIn d f.type a b).run P w = .ok r w) : (Op.eqFields d xs ys [f]).run P w = .ok r w := by
  have hn' : f.name ≠ "_" := by simpa using hn
  simp only [Op.eqFields, if_pos hn', Sem.run_bind, ha, hb, he, Result.andThen_ok]
  cases r <;> simp
theorem fields_cons (hn : (f.name == "_") = false) (ha : (part f.type xs f.offset).run P w = .ok a w) (hb : (part f.type ys f.offset).run P w = .ok b w) (he : (Op.equalIn d f.type a b).run P w = .ok r w) (hr : (Op.eqFields d xs ys fs).run P w = .ok s w) : (Op.eqFields d xs ys (f :: fs)).run P w = .ok (r && s) w := by
  have hn' : f.name ≠ "_" := by simpa using hn
  rw [Op.eqFields]
  simp only [if_pos hn', Sem.run_bind, ha, hb, he, Result.andThen_ok]
  cases r
  · simp
  · simpa using hr
theorem struct_of {t : TypeId} {fs : Array Field} (hu : P.underlying t = some (.struct fs)) (hp : P.stoodInHeld t = false) (h : (Op.eqFields d xs ys fs.toList).run P w = .ok r w) : (Op.equalIn (d + 1) t (.agg xs) (.agg ys)).run P w = .ok r w := by
  have hf : P.fieldsOf t = fs := by simp [Program.fieldsOf, hu]
  rw [run_equalIn_struct (P := P) w d t xs ys (by rw [hf]; exact hu) hp, hf]
  exact h
end
theorem eqW71 (d : Nat) (w : World) (x0 x1 x2 y0 y1 y2 : Int) :
    (Op.equalIn (d + 2) 71 (.agg #[.int .i64 x0, .int .i64 x1, .int .i64 x2]) (.agg #[.int .i64 y0, .int .i64 y1, .int .i64 y2])).run Try.prog w = .ok (x0 == y0 && (x1 == y1 && x2 == y2)) w := by
  refine struct_of Try.underlying71 (by kernel_rfl) ?_
  refine fields_cons (by rfl) (by go_simp; rfl) (by go_simp; rfl) (by go_simp) ?_
  refine fields_cons (by rfl) (by go_simp; rfl) (by go_simp; rfl) (by go_simp) ?_
  exact fields_last (by rfl) (by go_simp; rfl) (by go_simp; rfl) (by go_simp)
/-- A part, where it stands. -/
theorem PAt.part {T : Nat → Prop} {w : World} {va : Option Addr} {vec : List Pt} (h : PAt T w va vec) : ∃ g o, (0 < vec.length → va = some ⟨g, o, none⟩ ∧ T g) ∧ ∀ k (hk : k < vec.length), w.cell? ⟨g, o + k * 3, none⟩ = some (.int .i64 vec[k].kind) ∧ w.cell? ⟨g, o + k * 3 + 1, none⟩ = some (.int .i64 vec[k].role) ∧ w.cell? ⟨g, o + k * 3 + 2, none⟩ = some (.int .i64 vec[k].amount) := by
  obtain ⟨g, o, h1, h2⟩ := h
  refine ⟨g, o, h1, fun k hk => ?_⟩
  have key : ∀ r u, r < 3 → (cellsP vec[k])[r]? = some u → w.cell? ⟨g, o + k * 3 + r, none⟩ = some u := fun r u hr hu => by
    rw [Nat.add_assoc]
    exact h2 _ _ ((flatP_get vec k r hk hr).trans hu)
  exact ⟨key 0 _ (by omega) rfl, key 1 _ (by omega) rfl, key 2 _ (by omega) rfl⟩

set_option maxHeartbeats 4000000 in
theorem same_calls (T : Nat → Prop) (va va' : Option Addr) (vc vc' : Nat) (vec : List Pt) (w : World) (hlen : vec.length ≤ 900) (h : PAt T w va vec) (h' : PAt T w va' vec) :
    Calls Try.prog 21 #[.slice va vec.length vc, .slice va' vec.length vc'] w fun e w' => e = .returned (.bool true) ∧ ∃ n, w' = w.drewN n := by
  obtain ⟨g, o, ha, hc⟩ := h.part
  obtain ⟨g', o', ha', hc'⟩ := h'.part
  have HA := Lib.hid ha
  have HC := Lib.hid hc
  have HA' := Lib.hid ha'
  have HC' := Lib.hid hc'
  have HL := Lib.hid hlen
  clear ha hc hlen ha' hc' h h'
  go_enter Try.func21, Try.ntmps21
  go_wp2
  go_loopg [5] vec.length (fun n i wr => ∃ (k q : Nat), k ≤ vec.length ∧ n = vec.length - k ∧ i = .int .i64 k ∧ wr = w.drewN q)
  case atStart => exact ⟨0, 0, by omega, rfl, rfl, (World.drewN_zero w).symm⟩
  case round =>
    obtain ⟨k, q, hk, rfl, rfl, rfl⟩ := hrel
    by_cases hlt : k < vec.length
    · obtain ⟨h1, h2⟩ := HA.out (by omega)
      subst h1
      obtain ⟨h1, h2'⟩ := HA'.out (by omega)
      subst h1
      obtain ⟨c0, c1, c2⟩ := HC.out k hlt
      obtain ⟨d0, d1, d2⟩ := HC'.out k hlt
      have HLT := Lib.hid hlt
      clear h2 h2'
      generalize vec[k] = p at *
      have hz := eqW71
      have hki : (k : Int) < (vec.length : Int) := by omega
      have hk0 : (0 : Int) ≤ (k : Int) := by omega
      have hw : IntKind.i64.wrap ((k : Int) + 1) = (k : Int) + 1 := IntWalk.i64_in _ (by have := HL.out; omega)
      go_wp2_with fail
      go_quiet (fail)
      go_wp2
      go_roundg (vec.length - (k + 1))
      case measure => have := HLT.out; omega
      case rel => exact ⟨k + 1, _, HLT.out, rfl, by go_num, rfl⟩
    · have hki : decide ((k : Int) < (vec.length : Int)) = false := decide_eq_false (by omega)
      go_wp2
      go_ret
      exact ⟨rfl, _, rfl⟩

set_option maxHeartbeats 8000000 in
theorem sameEvents_calls (T : Nat → Prop) (fa fa' : Option Addr) (fc fc' : Nat) (es : List Ev) (w : World) (hlen : es.length ≤ 900) (hvec : ∀ e ∈ es, e.vec.length ≤ 900) (h : ERow T w fa es) (h' : ERow T w fa' es) :
    Calls Try.prog 11 #[.slice fa es.length fc, .slice fa' es.length fc'] w fun e w' => e = .returned (.bool true) ∧ ∃ n, w' = w.drewN n := by
  obtain ⟨g, o, h⟩ := h
  obtain ⟨g', o', h'⟩ := h'
  have HA := Lib.hid h
  have HA' := Lib.hid h'
  have HL := Lib.hid hlen
  have HV := Lib.hid hvec
  clear h h' hlen hvec
  go_enter Try.func11, Try.ntmps11
  go_wp2
  go_loopg [5] es.length (fun n i wr => ∃ (k : Nat), k ≤ es.length ∧ n = es.length - k ∧ i = .int .i64 k ∧ Hid (∃ q, wr = w.drewN q))
  case atStart => exact ⟨0, by omega, rfl, rfl, Lib.hid ⟨0, (World.drewN_zero w).symm⟩⟩
  case round =>
    obtain ⟨k, hk, rfl, rfl, HW⟩ := hrel
    have HHE := Lib.hid (show wr.heap = w.heap from by obtain ⟨q, e⟩ := HW.out; rw [e]; rfl)
    by_cases hlt : k < es.length
    · obtain ⟨h1, h2⟩ := HA.out.lt (by omega)
      subst h1
      obtain ⟨h1, h2'⟩ := HA'.out.lt (by omega)
      subst h1
      obtain ⟨va, vc, he⟩ := (HA.out.keep (w' := wr) (fun i _ => by rw [HHE.out]) (fun i hi => hi)).at' k hlt
      obtain ⟨va', vc', he'⟩ := (HA'.out.keep (w' := wr) (fun i _ => by rw [HHE.out]) (fun i hi => hi)).at' k hlt
      obtain ⟨c0, c1, c2, c3, c4, hp⟩ := he
      obtain ⟨d0, d1, d2, d3, d4, hp'⟩ := he'
      have HS := Lib.hid (fun (n : Nat) => same_calls T va va' vc vc' es[k].vec (wr.drewN n) (HV.out _ (List.getElem_mem hlt)) (hp.keep (fun _ _ => rfl) (fun i hi => hi)) (hp'.keep (fun _ _ => rfl) (fun i hi => hi)))
      have HLT := Lib.hid hlt
      clear h2 h2' hp hp'
      generalize es[k] = ev at *
      have hki : (k : Int) < (es.length : Int) := by omega
      have hk0 : (0 : Int) ≤ (k : Int) := by omega
      have hw : IntKind.i64.wrap ((k : Int) + 1) = (k : Int) + 1 := IntWalk.i64_in _ (by have := HL.out; omega)
      go_wp2_with fail
      go_quiet ((go_at_call 21; exact Calls.quiet_of (HS.out _)))
      go_wp2
      go_roundg (es.length - (k + 1))
      case measure => have := HLT.out; omega
      case rel => exact ⟨k + 1, HLT.out, rfl, by go_num, Lib.hid (by obtain ⟨q, e⟩ := HW.out; exact ⟨q + nq, by rw [e, World.drewN_drewN]⟩)⟩
    · have hki : decide ((k : Int) < (es.length : Int)) = false := decide_eq_false (by omega)
      go_wp2
      go_ret
      exact ⟨rfl, HW.out⟩
end Go.Proofs.Ytchhpgnlfofdcaa.Q
