/- Two frameworks held against each other. -/
import Derived.Test.YtdckcbahfdcafaaWalk3
import Derived.Laws.StructEq
set_option linter.unusedVariables false
set_option linter.unusedSimpArgs false
namespace Go.Proofs.Ytdckcbahfdcafaa.F
open Go.RowKit Go.Proofs.Ytdckcbahfdcafaa.Hp Go.Proofs.Ytdckcbahfdcafaa.Mp
set_option maxRecDepth 100000
section
variable {P : Program} {d : Nat} {xs ys : Array Value} {f : Field} {fs : List Field} {a b : Value} {r s : Bool} {w : World}
theorem fields_last (hn : (f.name == "_") = false) (ha : (part f.type xs f.offset).run P w = .ok a w) (hb : (part f.type ys f.offset).run P w = .ok b w) (he : (Op.equalIn d f.type a b).run P w = .ok r w) : (Op.eqFields d xs ys [f]).run P w = .ok r w := by
  have hn' : f.name ≠ "_" := by simpa using hn
  simp only [Op.eqFields, if_pos hn', Sem.run_bind, ha, hb, he, Result.andThen_ok]
  cases r <;> simp
theorem fields_cons (hn : (f.name == "_") = false) (ha : (part f.type xs f.offset).run P w = .ok a w) (hb : (part f.type ys f.offset).run P w = .ok b w) (he : (Op.equalIn d f.type a b).run P w = .ok r w) (hr : (Op.eqFields d xs ys fs).run P w = .ok s w) : (Op.eqFields d xs ys (f :: fs)).run P w = .ok (r && s) w := by
  have hn' : f.name ≠ "_" := by simpa using hn
  rw [Op.eqFields]
  simp only [if_pos hn', Sem.run_bind, ha, hb, he, Result.andThen_ok]
  cases r
  · simp
  · simpa using hr
theorem struct_of {t : TypeId} {fs : Array Field} (hu : P.underlying t = some (.struct fs)) (hp : P.stoodInHeld t = false) (h : (Op.eqFields d xs ys fs.toList).run P w = .ok r w) : (Op.equalIn (d + 1) t (.agg xs) (.agg ys)).run P w = .ok r w := by
  have hf : P.fieldsOf t = fs := by simp [Program.fieldsOf, hu]
  rw [run_equalIn_struct (P := P) w d t xs ys (by rw [hf]; exact hu) hp, hf]
  exact h
end
def frEq (f g : Fr) : Bool := f.id == g.id && (f.role == g.role && (f.weight == g.weight && (f.up == g.up && (f.quiet == g.quiet && (f.time == g.time && f.till == g.till)))))
theorem frEq_iff {f g : Fr} : frEq f g = true ↔ f = g := by
  obtain ⟨f1, f2, f3, f4, f5, f6, f7⟩ := f
  obtain ⟨g1, g2, g3, g4, g5, g6, g7⟩ := g
  simp [frEq]
theorem frEq_self (f : Fr) : frEq f f = true := frEq_iff.2 rfl
theorem frEq_false {f g : Fr} (h : f ≠ g) : frEq f g = false := by
  rw [Bool.eq_false_iff]; exact fun e => h (frEq_iff.1 e)
theorem eqA30 (d : Nat) (f g : Fr) (w : World) : (Op.equalIn (d + 2) 30 (encF f) (encF g)).run Try.prog w = .ok (frEq f g) w := by
  unfold encF
  refine struct_of Try.underlying30 (by kernel_rfl) ?_
  unfold frEq
  refine fields_cons (by rfl) (by go_simp; rfl) (by go_simp; rfl) (by go_simp) ?_
  refine fields_cons (by rfl) (by go_simp; rfl) (by go_simp; rfl) (by go_simp) ?_
  refine fields_cons (by rfl) (by go_simp; rfl) (by go_simp; rfl) (by go_simp) ?_
  refine fields_cons (by rfl) (by go_simp; rfl) (by go_simp; rfl) (by go_simp) ?_
  refine fields_cons (by rfl) (by go_simp; rfl) (by go_simp; rfl) (by go_simp) ?_
  refine fields_cons (by rfl) (by go_simp; rfl) (by go_simp; rfl) (by go_simp) ?_
  exact fields_last (by rfl) (by go_simp; rfl) (by go_simp; rfl) (by go_simp)
theorem neq30 (f g : Fr) (w : World) : (binOp .neq 30 (encF f) (encF g)).run Try.prog w = .ok (.bool (!frEq f g)) w := by
  have e := eqA30 9998 f g w
  unfold encF at e ⊢
  simp only [binOp]
  simp [Op.equal, Op.maxDepth, e]
theorem eql30 (f g : Fr) (w : World) : (binOp .eql 30 (encF f) (encF g)).run Try.prog w = .ok (.bool (frEq f g)) w := by
  have e := eqA30 9998 f g w
  unfold encF at e ⊢
  simp only [binOp]
  simp [Op.equal, Op.maxDepth, e]

/-- The same over cells written out: for the walks. -/
theorem eqW30 (d : Nat) (w : World) (x0 x1 x2 : Int) (x3 x4 : Bool) (x5 x6 : Int) (y0 y1 y2 : Int) (y3 y4 : Bool) (y5 y6 : Int) :
    (Op.equalIn (d + 2) 30 (.agg #[.int .i64 x0, .int .i64 x1, .int .i64 x2, .bool x3, .bool x4, .int .i64 x5, .int .i64 x6]) (.agg #[.int .i64 y0, .int .i64 y1, .int .i64 y2, .bool y3, .bool y4, .int .i64 y5, .int .i64 y6])).run Try.prog w =
      .ok (frEq ⟨x0, x1, x2, x3, x4, x5, x6⟩ ⟨y0, y1, y2, y3, y4, y5, y6⟩) w := eqA30 d ⟨x0, x1, x2, x3, x4, x5, x6⟩ ⟨y0, y1, y2, y3, y4, y5, y6⟩ w
/-- Written out, as the walk leaves it. -/
abbrev outF (f : Fr) : Fr := ⟨f.id, f.role, f.weight, f.up, f.quiet, f.time, f.till⟩
end Go.Proofs.Ytdckcbahfdcafaa.F
