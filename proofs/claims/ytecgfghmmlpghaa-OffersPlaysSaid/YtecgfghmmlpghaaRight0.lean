/- Walks: slot.Right, quant.Right, vec.of, slot.Cmp. -/
import Derived.Test.YtecgfghmmlpghaaGet
import Derived.Laws.StructEq
set_option linter.unusedVariables false
set_option linter.unusedSimpArgs false
namespace Go.Proofs.Ytecgfghmmlpghaa.O
open Go.RowKit Go.Proofs.Ytecgfghmmlpghaa.Hp Go.Proofs.Ytecgfghmmlpghaa.Mp
set_option maxRecDepth 100000

section
variable {P : Program} {d : Nat} {xs ys : Array Value} {f : Field} {fs : List Field} {a b : Value} {r s : Bool} {w : World}
theorem fields_last (hn : (f.name == "_") = false) (ha : (part f.type xs f.offset).run P w = .ok a w) (hb : (part f.type ys f.offset).run P w = .ok b w) (he : (Op.equalIn d f.type a b).run P w = .ok r w) : (Op.eqFields d xs ys [f]).run P w = .ok r w := by
  have hn' : f.name ≠ "_" := by simpa using hn
  simp only [Op.eqFields, if_pos hn', Sem.run_bind, ha, hb, he, Result.andThen_ok]
  cases r <;> simp
theorem fields_cons (hn : (f.name == "_") = false) (ha : (part f.type xs f.offset).run P w = .ok a w) (hb : (part f.type ys f.offset).run P w = .ok b w) (he : (Op.equalIn d f.type a b).run P w = .ok r w) (hr : (Op.eqFields d xs ys fs).run P w = .ok s w) : (Op.eqFields d xs ys (f :: fs)).run P w = .ok (r && s) w := by
  have hn' : f.name ≠ "_" := by simpa using hn
  rw [Op.eqFields]
  simp only [if_pos hn', Sem.run_bind, ha, hb, he, Result.andThen_ok]
  cases r
  · simp
  · simpa using hr
theorem struct_of {t : TypeId} {fs : Array Field} (hu : P.underlying t = some (.struct fs)) (hp : P.stoodInHeld t = false) (h : (Op.eqFields d xs ys fs.toList).run P w = .ok r w) : (Op.equalIn (d + 1) t (.agg xs) (.agg ys)).run P w = .ok r w := by
  have hf : P.fieldsOf t = fs := by simp [Program.fieldsOf, hu]
  rw [run_equalIn_struct (P := P) w d t xs ys (by rw [hf]; exact hu) hp, hf]
  exact h
end
theorem eqW48 (d : Nat) (w : World) (x0 x1 x2 y0 y1 y2 : Int) :
    (Op.equalIn (d + 2) 48 (.agg #[.int .i64 x0, .int .i64 x1, .int .i64 x2]) (.agg #[.int .i64 y0, .int .i64 y1, .int .i64 y2])).run Try.prog w = .ok (x0 == y0 && (x1 == y1 && x2 == y2)) w := by
  refine struct_of Try.underlying48 (by kernel_rfl) ?_
  refine fields_cons (by rfl) (by go_simp; rfl) (by go_simp; rfl) (by go_simp) ?_
  refine fields_cons (by rfl) (by go_simp; rfl) (by go_simp; rfl) (by go_simp) ?_
  exact fields_last (by rfl) (by go_simp; rfl) (by go_simp; rfl) (by go_simp)
theorem eqW81 (d : Nat) (w : World) (x0 x1 y0 y1 : Int) :
    (Op.equalIn (d + 2) 81 (.agg #[.int .i64 x0, .int .i64 x1]) (.agg #[.int .i64 y0, .int .i64 y1])).run Try.prog w = .ok (x0 == y0 && x1 == y1) w := by
  refine struct_of Try.underlying81 (by kernel_rfl) ?_
  refine fields_cons (by rfl) (by go_simp; rfl) (by go_simp; rfl) (by go_simp) ?_
  exact fields_last (by rfl) (by go_simp; rfl) (by go_simp; rfl) (by go_simp)
/-- A part, where it stands. -/
theorem PAt.part {T : Nat → Prop} {w : World} {va : Option Addr} {vec : List Pt} (h : PAt T w va vec) : ∃ g o, (0 < vec.length → va = some ⟨g, o, none⟩ ∧ T g) ∧ ∀ k (hk : k < vec.length), w.cell? ⟨g, o + k * 3, none⟩ = some (.int .i64 vec[k].kind) ∧ w.cell? ⟨g, o + k * 3 + 1, none⟩ = some (.int .i64 vec[k].role) ∧ w.cell? ⟨g, o + k * 3 + 2, none⟩ = some (.int .i64 vec[k].amount) := by
  obtain ⟨g, o, h1, h2⟩ := h
  refine ⟨g, o, h1, fun k hk => ?_⟩
  have key : ∀ r u, r < 3 → (cellsP vec[k])[r]? = some u → w.cell? ⟨g, o + k * 3 + r, none⟩ = some u := fun r u hr hu => by
    rw [Nat.add_assoc]
    exact h2 _ _ ((flatP_get vec k r hk hr).trans hu)
  exact ⟨key 0 _ (by omega) rfl, key 1 _ (by omega) rfl, key 2 _ (by omega) rfl⟩

/-- May a slot be? -/
def slotB (k r : Int) : Bool := decide (0 ≤ k) && decide (k < 4) && decide (0 ≤ r) && decide (r ≤ 32)
def quantB (n : Int) : Bool := decide (0 ≤ n) && decide (n ≤ 9007199254740992)
/-- How two slots stand. -/
def cmpS (a b : Int × Int) : Int := if a = b then 0 else if a.1 < b.1 ∨ a.1 = b.1 ∧ a.2 < b.2 then -1 else 1
set_option maxHeartbeats 1000000 in
theorem slotRight_calls (k r : Int) (w : World) : Calls Try.prog 37 #[.agg #[.int .i64 k, .int .i64 r]] w fun e w' => e = .returned (.bool (slotB k r)) ∧ Below w.heap.size w w' := by
  have HB := Lib.hid ((Below.refl _ w).alloc (Nat.le_refl _) (.cells #[.int .i64 k, .int .i64 r] 81))
  have HS : Hid (slotB k r = (decide (0 ≤ k) && decide (k < 4) && decide (0 ≤ r) && decide (r ≤ 32))) := Lib.hid rfl
  rcases Bool.eq_false_or_eq_true (decide (0 ≤ k)) with h1 | h1
  · rcases Bool.eq_false_or_eq_true (decide (k < 4)) with h2 | h2
    · rcases Bool.eq_false_or_eq_true (decide (0 ≤ r)) with h3 | h3
      · go_enter Try.func37, Try.ntmps37
        go_wp2
        go_ret
        exact ⟨by rw [HS.out, h1, h2, h3]; rfl, HB.out⟩
      · go_enter Try.func37, Try.ntmps37
        go_wp2
        go_ret
        exact ⟨by rw [HS.out, h1, h2, h3]; rfl, HB.out⟩
    · go_enter Try.func37, Try.ntmps37
      go_wp2
      go_ret
      exact ⟨by rw [HS.out, h1, h2]; rfl, HB.out⟩
  · go_enter Try.func37, Try.ntmps37
    go_wp2
    go_ret
    exact ⟨by rw [HS.out, h1]; rfl, HB.out⟩
set_option maxHeartbeats 1000000 in
theorem quantRight_calls (n : Int) (w : World) : Calls Try.prog 39 #[.int .i64 n] w fun e w' => e = .returned (.bool (quantB n)) ∧ w = w' := by
  have HS : Hid (quantB n = (decide (0 ≤ n) && decide (n ≤ 9007199254740992))) := Lib.hid rfl
  rcases Bool.eq_false_or_eq_true (decide (0 ≤ n)) with h1 | h1
  · go_enter Try.func39, Try.ntmps39
    go_wp2
    go_ret
    exact ⟨by rw [HS.out, h1]; rfl, rfl⟩
  · go_enter Try.func39, Try.ntmps39
    go_wp2
    go_ret
    exact ⟨by rw [HS.out, h1]; rfl, rfl⟩
set_option maxHeartbeats 1000000 in
theorem of_calls (k r n : Int) (w : World) : Calls Try.prog 38 #[.agg #[.int .i64 k, .int .i64 r, .int .i64 n]] w fun e w' => e = .returned (.agg #[.int .i64 k, .int .i64 r]) ∧ Below w.heap.size w w' := by
  go_enter Try.func38, Try.ntmps38
  have h1 := blk_new (w.alloc (.cells #[.int .i64 k, .int .i64 r, .int .i64 n] 48)) (.cells #[.int .i64 k, .int .i64 r] 81)
  rw [show (w.alloc (.cells #[.int .i64 k, .int .i64 r, .int .i64 n] 48)).heap.size = w.heap.size + 1 by simp] at h1
  have c0 := blk_cell h1 0
  have c1 := blk_cell h1 1
  have HB := Lib.hid (((Below.refl _ w).alloc (Nat.le_refl _) (.cells #[.int .i64 k, .int .i64 r, .int .i64 n] 48)).alloc (by simp) (.cells #[.int .i64 k, .int .i64 r] 81))
  clear h1
  go_wp2
  refine bodyPost_ret (v := .agg #[.int .i64 k, .int .i64 r]) (by simp [results, Try.results38, go_sem]) rfl ⟨rfl, HB.out⟩
set_option maxHeartbeats 1000000 in
theorem slotCmp_calls (k r k2 r2 : Int) (w : World) : Calls Try.prog 40 #[.agg #[.int .i64 k, .int .i64 r], .agg #[.int .i64 k2, .int .i64 r2]] w fun e w' => e = .returned (.int .i64 (cmpS (k, r) (k2, r2))) ∧ Below w.heap.size w w' := by
  have HB := Lib.hid (((Below.refl _ w).alloc (Nat.le_refl _) (.cells #[.int .i64 k, .int .i64 r] 81)).alloc (by simp) (.cells #[.int .i64 k2, .int .i64 r2] 81))
  have heq := fun d w => eqW81 d w k r k2 r2
  by_cases h1 : k = k2
  · subst h1
    by_cases h2 : r = r2
    · subst h2
      have HC : Hid (cmpS (k, r) (k, r) = 0) := Lib.hid (by unfold cmpS; rw [if_pos rfl])
      have q1 : (k == k && r == r) = true := by simp
      go_enter Try.func40, Try.ntmps40
      go_wp2
      go_ret
      exact ⟨by rw [HC.out]; rfl, HB.out⟩
    · have q1 : (r == r2) = false := by rw [beq_eq_false_iff_ne]; exact h2
      have hkk : ¬ k < k := by omega
      by_cases h3 : r < r2
      · have HC : Hid (cmpS (k, r) (k, r2) = -1) := Lib.hid (by unfold cmpS; rw [if_neg (by simp; exact h2), if_pos (.inr ⟨rfl, h3⟩)])
        go_enter Try.func40, Try.ntmps40
        go_wp2
        go_ret
        exact ⟨by rw [HC.out]; rfl, HB.out⟩
      · have HC : Hid (cmpS (k, r) (k, r2) = 1) := Lib.hid (by unfold cmpS; rw [if_neg (by simp; exact h2), if_neg (by simp; omega)])
        go_enter Try.func40, Try.ntmps40
        go_wp2
        go_ret
        exact ⟨by rw [HC.out]; rfl, HB.out⟩
  · have q1 : (k == k2) = false := by rw [beq_eq_false_iff_ne]; exact h1
    by_cases h3 : k < k2
    · have HC : Hid (cmpS (k, r) (k2, r2) = -1) := Lib.hid (by unfold cmpS; rw [if_neg (by simp; intro h; exact absurd h h1), if_pos (.inl h3)])
      go_enter Try.func40, Try.ntmps40
      go_wp2
      go_ret
      exact ⟨by rw [HC.out]; rfl, HB.out⟩
    · have HC : Hid (cmpS (k, r) (k2, r2) = 1) := Lib.hid (by unfold cmpS; rw [if_neg (by simp; intro h; exact absurd h h1), if_neg (by simp; omega)])
      go_enter Try.func40, Try.ntmps40
      go_wp2
      go_ret
      exact ⟨by rw [HC.out]; rfl, HB.out⟩
end Go.Proofs.Ytecgfghmmlpghaa.O
