/- Of: those of a role. Its closure; the library's IndexFunc and DeleteFunc at it. -/
import Derived.Test.YtdckcbahfdcafaaRoles
import Derived.BigQuiet
set_option linter.unusedVariables false
set_option linter.unusedSimpArgs false
namespace Go.Proofs.Ytdckcbahfdcafaa.F
open Go.RowKit Go.Sort Go.Proofs.Ytdckcbahfdcafaa.Hp Go.Proofs.Ytdckcbahfdcafaa.Mp
set_option maxRecDepth 100000

theorem look57a {m : Nat} {l : List (Int × Fr)} {W : World} (h : IsMap encF W m l) (id : Int) : (Instr.lookup 57 (.map (some m)) (.int .i64 id) false).run Try.prog W = .ok (encF (got l id)) W := by
  obtain ⟨es, clk, hes, hrep, _⟩ := h
  rw [run_look1 (P := Try.prog) Try.underlying57 Try.underlying2 (encF Fr.zero) zero30 hes hrep id]
  unfold got
  cases mget l id <;> rfl
theorem field30_1 (f : Fr) (w : World) : (Instr.field 30 (.agg #[.int .i64 f.id, .int .i64 f.role, .int .i64 f.weight, .bool f.up, .bool f.quiet, .int .i64 f.time, .int .i64 f.till]) 1).run Try.prog w = .ok (.int .i64 f.role) w := by kernel_rfl
set_option maxHeartbeats 1000000 in
theorem of1_calls {b m g1 g2 : Nat} {cap : Int} {l : List (Int × Fr)} {R : List (Int × Int)} (number x : Int) (W : World) (h : Tab W b m cap l R) (h1 : W.cell? ⟨g1, 0, none⟩ = some (.pointer (some ⟨b, 0, none⟩))) (h2 : W.cell? ⟨g2, 0, none⟩ = some (.int .i64 number)) :
    Calls Try.prog 34 #[.int .i64 x, .pointer (some ⟨g1, 0, none⟩), .pointer (some ⟨g2, 0, none⟩)] W fun e w' => e = .returned (.bool ((got l x).role != number)) ∧ ∃ q, w' = W.drewN q := by
  have hr := fun n => look57a (h.drewN n).map x
  have h3 := h.cell1
  have hf := fun n => field30_1 (got l x) (W.drewN n)
  clear h
  generalize got l x = f at *
  obtain ⟨fid, frole, fw, fu, fq, ft, fl⟩ := f
  simp only [encF_agg] at hr hf
  go_enter Try.func34, Try.ntmps34
  go_wp2_with fail
  go_quiet (fail)
  go_wp2
  go_ret
  exact ⟨rfl, _, rfl⟩
end Go.Proofs.Ytdckcbahfdcafaa.F
