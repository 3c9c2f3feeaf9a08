/- Walks: the two small functions that turn a framework. -/
import Derived.Test.YtdckcbahfdcafaaEq
set_option linter.unusedVariables false
set_option linter.unusedSimpArgs false
namespace Go.Proofs.Ytdckcbahfdcafaa.F
open Go.RowKit Go.Proofs.Ytdckcbahfdcafaa.Hp Go.Proofs.Ytdckcbahfdcafaa.Mp
set_option maxRecDepth 100000

def cellsF (f : Fr) : Array Value := #[.int .i64 f.id, .int .i64 f.role, .int .i64 f.weight, .bool f.up, .bool f.quiet, .int .i64 f.time, .int .i64 f.till]

set_option maxHeartbeats 400000 in
theorem quiet_in (g q : Nat) (f : Fr) (on : Bool) (w : World) (hg : w.heap[g]? = some (.cells (cellsF f) 30 (0, 0))) (hq : w.heap[q]? = some (.cells #[.bool on] 4 (0, 0))) :
    Calls Try.prog 35 #[.pointer (some ⟨g, 0, none⟩), .pointer (some ⟨q, 0, none⟩)] w fun e w' => e = .returned (.int .i64 0) ∧ w'.heap[g]? = some (.cells (cellsF { f with quiet := on }) 30 (0, 0)) ∧ Chg (fun i => i = g) w w' := by
  have h1 := (blk_cell hq 0)
  have h2 := blk_frozen hg 4
  have h3 := (blk_cell hg 4)
  simp at h1
  simp [cellsF] at h3
  have HG := Lib.hid hg
  clear hg hq
  go_enter Try.func35, Try.ntmps35
  go_wp2
  go_ret
  refine ⟨rfl, ?_, (Chg.refl (fun i => i = g) w).setCell (p := ⟨g, 4, none⟩) (.inl rfl) _⟩
  rw [blk_set HG.out]
  rfl

set_option maxHeartbeats 400000 in
theorem away_gone (g q : Nat) (f : Fr) (now : Int) (w : World) (hg : w.heap[g]? = some (.cells (cellsF f) 30 (0, 0))) (hup : f.up = false) :
    Calls Try.prog 28 #[.pointer (some ⟨g, 0, none⟩), .pointer (some ⟨q, 0, none⟩)] w fun e w' => e = .returned (.int .i64 23) ∧ w = w' := by
  have h3 := (blk_cell hg 3)
  simp [cellsF, hup] at h3
  clear hg hup
  go_enter Try.func28, Try.ntmps28
  go_wp2
  go_ret
  exact ⟨rfl, rfl⟩

set_option maxHeartbeats 400000 in
theorem away_bad (g q : Nat) (f : Fr) (now : Int) (w : World) (hg : w.heap[g]? = some (.cells (cellsF f) 30 (0, 0))) (hq : w.heap[q]? = some (.cells #[.int .i64 now] 2 (0, 0))) (hup : f.up = true) (hn : now < 0 ∨ 9007199254740992 < now) :
    Calls Try.prog 28 #[.pointer (some ⟨g, 0, none⟩), .pointer (some ⟨q, 0, none⟩)] w fun e w' => e = .returned (.int .i64 41) ∧ w = w' := by
  have h3 := (blk_cell hg 3)
  simp [cellsF, hup] at h3
  have h1 := (blk_cell hq 0)
  simp at h1
  clear hg hup hq
  rcases hn with hn | hn
  · go_enter Try.func28, Try.ntmps28
    go_wp2
    go_ret
    exact ⟨rfl, rfl⟩
  · have hn' : ¬ now < 0 := by omega
    go_enter Try.func28, Try.ntmps28
    go_wp2
    go_ret
    exact ⟨rfl, rfl⟩

set_option maxHeartbeats 1000000 in
theorem away_ok (g q : Nat) (f : Fr) (now : Int) (w : World) (hg : w.heap[g]? = some (.cells (cellsF f) 30 (0, 0))) (hq : w.heap[q]? = some (.cells #[.int .i64 now] 2 (0, 0))) (hup : f.up = true) (hn : 0 ≤ now ∧ now ≤ 9007199254740992) (ht : 0 ≤ f.time ∧ f.time ≤ 9007199254740992) :
    Calls Try.prog 28 #[.pointer (some ⟨g, 0, none⟩), .pointer (some ⟨q, 0, none⟩)] w fun e w' => e = .returned (.int .i64 0) ∧ w'.heap[g]? = some (.cells (cellsF { f with up := false, till := now + f.time }) 30 (0, 0)) ∧ Chg (fun i => i = g) w w' := by
  obtain ⟨fid, frole, fw, fu, fq, ft, fl⟩ := f
  simp only at hup ht
  subst hup
  have h3 := (blk_cell hg 3)
  have h5 := (blk_cell hg 5)
  have h6 := (blk_cell hg 6)
  simp [cellsF] at h3 h5 h6
  have h1 := (blk_cell hq 0)
  simp at h1
  have h7 := blk_frozen hg 3
  have h8 := blk_frozen hg 6
  have hne : g ≠ q := by
    rintro rfl
    rw [hg] at hq
    simp [cellsF] at hq
  have HG := Lib.hid hg
  clear hg hq
  obtain ⟨hn1, hn2⟩ := hn
  obtain ⟨ht1, ht2⟩ := ht
  go_enter Try.func28, Try.ntmps28
  go_wp2
  go_region
  go_wp2
  go_ret
  refine ⟨rfl, ?_, (((Chg.refl (fun i => i = g) w).setCell (p := ⟨g, 3, none⟩) (.inl rfl) _).setCell (p := ⟨g, 6, none⟩) (.inl rfl) _).drew⟩
  have e1 := blk_set HG.out 3 (.bool false)
  have e2 := blk_set e1 6 (.int .i64 (now + ft))
  exact e2

/-- The small function of Disconnect, as one: what it answers, and what the framework is behind it. -/
def awayF (f : Fr) (now : Int) : Int × Fr := if f.up = false then (23, f) else if now < 0 ∨ 9007199254740992 < now then (41, f) else (0, { f with up := false, till := now + f.time })
theorem away_in (g q : Nat) (f : Fr) (now : Int) (w : World) (hg : w.heap[g]? = some (.cells (cellsF f) 30 (0, 0))) (hq : w.heap[q]? = some (.cells #[.int .i64 now] 2 (0, 0))) (ht : 0 ≤ f.time ∧ f.time ≤ 9007199254740992) :
    Calls Try.prog 28 #[.pointer (some ⟨g, 0, none⟩), .pointer (some ⟨q, 0, none⟩)] w fun e w' => e = .returned (.int .i64 (awayF f now).1) ∧ w'.heap[g]? = some (.cells (cellsF (awayF f now).2) 30 (0, 0)) ∧ Chg (fun i => i = g) w w' := by
  unfold awayF
  cases hup : f.up with
  | false =>
    rw [if_pos rfl]
    exact (away_gone g q f now w hg hup).mono fun e w' ⟨h1, h2⟩ => by subst h2; exact ⟨h1, hg, Chg.refl _ _⟩
  | true =>
    rw [if_neg (by simp)]
    by_cases hn : now < 0 ∨ 9007199254740992 < now
    · rw [if_pos hn]
      exact (away_bad g q f now w hg hq hup hn).mono fun e w' ⟨h1, h2⟩ => by subst h2; exact ⟨h1, hg, Chg.refl _ _⟩
    · rw [if_neg hn]
      exact away_ok g q f now w hg hq hup (by omega) ht
end Go.Proofs.Ytdckcbahfdcafaa.F
