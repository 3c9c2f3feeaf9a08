/- Walks: drop, in a map of maps. -/
import Derived.Test.YtecgfghmmlpghaaSets
set_option linter.unusedVariables false
set_option linter.unusedSimpArgs false
namespace Go.Proofs.Ytecgfghmmlpghaa.O
open Go.RowKit Go.Proofs.Ytecgfghmmlpghaa.Hp Go.Proofs.Ytecgfghmmlpghaa.Mp
set_option maxRecDepth 100000

theorem run_len71 {w : World} {m : Nat} {l : List (Int × Unit)} (h : IsMap encU w m l) (ty : TypeId) : (Builtin.len_ #[71] ty #[.map (some m)]).run Try.prog w = .ok (.int .i64 l.length) w := by
  obtain ⟨es, clk, hb, hr, _⟩ := h
  rw [← hr.length]
  simp [Builtin.len_, run_underlying Try.underlying71, run_getMap (P := Try.prog) hb, Sem.run_bind, Sem.run_pure, Result.andThen]
  rfl
theorem run_clear71 {w : World} {m : Nat} {l : List (Int × Unit)} (h : IsMap encU w m l) (ty : TypeId) : ∃ o, (Builtin.clear_ #[71] ty #[.map (some m)]).run Try.prog w = .ok (.tuple #[]) (setB w m o) ∧ IsMap encU (setB w m o) m [] := by
  obtain ⟨es, clk, hb, hr, _⟩ := h
  refine ⟨.map #[] clk, ?_, #[], clk, blk_setB _ hb, rfl, ⟨by simp, by simp⟩⟩
  simp [Builtin.clear_, run_underlying Try.underlying71, run_getMap (P := Try.prog) hb, run_setMap (P := Try.prog) hb, Sem.run_bind, Sem.run_pure, Result.andThen]
theorem del44 {w : World} {m : Nat} {l : List (Int × Nat)} (h : IsMap encS w m l) (k : Int) (ty : TypeId) : ∃ o, (Builtin.delete_ #[44, 2] ty #[.map (some m), .int .i64 k]).run Try.prog w = .ok (.tuple #[]) (setB w m o) ∧ IsMap encS (setB w m o) m (mdel l k) := run_remove (P := Try.prog) (enc := encS) Try.underlying44 Try.underlying2 h k 2 ty
theorem del71 {w : World} {m : Nat} {l : List (Int × Unit)} (h : IsMap encU w m l) (k : Int) (ty : TypeId) : ∃ o, (Builtin.delete_ #[71, 2] ty #[.map (some m), .int .i64 k]).run Try.prog w = .ok (.tuple #[]) (setB w m o) ∧ IsMap encU (setB w m o) m (mdel l k) := run_remove (P := Try.prog) (enc := encU) Try.underlying71 Try.underlying2 h k 2 ty
set_option maxHeartbeats 1000000 in
theorem drop_last (m : Nat) (l : List (Int × Nat)) (ids : Int → List Int) (whose id : Int) (w : World) (h : Sets w m l ids) (hid : ids whose = [id]) (r : Nat) (hr : mget l whose = some r) :
    Calls Try.prog 24 #[.map (some m), .int .i64 whose, .int .i64 id] w (PutS m l (fun k => if k = whose then (ids whose).erase id else ids k) w) := by
  have h1 := look44 h.map whose
  rw [hr] at h1
  have hg := (h.get whose r hr).1
  have hl : ∀ ty, (Builtin.len_ #[71] ty #[.map (some r)]).run Try.prog w = .ok (.int .i64 1) w := fun ty => by have := run_len71 hg ty; rw [hid] at this; exact this
  obtain ⟨o, h2, _⟩ := run_clear71 hg 0
  have hne := h.ne whose r hr
  obtain ⟨o2, h4, h5⟩ := del44 (IsMap.heap (w' := setB w r o) h.map (setB_far (Ne.symm hne))) whose 0
  have HS := Lib.hid h
  have HR := Lib.hid hr
  have H5 := Lib.hid h5
  have HID := Lib.hid hid
  have HNE := Lib.hid hne
  clear h hr h5 hid hg hne
  go_enter Try.func24, Try.ntmps24
  go_wp2
  go_end0
  have hne := HNE.out
  refine ⟨rfl, mdel l whose, ⟨H5.out, nodup_mdel HS.out.nd _, fun k r2 h2 => ?_, fun k hk => ?_, fun k1 k2 r2 e1 e2 => ?_, fun k r2 h2 => ?_⟩, fun i hi => ?_, ?_⟩
  · rw [mget_mdel HS.out.nd] at h2
    split at h2
    · cases h2
    · rename_i hk
      simp only [if_neg (Ne.symm hk)]
      have hr2 : r2 ≠ r := fun e => hk (HS.out.inj whose k r2 (e ▸ HR.out) h2)
      exact ⟨IsMap.heap (HS.out.get k r2 h2).1 ((setB_far (HS.out.ne k r2 h2)).trans (setB_far hr2)), (HS.out.get k r2 h2).2⟩
  · rw [mget_mdel HS.out.nd] at hk
    by_cases e : k = whose
    · simp only [if_pos e, HID.out]; simp
    · simp only [if_neg e]
      rw [if_neg (Ne.symm e)] at hk
      exact HS.out.gone k hk
  · rw [mget_mdel HS.out.nd] at e1 e2
    split at e1
    · cases e1
    · split at e2
      · cases e2
      · exact HS.out.inj k1 k2 r2 e1 e2
  · rw [mget_mdel HS.out.nd] at h2
    split at h2
    · cases h2
    · exact HS.out.ne k r2 h2
  · rcases hi with rfl | ⟨k, hk⟩
    · exact .inl (.inl rfl)
    · rw [mget_mdel HS.out.nd] at hk
      split at hk
      · cases hk
      · exact .inl (.inr ⟨k, hk⟩)
  · exact ((Chg.refl (OwnS m l) w).setB (.inl (.inr ⟨whose, HR.out⟩)) _).setB (.inl (.inl rfl)) _
set_option maxHeartbeats 1000000 in
theorem drop_more (m : Nat) (l : List (Int × Nat)) (ids : Int → List Int) (whose id : Int) (w : World) (h : Sets w m l ids) (hid : id ∈ ids whose) (hnl : (ids whose).length ≠ 1) (r : Nat) (hr : mget l whose = some r) :
    Calls Try.prog 24 #[.map (some m), .int .i64 whose, .int .i64 id] w (PutS m l (fun k => if k = whose then (ids whose).erase id else ids k) w) := by
  have h1 := look44 h.map whose
  rw [hr] at h1
  have hg := (h.get whose r hr).1
  have hl : ∀ ty, (Builtin.len_ #[71] ty #[.map (some r)]).run Try.prog w = .ok (.int .i64 (ids whose).length) w := fun ty => by have := run_len71 hg ty; rw [keysU, List.length_map] at this; exact this
  obtain ⟨o, h2, h3⟩ := del71 hg id 0
  rw [mdel_keysU] at h3
  have hn1 : (((ids whose).length : Int) == 1) = false := by rw [beq_eq_false_iff_ne]; omega
  have hne2 : (ids whose).erase id ≠ [] := fun e => by
    have h5 := List.length_erase_of_mem hid
    rw [e] at h5
    have : 0 < (ids whose).length := List.length_pos_of_mem hid
    simp at h5
    omega
  have HS := Lib.hid h
  have HR := Lib.hid hr
  have H3 := Lib.hid h3
  have HN := Lib.hid hne2
  clear h hr h3 hid hg hnl hne2
  generalize ((ids whose).length : Int) = nn at *
  go_enter Try.func24, Try.ntmps24
  go_wp2
  go_end0
  have hne := HS.out.ne whose r HR.out
  refine ⟨rfl, l, ⟨IsMap.heap HS.out.map (setB_far (Ne.symm hne)), HS.out.nd, fun k r2 h2 => ?_, fun k hk => ?_, HS.out.inj, HS.out.ne⟩, fun i hi => .inl hi, (Chg.refl (OwnS m l) w).setB (.inl (.inr ⟨whose, HR.out⟩)) _⟩
  · by_cases hk : k = whose
    · subst hk
      have : r2 = r := Option.some.inj (h2.symm.trans HR.out)
      subst this
      simp only [if_pos]
      exact ⟨H3.out, HN.out⟩
    · simp only [if_neg hk]
      exact ⟨IsMap.heap (HS.out.get k r2 h2).1 (setB_far (fun e => hk (HS.out.inj k whose r (e ▸ h2) HR.out))), (HS.out.get k r2 h2).2⟩
  · have : k ≠ whose := fun e => by rw [e, HR.out] at hk; cases hk
    simp only [if_neg this]
    exact HS.out.gone k hk
theorem drop_calls (m : Nat) (l : List (Int × Nat)) (ids : Int → List Int) (whose id : Int) (w : World) (h : Sets w m l ids) (hid : id ∈ ids whose) :
    Calls Try.prog 24 #[.map (some m), .int .i64 whose, .int .i64 id] w (PutS m l (fun k => if k = whose then (ids whose).erase id else ids k) w) := by
  cases hr : mget l whose with
  | none => rw [h.gone whose hr] at hid; simp at hid
  | some r =>
    by_cases h1 : (ids whose).length = 1
    · obtain ⟨x, hx⟩ := List.length_eq_one_iff.1 h1
      rw [hx] at hid
      obtain rfl : id = x := by simpa using hid
      exact drop_last m l ids whose id w h hx r hr
    · exact drop_more m l ids whose id w h hid h1 r hr
end Go.Proofs.Ytecgfghmmlpghaa.O
