/- Roles: which roles there are. -/
import Derived.Test.YtdckcbahfdcafaaSorted
set_option linter.unusedVariables false
set_option linter.unusedSimpArgs false
namespace Go.Proofs.Ytdckcbahfdcafaa.F
open Go.RowKit Go.Sort Go.Proofs.Ytdckcbahfdcafaa.Hp Go.Proofs.Ytdckcbahfdcafaa.Mp
set_option maxRecDepth 100000

theorem info3 : (Try.prog.info? 3).map (fun i => (i.zero, i.size, i.bytes)) = some (some (.int .i64 0), 1, 8) := by kernel_rfl
/-- The roles up to n that somebody has. -/
def rolesF (R : List (Int × Int)) : Nat → List Int
  | 0 => []
  | n + 1 => rolesF R n ++ (if 0 < (R[n + 1]?.getD (0, 0)).1 then [((n + 1 : Nat) : Int)] else [])
theorem rolesF_length (R : List (Int × Int)) : ∀ n, (rolesF R n).length ≤ n
  | 0 => Nat.le_refl _
  | n + 1 => by
    have := rolesF_length R n
    simp only [rolesF, List.length_append]
    split <;> simp <;> omega

set_option maxHeartbeats 4000000 in
theorem roles_calls {b m : Nat} {cap : Int} {l : List (Int × Fr)} {R : List (Int × Int)} (w : World) (h : Tab w b m cap l R) :
    Calls Try.prog 16 #[.pointer (some ⟨b, 0, none⟩)] w fun e w' => ∃ (v : Value), e = .returned v ∧ w'.ownsRow w.heap.size 3 1 v (rolesF R 32).length ((rolesF R 32).map (Value.int .i64)) ∧ Below w.heap.size w w' := by
  obtain ⟨i0, hi, hz0, hz1, hz2⟩ := info_parts info3
  have HT := Lib.hid h
  have HB := Lib.hid h.lt_b
  have HM := Lib.hid h.lt_m
  clear h
  go_enter Try.func16, Try.ntmps16
  go_wp2
  go_loopg [3, 4] 33 (fun g v x wr => ∃ (n : Nat), n ≤ 32 ∧ g = 33 - n ∧ x = .int .i64 ((n : Int) + 1) ∧ Hid (wr.ownsRow w.heap.size 3 1 v (rolesF R n).length ((rolesF R n).map (Value.int .i64))) ∧ Hid (Below w.heap.size w wr))
  case atStart => exact ⟨0, by omega, rfl, rfl, Lib.hid ⟨by simp [rolesF], .inl ⟨rfl, rfl⟩⟩, Lib.hid (Below.refl _ _)⟩
  case round =>
    obtain ⟨n, hn, rfl, rfl, hO, hB⟩ := hrel
    have HTr := Lib.hid (HT.out.below hB.out)
    by_cases hlt : n < 32
    · have d1 : decide ((n : Int) + 1 ≤ 32) = true := decide_eq_true (by omega)
      have hi1 : (0 : Int) ≤ (n : Int) + 1 := by omega
      have hi2 : (n : Int) + 1 < 33 := by omega
      have hi3 : ((n : Int) + 1).toNat = n + 1 := by omega
      have hw : IntKind.i64.wrap ((n : Int) + 1 + 1) = (n : Int) + 1 + 1 := IntWalk.i64_in _ (by omega)
      have hltR : n + 1 < R.length := by rw [HT.out.len]; omega
      have hR := List.getElem?_eq_getElem hltR
      rcases hp : R[n + 1] with ⟨mr, wr'⟩
      rw [hp] at hR
      have hm := HTr.out.many' hR
      have hF : rolesF R (n + 1) = rolesF R n ++ (if 0 < mr then [((n + 1 : Nat) : Int)] else []) := by simp only [rolesF, hR, Option.getD_some]
      have HF := Lib.hid hF
      have HN := Lib.hid hlt
      clear hF hR hp hltR hlt
      by_cases hmr : 0 < mr
      · have q : decide (0 < mr) = true := decide_eq_true hmr
        have HLn := Lib.hid (rolesF_length R n)
        have HMR := Lib.hid hmr
        clear hmr
        go_wp2_with (first
          | (go_at_call 26; refine (made_yes _ HTr.out).mono ?_; rintro e w' ⟨rfl, rfl⟩)
          | (at_builtin; refine wpList_append_own _ rfl _ _ 48 rfl w.heap.size 3 i0 (.int .i64 0) 1 8 Try.underlying48 hi hz0 hz1 hz2 rfl (by decide) _ _ _ rfl (hO.out.alloc _) ⟨wr.heap.size, 0, none⟩ 1 1 [.int .i64 ((n : Int) + 1)] rfl rfl (cell_one_new _ _ _) (ints_oneCell .i64 [(n : Int) + 1]) (by have := HLn.out; unfold maxLen; omega) (by have := HLn.out; omega) (by have := hB.out.size; simp; omega) ?_; intro v' w3 hown' hg3 hnil3))
        go_roundg (33 - (n + 1))
        case measure => have := HN.out; omega
        case rel =>
          refine ⟨n + 1, HN.out, rfl, by simp, Lib.hid ?_, Lib.hid ?_⟩
          · rw [HF.out, if_pos HMR.out]
            simpa using hown'
          · exact (hB.out.alloc hB.out.size _).grown hg3 (by have := hB.out.size; simp; omega) (fun j hj => row_own hO.out hj.symm)
      · have q : decide (0 < mr) = false := decide_eq_false hmr
        have HMR := Lib.hid hmr
        clear hmr
        go_wp2_with (go_at_call 26; refine (made_yes _ HTr.out).mono ?_; rintro e w' ⟨rfl, rfl⟩)
        go_roundg (33 - (n + 1))
        case measure => have := HN.out; omega
        case rel =>
          refine ⟨n + 1, HN.out, rfl, by simp, Lib.hid ?_, hB⟩
          rw [HF.out, if_neg (by have := HMR.out; omega), List.append_nil]
          exact hO.out
    · obtain rfl : n = 32 := by omega
      go_wp2
      go_ret
      exact ⟨_, rfl, hO.out, hB.out⟩
end Go.Proofs.Ytdckcbahfdcafaa.F
