/- The reference's Do: removal, walked. -/
import Derived.Test.YtdckcbahfdcafaaRef12
import Derived.Deep.RegionLaw
set_option linter.unusedVariables false
set_option linter.unusedSimpArgs false
namespace Go.Proofs.Ytdckcbahfdcafaa.F
open Go.RowKit Go.Sort Go.Proofs.Ytdckcbahfdcafaa.Hp Go.Proofs.Ytdckcbahfdcafaa.Mp
set_option maxRecDepth 100000
attribute [local go_sem ↓] Go.wp_at_zero Go.wp_at_succ

set_option maxHeartbeats 4000000 in
theorem rdo_rem (cap : Int) (fa : Option Addr) (g fc : Nat) (fs : List Fr) (a : A) (w : World) (hr : RowAt w fa g fs) (hlen : fs.length ≤ 900) (hkind : a.kind = 2) (i : Int) (he : atF fs a.id = i) (hi1 : -1 ≤ i) (hi2 : i < fs.length) :
    Calls Try.prog 12 #[.agg #[.int .i64 cap, .slice fa fs.length fc], encA a] w (RAns cap w (.slice fa fs.length fc) fs ((decide (0 ≤ i), 0), offF fs i fs.length)) := by
  obtain ⟨i0, hi, hz0, hz1, hz2⟩ := info_parts info30
  have HR := Lib.hid hr
  have HS := Lib.hid (SSt.start w cap (.slice fa fs.length fc) a)
  have HL := Lib.hid hlen
  have HI := Lib.hid (And.intro hi1 hi2)
  have hR0 := hr.below HS.out.chg (Nat.le_refl _)
  have K1 := at_calls cap a.id fa g fc fs _ hlen hR0.lt hR0.at'
  rw [he] at K1
  have K1' := Lib.hid K1
  clear K1
  obtain ⟨ak, ai, ar, aw, at'⟩ := a
  simp only at HS K1' hkind
  subst hkind
  unfold encA
  simp only
  clear hr hlen hR0 he hi1 hi2
  go_enter Try.func12, Try.ntmps12
  go_wp2_with fail
  refine K1'.out.mono ?_
  rintro e w1 ⟨rfl, hb1⟩
  have HS1 := Lib.hid (HS.out.below hb1 HS.out.lt)
  clear K1' HS hb1
  obtain ⟨⟨b0, b1⟩, ⟨a0, a1, a2, a3, a4⟩, r0, r1, r2, r3⟩ := HS1.out.facts
  have HO : Hid (OSt w (w1.alloc (.cells #[.int .i64 cap, .slice none 0 0] 41)) w.heap.size cap (.slice fa fs.length fc) ⟨2, ai, ar, aw, at'⟩ w1.heap.size (offF fs i 0) (.slice none 0 0)) :=
    Lib.hid ⟨HS1.out.alloc _, HS1.out.lt, blk_new _ _, by simp [offF, flatF], .inl ⟨rfl, by simp [offF]⟩⟩
  have HLB := Lib.hid HS1.out.lt
  go_wp2_with fail
  clear b0 b1 a0 a1 a2 a3 a4 r0 r1 r2 r3 HS1
  go_loopg [9] fs.length (fun n x wr => ∃ (k : Nat) (v : Value), k ≤ fs.length ∧ n = fs.length - k ∧ x = .int .i64 k ∧ Hid (OSt w wr w.heap.size cap (.slice fa fs.length fc) ⟨2, ai, ar, aw, at'⟩ w1.heap.size (offF fs i k) v))
  case atStart => exact ⟨0, _, by omega, rfl, rfl, HO⟩
  case round =>
    obtain ⟨k, v, hk, rfl, rfl, H⟩ := hrel
    clear HO
    obtain ⟨⟨b0, b1⟩, _, r0, r1, r2, r3⟩ := H.out.st.facts
    by_cases hlt : k < fs.length
    · obtain ⟨h1, h2⟩ := HR.out.lt (by omega)
      subst h1
      have HX := Lib.hid (offF_succ fs i k hlt HI.out.1)
      have HF := Lib.hid (show FrAt w g (k * 7) fs[k] by have := HR.out.at' k hlt; rwa [Nat.zero_add] at this)
      have HLn := Lib.hid (offF_length fs i k)
      have HG := Lib.hid h2
      have hki : (k : Int) < (fs.length : Int) := by omega
      have hk0 : (0 : Int) ≤ (k : Int) := by omega
      have hw : IntKind.i64.wrap ((k : Int) + 1) = (k : Int) + 1 := IntWalk.i64_in _ (by have := HL.out; omega)
      have HLT := Lib.hid hlt
      clear h2
      generalize fs[k] = x at *
      generalize offF fs i k = acc at *
      by_cases hx : (k : Int) = i
      · have q1 : ((k : Int) == i) = true := by rw [hx]; exact beq_self_eq_true _
        have q2 : ((k : Int) != i) = false := by rw [hx]; exact bne_self_eq_false _
        have HQ := Lib.hid hx
        clear hx
        go_wp2
        go_roundg (fs.length - (k + 1))
        case measure => have := HLT.out; omega
        case rel => exact ⟨k + 1, v, HLT.out, rfl, by go_num, by rw [HX.out, if_pos HQ.out]; exact H⟩
      · have q1 : ((k : Int) == i) = false := by rw [beq_eq_false_iff_ne]; exact hx
        have q2 : ((k : Int) != i) = true := by rw [bne_iff_ne]; exact hx
        have HQ := Lib.hid hx
        clear hx
        have o1 := H.out.atOut
        obtain ⟨x0, x1, x2, x3, x4, x5, x6⟩ := HF.out.below H.out.st.chg HG.out
        have H5 := Lib.hid ((H.out.alloc (.cells #[.int .i64 x.id, .int .i64 x.role, .int .i64 x.weight, .bool x.up, .bool x.quiet, .int .i64 x.time, .int .i64 x.till] 30)).drew)
        have HLt := Lib.hid H.out.lt
        have n1 := (H.out.alloc (.cells #[.int .i64 x.id, .int .i64 x.role, .int .i64 x.weight, .bool x.up, .bool x.quiet, .int .i64 x.time, .int .i64 x.till] 30)).atOut
        go_wp2_with fail
        go_region_law
          ((refine step_append_lies _ (by rfl) _ _ _ (by rfl) (w1.heap.size + 1) 30 i0 (encF Fr.zero) 7 48 Try.underlying39 hi hz0 hz1 hz2 rfl (by decide) v acc.length (flatF acc) (by rfl) H5.out.own ⟨wr.heap.size, 0, none⟩ 1 1 (flatF [x]) (by rfl) (by rfl) (fun j u hj => cells_new wr (cellsF x) 30 (flatF [x]) rfl j u hj) (one7 x) (by decide) (by have := HLn.out; have := HL.out; have := HLT.out; unfold maxLen; omega) (by have := HLn.out; have := HL.out; have := HLT.out; omega) (by have := HLt.out; simp; omega) _ rfl ?_; intro g5 c5 w5 hown5 hg5 hat5 hlt5; obtain ⟨k1, k2⟩ := H5.out.after hg5; have H6 := Lib.hid (H5.out.append hg5 hown5)))
        all_goals
          go_wp2
          go_roundg (fs.length - (k + 1))
          case measure => have := HLT.out; omega
          case rel => exact ⟨k + 1, _, HLT.out, rfl, by go_num, by rw [HX.out, if_neg HQ.out]; exact H6⟩
    · have hki : decide ((k : Int) < (fs.length : Int)) = false := decide_eq_false (by omega)
      obtain rfl : k = fs.length := by omega
      generalize offF fs i fs.length = acc at *
      obtain ⟨va, vg, vc, rfl, _, _⟩ := frow_cell H.out.own
      have o1 := H.out.atOut
      have o0 := H.out.atOut0
      clear hk hki hlt
      go_wp2
      obtain ⟨s1, s2, s3⟩ := H.out.st.stop (.slice va acc.length vc)
      refine bodyPost_ret (v := .tuple #[.agg #[.int .i64 cap, .slice va acc.length vc], .bool (decide (0 ≤ i)), .int .i64 0]) (by simp [results, Try.results12, go_sem, s1, s2]) rfl ⟨_, rfl, .inr (row_stop H.out.own (by have := HLB.out; omega) _ _), s3⟩
end Go.Proofs.Ytdckcbahfdcafaa.F
