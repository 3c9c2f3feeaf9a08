/- Walks: Disconnect, Quiet. -/
import Derived.Test.YtdckcbahfdcafaaTurn2
set_option linter.unusedVariables false
set_option linter.unusedSimpArgs false
namespace Go.Proofs.Ytdckcbahfdcafaa.F
open Go.RowKit Go.Proofs.Ytdckcbahfdcafaa.Hp Go.Proofs.Ytdckcbahfdcafaa.Mp
set_option maxRecDepth 100000

/-- What Disconnect answers, and the frameworks behind it. -/
def discF (l : List (Int × Fr)) (id now : Int) : Int × List (Int × Fr) := match mget l id with
  | none => (43, l)
  | some f => ((awayF f now).1, if (awayF f now).1 = 0 then mput l id (awayF f now).2 else l)
def quietF (l : List (Int × Fr)) (id : Int) (on : Bool) : Int × List (Int × Fr) := match mget l id with
  | none => (43, l)
  | some f => (0, mput l id { f with quiet := on })

theorem inner28 (q : Nat) (now : Int) : Inner 28 q (.cells #[.int .i64 now] 2 (0, 0)) (fun f => awayF f now) (fun f => 0 ≤ f.time ∧ f.time ≤ 9007199254740992) :=
  fun g f W hg hq hok => away_in g q f now W hg hq hok
theorem inner35 (q : Nat) (on : Bool) : Inner 35 q (.cells #[.bool on] 4 (0, 0)) (fun f => (0, { f with quiet := on })) (fun _ => True) :=
  fun g f W hg hq _ => quiet_in g q f on W hg hq

theorem disc_turn {b m : Nat} {cap : Int} {l : List (Int × Fr)} {R : List (Int × Int)} (id now : Int) (w : World) (h : Tab w b m cap l R) (ht : ∀ k f, mget l k = some f → 0 ≤ f.time ∧ f.time ≤ 9007199254740992) :
    Calls Try.prog 27 #[.pointer (some ⟨b, 0, none⟩), .int .i64 id, .func (.func 28) #[] #[.pointer (some ⟨w.heap.size, 0, none⟩)]] (w.alloc (.cells #[.int .i64 now] 2 (0, 0))) fun e w' =>
      e = .returned (.int .i64 (discF l id now).1) ∧ Tab w' b m cap (discF l id now).2 R ∧ Chg (Own b m) w w' := by
  have hT := h.alloc (.cells #[.int .i64 now] 2 (0, 0))
  have hC := (Chg.refl (Own b m) w).alloc (.cells #[.int .i64 now] 2 (0, 0))
  unfold discF
  cases hf : mget l id with
  | none => exact (turn_none id _ hT hf).mono fun e w' ⟨h1, h2⟩ => ⟨h1, hT.below h2, hC.trans (Chg.of_below h2 _)⟩
  | some f =>
    have hok := ht id f hf
    simp only
    by_cases hk : (awayF f now).1 ≠ 0 ∨ (awayF f now).2 = f
    · refine (turn_keep id _ hT f hf (inner28 _ now) (blk_new w _) hok hk (.inl rfl)).mono fun e w' ⟨h1, h2⟩ => ⟨h1, ?_, hC.trans (Chg.of_below h2 _)⟩
      have : (if (awayF f now).1 = 0 then mput l id (awayF f now).2 else l) = l := by
        split
        · rename_i h0
          rw [hk.resolve_left (fun h => h h0)]
          exact mput_same hf
        · rfl
      rw [this]
      exact hT.below h2
    · have hc : (awayF f now).1 = 0 := Classical.not_not.1 (fun h => hk (.inl h))
      have hne : (awayF f now).2 ≠ f := fun h => hk (.inr h)
      refine (turn_put id _ hT f hf (inner28 _ now) (blk_new w _) hok hc hne (.inl rfl)).mono fun e w' ⟨h1, h2, h3⟩ => ⟨by rw [hc]; exact h1, ?_, hC.trans h3⟩
      rw [if_pos hc]
      exact h2
theorem quiet_turn {b m : Nat} {cap : Int} {l : List (Int × Fr)} {R : List (Int × Int)} (id : Int) (on : Bool) (w : World) (h : Tab w b m cap l R) :
    Calls Try.prog 27 #[.pointer (some ⟨b, 0, none⟩), .int .i64 id, .func (.func 35) #[] #[.pointer (some ⟨w.heap.size, 0, none⟩)]] (w.alloc (.cells #[.bool on] 4 (0, 0))) fun e w' =>
      e = .returned (.int .i64 (quietF l id on).1) ∧ Tab w' b m cap (quietF l id on).2 R ∧ Chg (Own b m) w w' := by
  have hT := h.alloc (.cells #[.bool on] 4 (0, 0))
  have hC := (Chg.refl (Own b m) w).alloc (.cells #[.bool on] 4 (0, 0))
  unfold quietF
  cases hf : mget l id with
  | none => exact (turn_none id _ hT hf).mono fun e w' ⟨h1, h2⟩ => ⟨h1, hT.below h2, hC.trans (Chg.of_below h2 _)⟩
  | some f =>
    simp only
    by_cases hk : { f with quiet := on } = f
    · refine (turn_keep id _ hT f hf (inner35 _ on) (blk_new w _) trivial (.inr hk) (.inr rfl)).mono fun e w' ⟨h1, h2⟩ => ⟨h1, ?_, hC.trans (Chg.of_below h2 _)⟩
      rw [hk, mput_same hf]
      exact hT.below h2
    · refine (turn_put id _ hT f hf (inner35 _ on) (blk_new w _) trivial rfl hk (.inr rfl)).mono fun e w' ⟨h1, h2, h3⟩ => ⟨h1, h2, hC.trans h3⟩

set_option maxHeartbeats 400000 in
theorem disc_calls {b m : Nat} {cap : Int} {l : List (Int × Fr)} {R : List (Int × Int)} (id now : Int) (w : World) (h : Tab w b m cap l R) (ht : ∀ k f, mget l k = some f → 0 ≤ f.time ∧ f.time ≤ 9007199254740992) :
    Calls Try.prog 9 #[.pointer (some ⟨b, 0, none⟩), .int .i64 id, .int .i64 now] w fun e w' => e = .returned (.int .i64 (discF l id now).1) ∧ Tab w' b m cap (discF l id now).2 R ∧ Chg (Own b m) w w' := by
  have H := Lib.hid (disc_turn id now w h ht)
  clear h ht
  generalize (discF l id now).1 = c at *
  generalize (discF l id now).2 = l' at *
  go_enter Try.func9, Try.ntmps9
  go_wp2_with fail
  refine H.out.mono ?_
  rintro e w' ⟨rfl, h2⟩
  have H2 := Lib.hid h2
  clear h2
  go_wp2
  go_ret
  exact ⟨rfl, H2.out⟩
set_option maxHeartbeats 400000 in
theorem quiet_calls {b m : Nat} {cap : Int} {l : List (Int × Fr)} {R : List (Int × Int)} (id : Int) (on : Bool) (w : World) (h : Tab w b m cap l R) :
    Calls Try.prog 25 #[.pointer (some ⟨b, 0, none⟩), .int .i64 id, .bool on] w fun e w' => e = .returned (.int .i64 (quietF l id on).1) ∧ Tab w' b m cap (quietF l id on).2 R ∧ Chg (Own b m) w w' := by
  have H := Lib.hid (quiet_turn id on w h)
  clear h
  generalize (quietF l id on).1 = c at *
  generalize (quietF l id on).2 = l' at *
  go_enter Try.func25, Try.ntmps25
  go_wp2_with fail
  refine H.out.mono ?_
  rintro e w' ⟨rfl, h2⟩
  have H2 := Lib.hid h2
  clear h2
  go_wp2
  go_ret
  exact ⟨rfl, H2.out⟩
end Go.Proofs.Ytdckcbahfdcafaa.F
