/- Walks: Table.Of, Table.On. -/
import Derived.Test.YtecgfghmmlpghaaSorted
set_option linter.unusedVariables false
set_option linter.unusedSimpArgs false
namespace Go.Proofs.Ytecgfghmmlpghaa.O
open Go.RowKit Go.Proofs.Ytecgfghmmlpghaa.Hp Go.Proofs.Ytecgfghmmlpghaa.Mp
set_option maxRecDepth 100000
theorem idsP_rise {lo : List (Int × Ox)} (p : Of → Bool) (h : lo.Pairwise fun p q => p.1 < q.1) : (idsP p lo).Pairwise (· < ·) := by
  unfold idsP
  rw [List.pairwise_map]
  exact h.sublist List.filter_sublist
theorem idsP_len {lo : List (Int × Ox)} (p : Of → Bool) : (idsP p lo).length ≤ lo.length := by
  unfold idsP
  rw [List.length_map]
  exact List.length_filter_le _ _
/-- Numbers, as they are answered. -/
def IdsA (ids : List Int) (w : World) (e : Ending) (w' : World) : Prop := ∃ v, e = .returned v ∧ w'.ownsRow w.heap.size 2 1 v ids.length (ids.map (Value.int .i64)) ∧ Below w.heap.size w w'
section
variable {b mo mf ma : Nat} {most last : Int} {lo : List (Int × Ox)} {lf la : List (Int × Nat)}
theorem set_sorted (hS : SortC) {m : Nat} {l : List (Int × Nat)} {ids : Int → List Int} (k : Int) (r : Nat) (w : World) (h : Sets w m l ids) (hr : mget l k = some r) (hi : (ids k).Pairwise (· < ·)) (hlen : (ids k).length ≤ 900) :
    Calls Try.prog 30 #[.map (some r)] w (IdsA (ids k) w) := by
  have hm : IsMap encU w r (keysU (ids k)) := (h.get k r hr).1
  have hkeys : (keysU (ids k)).map (·.1) = ids k := by unfold keysU; rw [List.map_map]; exact List.map_id _
  have hl : (keysU (ids k)).length = (ids k).length := by unfold keysU; rw [List.length_map]
  refine (sortedU_calls hS w hm (by rw [hkeys]; exact hi.imp (fun h e => by omega)) (by rw [hl]; exact hlen)).mono ?_
  rintro e w' ⟨v, ss, rfl, hp, ha, ho, hb⟩
  rw [hkeys] at hp
  rw [sorted_eq hp ha hi, hl] at ho
  exact ⟨v, rfl, ho, hb⟩
set_option maxHeartbeats 1000000 in
theorem of_some (hS : SortC) (fr : Int) (w : World) (h : Tof w b mo mf ma most last lo lf la) (r : Nat) (hr : mget lf fr = some r) (hlen : lo.length ≤ 900) :
    Calls Try.prog 13 #[.pointer (some ⟨b, 0, none⟩), .int .i64 fr] w (IdsA (idsP (fun o => o.frame == fr) lo) w) := by
  have hk := look44 h.of'.map fr
  rw [hr] at hk
  have KS := Lib.hid (set_sorted hS fr r w h.of' hr (idsP_rise _ h.rise) (Nat.le_trans (idsP_len _) hlen))
  have HT := Lib.hid h
  obtain ⟨c0, c1, c2, c3, c4⟩ := h.cells
  clear h hr hlen
  go_enter Try.func13, Try.ntmps13
  go_wp2_with (first | (go_at_call 25; refine (made_yes _ HT.out).mono ?_; rintro e w' ⟨rfl, rfl⟩) | fail)
  refine KS.out.mono ?_
  rintro e w1 ⟨v, rfl, ho, hb⟩
  have HX := Lib.hid (And.intro ho hb)
  clear ho hb
  go_wp2_with fail
  go_ret
  exact ⟨_, rfl, HX.out.1, HX.out.2⟩
set_option maxHeartbeats 1000000 in
theorem on_some (hS : SortC) (ag : Int) (w : World) (h : Tof w b mo mf ma most last lo lf la) (r : Nat) (hr : mget la ag = some r) (hlen : lo.length ≤ 900) :
    Calls Try.prog 14 #[.pointer (some ⟨b, 0, none⟩), .int .i64 ag] w (IdsA (idsP (fun o => o.agent == ag) lo) w) := by
  have hk := look44 h.on'.map ag
  rw [hr] at hk
  have KS := Lib.hid (set_sorted hS ag r w h.on' hr (idsP_rise _ h.rise) (Nat.le_trans (idsP_len _) hlen))
  have HT := Lib.hid h
  obtain ⟨c0, c1, c2, c3, c4⟩ := h.cells
  clear h hr hlen
  go_enter Try.func14, Try.ntmps14
  go_wp2_with (first | (go_at_call 25; refine (made_yes _ HT.out).mono ?_; rintro e w' ⟨rfl, rfl⟩) | fail)
  refine KS.out.mono ?_
  rintro e w1 ⟨v, rfl, ho, hb⟩
  have HX := Lib.hid (And.intro ho hb)
  clear ho hb
  go_wp2_with fail
  go_ret
  exact ⟨_, rfl, HX.out.1, HX.out.2⟩
set_option maxHeartbeats 1000000 in
theorem nil_sorted (hS : SortC) (w : World) : Calls Try.prog 30 #[.map none] w (IdsA [] w) := by
  have h1 := run_range_nilMap (P := Try.prog) w 70 2 69 Try.underlying70
  have h2 := fun ty => run_next_nilMap (P := Try.prog) w ty 0 0 #[]
  have HS := Lib.hid hS
  have HB := Lib.hid ((Below.refl _ w).alloc (Nat.le_refl _) (.mapIter none 0 #[] 0))
  clear hS
  go_enter Try.func30, Try.ntmps30
  go_wp2_with fail
  refine wp_loop_rounds 1 ?_
  rw [rounds_succ]
  go_wp2_with (go_at_call 41; refine (HS.out.2 _ _ _).mono ?_; rintro e w' ⟨rfl, rfl⟩)
  go_ret
  exact ⟨_, rfl, ⟨by simp, .inl ⟨rfl, rfl⟩⟩, HB.out⟩
set_option maxHeartbeats 1000000 in
theorem of_calls2 (hS : SortC) (fr : Int) (w : World) (h : Tof w b mo mf ma most last lo lf la) (hlen : lo.length ≤ 900) :
    Calls Try.prog 13 #[.pointer (some ⟨b, 0, none⟩), .int .i64 fr] w (IdsA (idsP (fun o => o.frame == fr) lo) w) := by
  cases hr : mget lf fr with
  | some r => exact of_some hS fr w h r hr hlen
  | none =>
    have hk := look44 h.of'.map fr
    rw [hr] at hk
    have hg : idsP (fun o => o.frame == fr) lo = [] := h.of'.gone fr hr
    rw [hg]
    have KS := Lib.hid (nil_sorted hS w)
    have HT := Lib.hid h
    obtain ⟨c0, c1, c2, c3, c4⟩ := h.cells
    clear h hr hlen hg
    go_enter Try.func13, Try.ntmps13
    go_wp2_with (first | (go_at_call 25; refine (made_yes _ HT.out).mono ?_; rintro e w' ⟨rfl, rfl⟩) | fail)
    refine KS.out.mono ?_
    rintro e w1 ⟨v, rfl, ho, hb⟩
    have HX := Lib.hid (And.intro ho hb)
    clear ho hb
    go_wp2_with fail
    go_ret
    exact ⟨_, rfl, HX.out.1, HX.out.2⟩
set_option maxHeartbeats 1000000 in
theorem on_calls (hS : SortC) (ag : Int) (w : World) (h : Tof w b mo mf ma most last lo lf la) (hlen : lo.length ≤ 900) :
    Calls Try.prog 14 #[.pointer (some ⟨b, 0, none⟩), .int .i64 ag] w (IdsA (idsP (fun o => o.agent == ag) lo) w) := by
  cases hr : mget la ag with
  | some r => exact on_some hS ag w h r hr hlen
  | none =>
    have hk := look44 h.on'.map ag
    rw [hr] at hk
    have hg : idsP (fun o => o.agent == ag) lo = [] := h.on'.gone ag hr
    rw [hg]
    have KS := Lib.hid (nil_sorted hS w)
    have HT := Lib.hid h
    obtain ⟨c0, c1, c2, c3, c4⟩ := h.cells
    clear h hr hlen hg
    go_enter Try.func14, Try.ntmps14
    go_wp2_with (first | (go_at_call 25; refine (made_yes _ HT.out).mono ?_; rintro e w' ⟨rfl, rfl⟩) | fail)
    refine KS.out.mono ?_
    rintro e w1 ⟨v, rfl, ho, hb⟩
    have HX := Lib.hid (And.intro ho hb)
    clear ho hb
    go_wp2_with fail
    go_ret
    exact ⟨_, rfl, HX.out.1, HX.out.2⟩
end
end Go.Proofs.Ytecgfghmmlpghaa.O
