/- sorted: the numbers of all, rising. -/
import Derived.Test.YtecgfghmmlpghaaDrop
import Derived.Deep.LoopGhost
import Derived.Laws.AppendOwn
import Derived.Sort.OwnSortedInts
set_option linter.unusedVariables false
set_option linter.unusedSimpArgs false
namespace Go.Proofs.Ytecgfghmmlpghaa.O
open Go.RowKit Go.Sort Go.Proofs.Ytecgfghmmlpghaa.Hp Go.Proofs.Ytecgfghmmlpghaa.Mp
set_option maxRecDepth 100000

/-- The library's sort, by its contract. -/
def SortC : Prop := (∀ (blk off cap : Nat) (zs : List Int) (w : World), Holds (Value.int .i64) w blk off zs.toArray → blk < w.heap.size → zs.length < 4611686018427387904 →
    Calls Try.prog 41 #[.slice (some ⟨blk, off, none⟩) zs.length cap] w fun e w' => e = .returned (.tuple #[]) ∧ ∃ n os, w' = grow (putRow (Value.int .i64) (Sort.ahead w n) blk off (zs.mergeSort fun x y => decide (x ≤ y)).toArray) os) ∧
  ∀ (p : Option Addr) (cap : Nat) (w : World), Calls Try.prog 41 #[.slice p 0 cap] w fun e w' => e = .returned (.tuple #[]) ∧ w' = w

theorem range43 {m : Nat} {l : List (Int × Ox)} {W : World} (h : IsMap encO W m l) : ∃ o, (Instr.range 43 (.map (some m))).run Try.prog W = .ok (.pointer (some ⟨W.heap.size, 0, none⟩)) (W.alloc o) ∧ Iter encO (W.alloc o) m W.heap.size l [] :=
  run_rangeM Try.underlying43 h
theorem range70 {m : Nat} {l : List (Int × Unit)} {W : World} (h : IsMap encU W m l) : ∃ o, (Instr.range 70 (.map (some m))).run Try.prog W = .ok (.pointer (some ⟨W.heap.size, 0, none⟩)) (W.alloc o) ∧ Iter encU (W.alloc o) m W.heap.size l [] :=
  run_rangeM Try.underlying70 h
theorem row_own {w : World} {base : Nat} {e : TypeId} {size n : Nat} {v : Value} {xs : List Value} (h : w.ownsRow base e size v n xs) {k : Nat} (hk : some k = v.ownBlock) : base ≤ k := by
  rcases h.2 with ⟨rfl, _⟩ | ⟨g, cap, cur, rfl, e2, _⟩
  · cases hk
  · cases hk; exact e2
theorem row_tag {w : World} {base : Nat} {e : TypeId} {size n : Nat} {v : Value} {xs : List Value} (h : w.ownsRow base e size v n xs) {k : Nat} (hk : some k = v.ownBlock) : ∃ cs, w.heap[k]? = some (.cells cs e (0, 0)) := by
  rcases h.2 with ⟨rfl, _⟩ | ⟨g, cap, cur, rfl, e2, e3, _⟩
  · cases hk
  · cases hk; exact ⟨_, e3⟩
theorem row_chg {S : Nat → Prop} {w w' : World} {base : Nat} {e : TypeId} {size n : Nat} {v : Value} {xs : List Value} (h : w.ownsRow base e size v n xs) (hc : Chg S w w') (hS : ∀ i, S i → i < base) : w'.ownsRow base e size v n xs :=
  ⟨h.1, h.2.imp id fun ⟨g, cap, cur, e1, e2, e3, e4⟩ => ⟨g, cap, cur, e1, e2, hc.blk e3 (fun hs => by have := hS g hs; omega), e4⟩⟩
theorem nodup_length : ∀ {s t : List Int}, s.Nodup → (∀ x ∈ s, x ∈ t) → s.length ≤ t.length
  | [], t, _, _ => Nat.zero_le _
  | x :: s, t, h, hs => by
    rw [List.nodup_cons] at h
    have hx := hs x List.mem_cons_self
    have := nodup_length (s := s) (t := t.erase x) h.2 (fun y hy => (List.mem_erase_of_ne (fun e => h.1 (by rw [← e]; exact hy))).2 (hs y (List.mem_cons_of_mem _ hy)))
    rw [List.length_erase_of_mem hx] at this
    have : 0 < t.length := List.length_pos_of_mem hx
    simp only [List.length_cons]
    omega
theorem row_base {w : World} {base base' : Nat} {e : TypeId} {size n : Nat} {v : Value} {xs : List Value} (h : w.ownsRow base e size v n xs) (hb : base' ≤ base) : w.ownsRow base' e size v n xs :=
  ⟨h.1, h.2.imp id fun ⟨g, cap, cur, e1, e2, e3⟩ => ⟨g, cap, cur, e1, by omega, e3⟩⟩
theorem iter_grown {α : Type} {enc : α → Value} {w w' : World} {m r : Nat} {l : List (Int × α)} {S : List Int} {row : Option Nat} (h : Iter enc w m r l S) (hg : w.grownBy w' row) (hm : some m ≠ row) (hr : some r ≠ row) : Iter enc w' m r l S :=
  h.heap (hg.block m h.lt_m hm) (hg.block r h.lt_r hr)

set_option maxHeartbeats 4000000 in
theorem sortedO_calls (hS : SortC) {m : Nat} {l : List (Int × Ox)} (w : World) (h : IsMap encO w m l) (hnd : (l.map (·.1)).Nodup) (hlen : l.length ≤ 900) :
    Calls Try.prog 29 #[.map (some m)] w fun e w' => ∃ (v : Value) (ss : List Int), e = .returned v ∧ ss.Perm (l.map (·.1)) ∧ ss.Pairwise (· ≤ ·) ∧ w'.ownsRow w.heap.size 2 1 v l.length (ss.map (Value.int .i64)) ∧ Below w.heap.size w w' := by
  obtain ⟨i0, hi, hz0, hz1, hz2⟩ := info_parts info2
  have hml := IsMap.lt h
  obtain ⟨o, ho, hit⟩ := range43 h
  have HI := Lib.hid hit
  have HN := Lib.hid hnd
  have HL := Lib.hid hlen
  have HM := Lib.hid hml
  clear h hit hnd hlen hml
  go_enter Try.func29, Try.ntmps29
  go_wp2_with fail
  go_loopg [3] (l.length + 1) (fun g v wr => ∃ (S : List Int), g = l.length + 1 - S.length ∧ Hid (Iter encO wr m w.heap.size l S) ∧ Hid (wr.ownsRow (w.heap.size + 1) 2 1 v S.length (S.map (Value.int .i64))) ∧ Hid (Below w.heap.size w wr) ∧ Hid (w.heap.size < wr.heap.size))
  case atStart => exact ⟨[], by simp, HI, Lib.hid ⟨by simp, .inl ⟨rfl, rfl⟩⟩, Lib.hid ((Below.refl _ _).alloc (Nat.le_refl _) _), Lib.hid (by simp)⟩
  case round =>
    obtain ⟨S, hg, hI, hO, hB, hZ⟩ := hrel
    rcases run_nextM (P := Try.prog) hI.out HN.out 0 with ⟨hall, hrun⟩ | ⟨k, f, w2, hkv, hkS, hrun, hI2, hent, hch⟩
    · have hperm := hI.out.perm HN.out hall
      have HP := Lib.hid hperm
      have hSl : S.length = l.length := by have := hperm.length_eq; simpa using this
      have HSL := Lib.hid hSl
      clear hall hperm hg ho hSl
      rcases hO.out.2 with ⟨rfl, h0⟩ | ⟨g, cp, cur, rfl, hbase, hb, e1, e2, e3, e4⟩
      · go_wp2_with (go_at_call 41; refine (hS.2 _ _ _).mono ?_; rintro e w' ⟨rfl, rfl⟩)
        go_ret
        have hS0 : S = [] := List.eq_nil_of_length_eq_zero h0
        refine ⟨_, S, rfl, HP.out, by rw [hS0]; exact List.Pairwise.nil, ?_, hB.out⟩
        rw [← HSL.out]
        exact row_base hO.out (by omega)
      · have HX := Lib.hid hb
        have HY := Lib.hid (And.intro hbase (And.intro e1 (And.intro e2 (And.intro e3 e4))))
        have hC := Lib.hid (hS.1 g 0 cp S wr (holds_of_blockI hb (by simpa using e4)) (blk_lt hb) (by have := HL.out; have := HSL.out; omega))
        clear hb hbase e1 e2 e3 e4
        go_wp2_with (go_at_call 41; refine hC.out.mono ?_; rintro e w' ⟨rfl, nn, os, rfl⟩)
        go_ret
        obtain ⟨hbase, e1, e2, e3, e4⟩ := HY.out
        refine ⟨_, S.mergeSort fun x y => decide (x ≤ y), rfl, (List.mergeSort_perm _ _).trans HP.out, ?_, ?_, hB.out.grown (grownBy_sortedI _) hB.out.size (fun j hj => by cases hj; omega)⟩
        · have := List.pairwise_mergeSort (le := fun x y : Int => decide (x ≤ y)) (fun a b c h1 h2 => by simp at *; omega) (fun a b => by simp; omega) S
          exact this.imp (fun h => by simpa using h)
        · rw [← HSL.out]
          exact ownsRow_sortedI (by simp) (by omega) HX.out e1 e2 e3
    · have hkm : k ∈ l.map (·.1) := List.mem_map.2 ⟨_, mget_some_mem hkv, rfl⟩
      have hSle : S.length + 1 ≤ l.length := by
        have hnd2 : (S ++ [k]).Nodup := hI2.nodup
        have := nodup_length hnd2 (fun x hx => hI2.sub x hx)
        simpa using this
      have hO2 := row_chg hO.out hch (fun i hi => by omega)
      have hB2 : Below w.heap.size w w2 := hB.out.trans (hch.below (fun i hi => by omega) hB.out.size)
      have hsz := hch.size
      have HX := Lib.hid (And.intro hkv (And.intro hkS (And.intro hg (And.intro hsz hZ.out))))
      have HO2 := Lib.hid hO2
      have HB2 := Lib.hid hB2
      have HI2 := Lib.hid hI2
      have HSL := Lib.hid hSle
      clear hkv hkS hkm hSle hO2 hB2 hI2 hch hsz hO hB hI hg ho hZ
      go_wp2_with (first
        | (at_builtin; refine wpList_append_own _ rfl _ _ 41 rfl (w.heap.size + 1) 2 i0 (.int .i64 0) 1 8 Try.underlying41 hi hz0 hz1 hz2 rfl (by decide) _ _ _ rfl (HO2.out.alloc _) ⟨w2.heap.size, 0, none⟩ 1 1 [.int .i64 k] rfl rfl (cell_one_new _ _ _) (ints_oneCell .i64 [k]) (by have := HSL.out; have := HL.out; unfold maxLen; omega) (by have := HSL.out; have := HL.out; omega) (by have := HX.out.2.2.2.1; have := HX.out.2.2.2.2; simp; omega) ?_; intro v' w3 hown' hg3 hnil3))
      obtain ⟨hkv, hkS, hg, hsz, hZ⟩ := HX.out
      go_roundg (l.length + 1 - (S.length + 1))
      case measure => have := HSL.out; omega
      case rel =>
        have hI3 : Iter encO (w2.alloc (.cells #[.int .i64 k] 2)) m w.heap.size l (S ++ [k]) := HI2.out.heap (Below.heap_alloc _ _ _ HI2.out.lt_m) (Below.heap_alloc _ _ _ HI2.out.lt_r)
        have hrow := HO2.out.alloc (.cells #[.int .i64 k] 2)
        refine ⟨S ++ [k], by simp, Lib.hid (iter_grown hI3 hg3 (fun e => ?_) (fun e => ?_)), Lib.hid (by simpa using hown'), Lib.hid ?_, Lib.hid ?_⟩
        · have := row_own HO2.out e; have := HM.out; omega
        · have := row_own HO2.out e; omega
        · exact (HB2.out.alloc (by omega) _).grown hg3 (by simp; omega) (fun j hj => by have := row_own HO2.out hj.symm; omega)
        · have := hg3.size; simp at this; omega
set_option maxHeartbeats 4000000 in
theorem sortedU_calls (hS : SortC) {m : Nat} {l : List (Int × Unit)} (w : World) (h : IsMap encU w m l) (hnd : (l.map (·.1)).Nodup) (hlen : l.length ≤ 900) :
    Calls Try.prog 30 #[.map (some m)] w fun e w' => ∃ (v : Value) (ss : List Int), e = .returned v ∧ ss.Perm (l.map (·.1)) ∧ ss.Pairwise (· ≤ ·) ∧ w'.ownsRow w.heap.size 2 1 v l.length (ss.map (Value.int .i64)) ∧ Below w.heap.size w w' := by
  obtain ⟨i0, hi, hz0, hz1, hz2⟩ := info_parts info2
  have hml := IsMap.lt h
  obtain ⟨o, ho, hit⟩ := range70 h
  have HI := Lib.hid hit
  have HN := Lib.hid hnd
  have HL := Lib.hid hlen
  have HM := Lib.hid hml
  clear h hit hnd hlen hml
  go_enter Try.func30, Try.ntmps30
  go_wp2_with fail
  go_loopg [3] (l.length + 1) (fun g v wr => ∃ (S : List Int), g = l.length + 1 - S.length ∧ Hid (Iter encU wr m w.heap.size l S) ∧ Hid (wr.ownsRow (w.heap.size + 1) 2 1 v S.length (S.map (Value.int .i64))) ∧ Hid (Below w.heap.size w wr) ∧ Hid (w.heap.size < wr.heap.size))
  case atStart => exact ⟨[], by simp, HI, Lib.hid ⟨by simp, .inl ⟨rfl, rfl⟩⟩, Lib.hid ((Below.refl _ _).alloc (Nat.le_refl _) _), Lib.hid (by simp)⟩
  case round =>
    obtain ⟨S, hg, hI, hO, hB, hZ⟩ := hrel
    rcases run_nextM (P := Try.prog) hI.out HN.out 0 with ⟨hall, hrun⟩ | ⟨k, f, w2, hkv, hkS, hrun, hI2, hent, hch⟩
    · have hperm := hI.out.perm HN.out hall
      have HP := Lib.hid hperm
      have hSl : S.length = l.length := by have := hperm.length_eq; simpa using this
      have HSL := Lib.hid hSl
      clear hall hperm hg ho hSl
      rcases hO.out.2 with ⟨rfl, h0⟩ | ⟨g, cp, cur, rfl, hbase, hb, e1, e2, e3, e4⟩
      · go_wp2_with (go_at_call 41; refine (hS.2 _ _ _).mono ?_; rintro e w' ⟨rfl, rfl⟩)
        go_ret
        have hS0 : S = [] := List.eq_nil_of_length_eq_zero h0
        refine ⟨_, S, rfl, HP.out, by rw [hS0]; exact List.Pairwise.nil, ?_, hB.out⟩
        rw [← HSL.out]
        exact row_base hO.out (by omega)
      · have HX := Lib.hid hb
        have HY := Lib.hid (And.intro hbase (And.intro e1 (And.intro e2 (And.intro e3 e4))))
        have hC := Lib.hid (hS.1 g 0 cp S wr (holds_of_blockI hb (by simpa using e4)) (blk_lt hb) (by have := HL.out; have := HSL.out; omega))
        clear hb hbase e1 e2 e3 e4
        go_wp2_with (go_at_call 41; refine hC.out.mono ?_; rintro e w' ⟨rfl, nn, os, rfl⟩)
        go_ret
        obtain ⟨hbase, e1, e2, e3, e4⟩ := HY.out
        refine ⟨_, S.mergeSort fun x y => decide (x ≤ y), rfl, (List.mergeSort_perm _ _).trans HP.out, ?_, ?_, hB.out.grown (grownBy_sortedI _) hB.out.size (fun j hj => by cases hj; omega)⟩
        · have := List.pairwise_mergeSort (le := fun x y : Int => decide (x ≤ y)) (fun a b c h1 h2 => by simp at *; omega) (fun a b => by simp; omega) S
          exact this.imp (fun h => by simpa using h)
        · rw [← HSL.out]
          exact ownsRow_sortedI (by simp) (by omega) HX.out e1 e2 e3
    · have hkm : k ∈ l.map (·.1) := List.mem_map.2 ⟨_, mget_some_mem hkv, rfl⟩
      have hSle : S.length + 1 ≤ l.length := by
        have hnd2 : (S ++ [k]).Nodup := hI2.nodup
        have := nodup_length hnd2 (fun x hx => hI2.sub x hx)
        simpa using this
      have hO2 := row_chg hO.out hch (fun i hi => by omega)
      have hB2 : Below w.heap.size w w2 := hB.out.trans (hch.below (fun i hi => by omega) hB.out.size)
      have hsz := hch.size
      have HX := Lib.hid (And.intro hkv (And.intro hkS (And.intro hg (And.intro hsz hZ.out))))
      have HO2 := Lib.hid hO2
      have HB2 := Lib.hid hB2
      have HI2 := Lib.hid hI2
      have HSL := Lib.hid hSle
      clear hkv hkS hkm hSle hO2 hB2 hI2 hch hsz hO hB hI hg ho hZ
      go_wp2_with (first
        | (at_builtin; refine wpList_append_own _ rfl _ _ 41 rfl (w.heap.size + 1) 2 i0 (.int .i64 0) 1 8 Try.underlying41 hi hz0 hz1 hz2 rfl (by decide) _ _ _ rfl (HO2.out.alloc _) ⟨w2.heap.size, 0, none⟩ 1 1 [.int .i64 k] rfl rfl (cell_one_new _ _ _) (ints_oneCell .i64 [k]) (by have := HSL.out; have := HL.out; unfold maxLen; omega) (by have := HSL.out; have := HL.out; omega) (by have := HX.out.2.2.2.1; have := HX.out.2.2.2.2; simp; omega) ?_; intro v' w3 hown' hg3 hnil3))
      obtain ⟨hkv, hkS, hg, hsz, hZ⟩ := HX.out
      go_roundg (l.length + 1 - (S.length + 1))
      case measure => have := HSL.out; omega
      case rel =>
        have hI3 : Iter encU (w2.alloc (.cells #[.int .i64 k] 2)) m w.heap.size l (S ++ [k]) := HI2.out.heap (Below.heap_alloc _ _ _ HI2.out.lt_m) (Below.heap_alloc _ _ _ HI2.out.lt_r)
        have hrow := HO2.out.alloc (.cells #[.int .i64 k] 2)
        refine ⟨S ++ [k], by simp, Lib.hid (iter_grown hI3 hg3 (fun e => ?_) (fun e => ?_)), Lib.hid (by simpa using hown'), Lib.hid ?_, Lib.hid ?_⟩
        · have := row_own HO2.out e; have := HM.out; omega
        · have := row_own HO2.out e; omega
        · exact (HB2.out.alloc (by omega) _).grown hg3 (by simp; omega) (fun j hj => by have := row_own HO2.out hj.symm; omega)
        · have := hg3.size; simp at this; omega
theorem sorted_eq : ∀ {a b : List Int}, a.Perm b → a.Pairwise (· ≤ ·) → b.Pairwise (· < ·) → a = b := fun hp ha hb =>
  List.Perm.eq_of_pairwise (le := (· ≤ ·)) (fun x y _ _ h1 h2 => by omega) ha (hb.imp (fun h => by omega)) hp
end Go.Proofs.Ytecgfghmmlpghaa.O
