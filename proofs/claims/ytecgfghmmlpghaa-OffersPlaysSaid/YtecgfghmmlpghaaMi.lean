/- A range over a map, in terms of its pairs: which keys have come. No program. -/
import Derived.Test.YtecgfghmmlpghaaMp
import Derived.Maps.RangeRun
set_option linter.unusedVariables false
set_option linter.unusedSimpArgs false
namespace Go.Proofs.Ytecgfghmmlpghaa.Mp
open Go.RowKit Go.Proofs.Ytecgfghmmlpghaa.Hp

theorem nodup_inj {α β : Type} {f : α → β} : ∀ {l : List α}, (l.map f).Nodup → ∀ {a b : α}, a ∈ l → b ∈ l → f a = f b → a = b
  | x :: l, h, a, b, ha, hb, e => by
    rw [List.map_cons, List.nodup_cons] at h
    rcases List.mem_cons.1 ha with h1 | h1 <;> rcases List.mem_cons.1 hb with h2 | h2
    · rw [h1, h2]
    · exact absurd (List.mem_map.2 ⟨b, h2, by rw [← e, h1]⟩) h.1
    · exact absurd (List.mem_map.2 ⟨a, h1, by rw [e, h2]⟩) h.1
    · exact nodup_inj h.2 h1 h2 e
section
variable {P : Program} {α : Type} {enc : α → Value} {w w' : World} {m r : Nat} {l : List (Int × α)} {S : List Int} {t kt et : TypeId}
/-- A range over the map at block m is under way, by the iterator at block r; the keys S have come. -/
structure Iter (enc : α → Value) (w : World) (m r : Nat) (l : List (Int × α)) (S : List Int) : Prop where
  it : ∃ es clk seen, w.heap[m]? = some (.map es clk) ∧ Rep enc es l ∧ Stamps es clk ∧ w.heap[r]? = some (.mapIter (some m) clk seen clk) ∧ ∀ e ∈ es.toList, seen.contains e.born = true ↔ ∃ k ∈ S, e.key = .int .i64 k
  nodup : S.Nodup
  sub : ∀ k ∈ S, k ∈ l.map (·.1)
theorem Iter.heap (h : Iter enc w m r l S) (e1 : w'.heap[m]? = w.heap[m]?) (e2 : w'.heap[r]? = w.heap[r]?) : Iter enc w' m r l S := by
  obtain ⟨⟨es, clk, seen, h1, h2, h3, h4, h5⟩, h6, h7⟩ := h
  exact ⟨⟨es, clk, seen, e1.trans h1, h2, h3, e2.trans h4, h5⟩, h6, h7⟩
theorem Iter.lt_r (h : Iter enc w m r l S) : r < w.heap.size := by
  obtain ⟨⟨es, clk, seen, h1, h2, h3, h4, h5⟩, h6, h7⟩ := h
  exact blk_lt h4
theorem Iter.lt_m (h : Iter enc w m r l S) : m < w.heap.size := by
  obtain ⟨⟨es, clk, seen, h1, h2, h3, h4, h5⟩, h6, h7⟩ := h
  exact blk_lt h1
theorem Iter.ne (h : Iter enc w m r l S) : m ≠ r := by
  obtain ⟨⟨es, clk, seen, h1, h2, h3, h4, h5⟩, h6, h7⟩ := h
  exact blk_ne h1 h4 (by simp)
theorem run_rangeM (ht : P.underlying t = some (.map kt et)) (hm : IsMap enc w m l) : ∃ o, (Instr.range t (.map (some m))).run P w = .ok (.pointer (some ⟨w.heap.size, 0, none⟩)) (w.alloc o) ∧ Iter enc (w.alloc o) m w.heap.size l [] := by
  obtain ⟨es, clk, hb, hr, hs⟩ := hm
  refine ⟨_, run_range_map w t kt et m es clk ht hb, ⟨⟨es, clk, #[], blk_alloc hb, hr, hs, blk_new _ _, ?_⟩, by simp, by simp⟩⟩
  intro e _
  simp
theorem Rep.keys {es : Array MapEntry} (h : Rep enc es l) : es.toList.map (·.key) = l.map fun p => Value.int .i64 p.1 := by
  have := congrArg (List.map Prod.fst) h
  simpa [List.map_map, Function.comp_def] using this
theorem Rep.mem {es : Array MapEntry} (h : Rep enc es l) {e : MapEntry} (he : e ∈ es.toList) : ∃ p ∈ l, e.key = .int .i64 p.1 ∧ e.val = enc p.2 := by
  have : (e.key, e.val) ∈ l.map fun p => (Value.int .i64 p.1, enc p.2) := by
    rw [← h]
    exact List.mem_map.2 ⟨e, he, rfl⟩
  obtain ⟨p, hp, e1⟩ := List.mem_map.1 this
  simp only [Prod.mk.injEq] at e1
  exact ⟨p, hp, e1.1.symm, e1.2.symm⟩
theorem run_nextM (h : Iter enc w m r l S) (hnd : (l.map (·.1)).Nodup) (ty : TypeId) :
    ((∀ k ∈ l.map (·.1), k ∈ S) ∧ (Instr.next (.pointer (some ⟨r, 0, none⟩)) false ty).run P w = .ok (.tuple #[.bool false]) w) ∨
    ∃ k v w', mget l k = some v ∧ k ∉ S ∧ (Instr.next (.pointer (some ⟨r, 0, none⟩)) false ty).run P w = .ok (.tuple #[.bool true, .int .i64 k, enc v]) w' ∧ Iter enc w' m r l (S ++ [k]) ∧
      (Instr.entry (.pointer (some ⟨r, 0, none⟩))).run P w' = .ok (.tuple #[.int .i64 k, enc v]) w' ∧ Chg (fun i => i = r) w w' := by
  obtain ⟨⟨es, clk, seen, h1, h2, h3, h4, h5⟩, h6, h7⟩ := h
  have hborn : (es.toList.map (·.key)).Nodup := by
    rw [h2.keys]
    have : (l.map fun p => Value.int .i64 p.1) = (l.map (·.1)).map (fun k => Value.int .i64 k) := by rw [List.map_map]; rfl
    rw [this]
    exact List.pairwise_map.2 (List.Pairwise.imp (fun {a b} hab e => hab (by injection e)) hnd)
  rcases run_next_at (P := P) w ty r m clk clk seen es clk h4 h1 (fun x hx => h3.1 x hx) (Nat.le_refl _) with ⟨h0, hrun⟩ | ⟨e, he, w1, hw1, hrun⟩
  · left
    refine ⟨?_, hrun⟩
    intro k hk
    obtain ⟨p, hp, rfl⟩ := List.mem_map.1 hk
    have hmem : Value.int .i64 p.1 ∈ es.toList.map (·.key) := by rw [h2.keys]; exact List.mem_map.2 ⟨p, hp, rfl⟩
    obtain ⟨e, he, hke⟩ := List.mem_map.1 hmem
    have hse : seen.contains e.born = true := by
      cases hc : seen.contains e.born with
      | true => rfl
      | false =>
        exfalso
        have hin : e ∈ leftOf es seen := by
          unfold leftOf
          rw [Array.mem_filter]
          exact ⟨by simpa using he, by rw [hc]; rfl⟩
        have := Array.eq_empty_of_size_eq_zero h0
        rw [this] at hin
        simp at hin
    obtain ⟨k', hk', e2⟩ := (h5 e he).1 hse
    rw [hke] at e2
    injection e2 with _ e2
    rw [e2]; exact hk'
  · right
    have hin : e ∈ es.toList ∧ seen.contains e.born = false := by
      have : e ∈ leftOf es seen := by simpa using he
      unfold leftOf at this
      rw [Array.mem_filter] at this
      exact ⟨by simpa using this.1, by simpa using this.2⟩
    obtain ⟨p, hp, hk1, hv1⟩ := h2.mem hin.1
    have hnS : p.1 ∉ S := fun hS => by
      have := (h5 e hin.1).2 ⟨p.1, hS, hk1⟩
      rw [hin.2] at this
      exact absurd this (by simp)
    have hw1h : w1.heap = w.heap ∧ Chg (fun i => i = r) w w1 := by rcases hw1 with rfl | rfl; exact ⟨rfl, Chg.refl _ _⟩; exact ⟨rfl, (Chg.refl _ _).drew⟩
    have hr1 : w1.heap[r]? = some (.mapIter (some m) clk seen clk) := by rw [hw1h.1]; exact h4
    have hm1 : w1.heap[m]? = some (.map es clk) := by rw [hw1h.1]; exact h1
    have hne : m ≠ r := blk_ne h1 h4 (by simp)
    have hr2 : (setB w1 r (.mapIter (some m) clk (seen.push e.born) clk)).heap[r]? = some (.mapIter (some m) clk (seen.push e.born) clk) := blk_setB _ hr1
    have hm2 : (setB w1 r (.mapIter (some m) clk (seen.push e.born) clk)).heap[m]? = some (.map es clk) := blk_setB_far hm1 hne
    refine ⟨p.1, p.2, setB w1 r (.mapIter (some m) clk (seen.push e.born) clk), mem_mget hnd hp, hnS, ?_, ⟨⟨es, clk, _, hm2, h2, h3, hr2, ?_⟩, ?_, ?_⟩, ?_, hw1h.2.setB (.inl rfl) _⟩
    · rw [hk1, hv1] at hrun
      exact hrun
    · intro e' he'
      rw [Array.contains_push]
      constructor
      · intro hc
        rw [Bool.or_eq_true] at hc
        rcases hc with hc | hc
        · obtain ⟨k, hk, ek⟩ := (h5 e' he').1 hc
          exact ⟨k, List.mem_append_left _ hk, ek⟩
        · have hb : e'.born = e.born := by simpa using hc
          have := nodup_inj h3.2 he' hin.1 hb
          exact ⟨p.1, by simp, by rw [this]; exact hk1⟩
      · rintro ⟨k, hk, ek⟩
        rw [Bool.or_eq_true]
        rcases List.mem_append.1 hk with hk | hk
        · exact .inl ((h5 e' he').2 ⟨k, hk, ek⟩)
        · right
          have hk' : k = p.1 := by simpa using hk
          have := nodup_inj hborn he' hin.1 (by rw [ek, hk1, hk'])
          rw [this]
          simp
    · rw [List.nodup_append]
      exact ⟨h6, by simp, fun a ha b hb => by have : b = p.1 := by simpa using hb
                                              rw [this]; intro e; rw [e] at ha; exact hnS ha⟩
    · intro k hk
      rcases List.mem_append.1 hk with hk | hk
      · exact h7 k hk
      · have : k = p.1 := by simpa using hk
        rw [this]
        exact List.mem_map.2 ⟨p, hp, rfl⟩
    · rw [← hk1, ← hv1]
      exact run_entry_at _ r m clk seen es clk e hr2 hm2 hin.1 h3.2
theorem Iter.perm (h : Iter enc w m r l S) (hnd : (l.map (·.1)).Nodup) (hall : ∀ k ∈ l.map (·.1), k ∈ S) : S.Perm (l.map (·.1)) :=
  (List.perm_ext_iff_of_nodup h.nodup hnd).2 fun k => ⟨h.sub k, hall k⟩
end
end Go.Proofs.Ytecgfghmmlpghaa.Mp
