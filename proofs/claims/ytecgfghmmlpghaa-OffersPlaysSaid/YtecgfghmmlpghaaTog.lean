/- A table while it is being changed. No walk. -/
import Derived.Test.YtecgfghmmlpghaaGet
set_option linter.unusedVariables false
set_option linter.unusedSimpArgs false
namespace Go.Proofs.Ytecgfghmmlpghaa.O
open Go.RowKit Go.Proofs.Ytecgfghmmlpghaa.Hp Go.Proofs.Ytecgfghmmlpghaa.Mp
/-- As 'Tof', whatever the three maps say of each other. -/
structure Tog (w : World) (b mo mf ma : Nat) (most last : Int) (lo : List (Int × Ox)) (lf la : List (Int × Nat)) (F A : Int → List Int) : Prop where
  blk : w.heap[b]? = some (.cells #[.int .i64 most, .int .i64 last, .map (some mo), .map (some mf), .map (some ma)] 46 (0, 0))
  offers : IsMap encO w mo lo
  vec : ∀ p ∈ lo, VAt w p.2.2.1 p.2.1.vec
  of' : Sets w mf lf F
  on' : Sets w ma la A
  sep1 : ¬ OwnS mf lf mo ∧ ¬ OwnS ma la mo
  sep2 : ∀ i, OwnS mf lf i → ¬ OwnS ma la i
section
variable {w w' : World} {b mo mf ma : Nat} {most last : Int} {lo lo' : List (Int × Ox)} {lf la : List (Int × Nat)} {F A F' A' : Int → List Int}
theorem Tof.tog (h : Tof w b mo mf ma most last lo lf la) : Tog w b mo mf ma most last lo lf la (fun f => idsP (fun o => o.frame == f) lo) (fun a => idsP (fun o => o.agent == a) lo) :=
  ⟨h.blk, h.offers, h.vec, h.of', h.on', h.sep1, h.sep2⟩
theorem Tog.cells (h : Tog w b mo mf ma most last lo lf la F A) : w.cell? ⟨b, 0, none⟩ = some (.int .i64 most) ∧ w.cell? ⟨b, 1, none⟩ = some (.int .i64 last) ∧ w.cell? ⟨b, 2, none⟩ = some (.map (some mo)) ∧ w.cell? ⟨b, 3, none⟩ = some (.map (some mf)) ∧ w.cell? ⟨b, 4, none⟩ = some (.map (some ma)) :=
  ⟨blk_cell h.blk 0, blk_cell h.blk 1, blk_cell h.blk 2, blk_cell h.blk 3, blk_cell h.blk 4⟩
theorem Tog.own_lt (h : Tog w b mo mf ma most last lo lf la F A) : ∀ i, Own b mo mf ma lf la i → i < w.heap.size := fun i hi => by
  rcases hi with rfl | rfl | hi | hi
  · exact blk_lt h.blk
  · exact IsMap.lt h.offers
  · exact h.of'.own_lt i hi
  · exact h.on'.own_lt i hi
theorem Tog.below (h : Tog w b mo mf ma most last lo lf la F A) (hb : Below w.heap.size w w') : Tog w' b mo mf ma most last lo lf la F A :=
  ⟨(hb.block b (blk_lt h.blk)).trans h.blk, IsMap.heap h.offers (hb.block _ (IsMap.lt h.offers)), fun p hp => (h.vec p hp).keep (fun i c hc => hb.block i (blk_lt hc)), h.of'.keep (fun i hi => hb.block i (h.of'.own_lt i hi)), h.on'.keep (fun i hi => hb.block i (h.on'.own_lt i hi)), h.sep1, h.sep2⟩
theorem Tog.bump (h : Tog w b mo mf ma most last lo lf la F A) (n : Int) : Tog (w.setCell ⟨b, 1, none⟩ (.int .i64 n)) b mo mf ma most n lo lf la F A := by
  have hmap : ∀ i, (∃ es clk, w.heap[i]? = some (Obj.map es clk)) → i ≠ b := fun i ⟨es, clk, he⟩ e => by rw [e, h.blk] at he; cases he
  have hk : ∀ i, i ≠ b → (w.setCell ⟨b, 1, none⟩ (.int .i64 n)).heap[i]? = w.heap[i]? := fun i hi => Below.heap_setCell _ _ _ _ hi
  exact ⟨blk_set h.blk 1 _, IsMap.heap h.offers (hk _ (hmap _ (IsMap.isMapB h.offers))), fun p hp => (h.vec p hp).keep (fun i c hc => hk i (fun e => by rw [e, h.blk] at hc; simp at hc)), h.of'.keep (fun i hi => hk i (hmap i (h.of'.own_map i hi))), h.on'.keep (fun i hi => hk i (hmap i (h.on'.own_map i hi))), h.sep1, h.sep2⟩
theorem Tog.store (h : Tog w b mo mf ma most last lo lf la F A) {o : Obj} (hm : IsMap encO (setB w mo o) mo lo') (hv : ∀ p ∈ lo', VAt w p.2.2.1 p.2.1.vec) : Tog (setB w mo o) b mo mf ma most last lo' lf la F A := by
  obtain ⟨es, clk, hmo⟩ := IsMap.isMapB h.offers
  have hbne : b ≠ mo := fun e => by have := h.blk; rw [e, hmo] at this; cases this
  refine ⟨blk_setB_far h.blk hbne, hm, fun p hp => (hv p hp).keep (fun i c hc => setB_far (fun e => by rw [e, hmo] at hc; cases hc)), h.of'.keep (fun i hi => setB_far (fun e => h.sep1.1 (e ▸ hi))), h.on'.keep (fun i hi => setB_far (fun e => h.sep1.2 (e ▸ hi))), h.sep1, h.sep2⟩
theorem Tog.putF (h : Tog w b mo mf ma most last lo lf la F A) {lf' : List (Int × Nat)} (hs : Sets w' mf lf' F') (ho : ∀ i, OwnS mf lf' i → OwnS mf lf i ∨ w.heap.size ≤ i) (hc : Chg (OwnS mf lf) w w') : Tog w' b mo mf ma most last lo lf' la F' A := by
  have hk : ∀ i o, w.heap[i]? = some o → ¬ OwnS mf lf i → w'.heap[i]? = w.heap[i]? := fun i o hi hn => hc.block i (blk_lt hi) hn
  have hmp : ∀ i (cur : Array Value) t, w.heap[i]? = some (Obj.cells cur t (0, 0)) → w'.heap[i]? = w.heap[i]? := fun i cur t hi => hk i _ hi (fun hown => by obtain ⟨es, clk, he⟩ := h.of'.own_map i hown; rw [he] at hi; cases hi)
  refine ⟨(hmp b _ _ h.blk).trans h.blk, IsMap.heap h.offers (hc.block _ (IsMap.lt h.offers) h.sep1.1), fun p hp => (h.vec p hp).keep (fun i c hc => hmp i c 48 hc), hs, h.on'.keep (fun i hi => hc.block i (h.on'.own_lt i hi) (fun hf => h.sep2 i hf hi)), ⟨fun hm => ?_, h.sep1.2⟩, fun i hi ha => ?_⟩
  · rcases ho mo hm with h1 | h1
    · exact h.sep1.1 h1
    · have := IsMap.lt h.offers; omega
  · rcases ho i hi with h1 | h1
    · exact h.sep2 i h1 ha
    · have := h.on'.own_lt i ha; omega
theorem Tog.putA (h : Tog w b mo mf ma most last lo lf la F A) {la' : List (Int × Nat)} (hs : Sets w' ma la' A') (ho : ∀ i, OwnS ma la' i → OwnS ma la i ∨ w.heap.size ≤ i) (hc : Chg (OwnS ma la) w w') : Tog w' b mo mf ma most last lo lf la' F A' := by
  have hk : ∀ i o, w.heap[i]? = some o → ¬ OwnS ma la i → w'.heap[i]? = w.heap[i]? := fun i o hi hn => hc.block i (blk_lt hi) hn
  have hmp : ∀ i (cur : Array Value) t, w.heap[i]? = some (Obj.cells cur t (0, 0)) → w'.heap[i]? = w.heap[i]? := fun i cur t hi => hk i _ hi (fun hown => by obtain ⟨es, clk, he⟩ := h.on'.own_map i hown; rw [he] at hi; cases hi)
  refine ⟨(hmp b _ _ h.blk).trans h.blk, IsMap.heap h.offers (hc.block _ (IsMap.lt h.offers) h.sep1.2), fun p hp => (h.vec p hp).keep (fun i c hc => hmp i c 48 hc), h.of'.keep (fun i hi => hc.block i (h.of'.own_lt i hi) (fun hf => h.sep2 i hi hf)), hs, ⟨h.sep1.1, fun hm => ?_⟩, fun i hi ha => ?_⟩
  · rcases ho mo hm with h1 | h1
    · exact h.sep1.2 h1
    · have := IsMap.lt h.offers; omega
  · rcases ho i ha with h1 | h1
    · exact h.sep2 i hi h1
    · have := h.of'.own_lt i hi; omega
end
theorem idsP_snoc (p : Of → Bool) (lo : List (Int × Ox)) (k : Int) (x : Ox) : idsP p (lo ++ [(k, x)]) = if p x.1 then idsP p lo ++ [k] else idsP p lo := by
  unfold idsP
  rw [List.filter_append, List.map_append]
  cases h : p x.1 <;> simp [h]
theorem idsP_mem {p : Of → Bool} {lo : List (Int × Ox)} {k : Int} (h : k ∈ idsP p lo) : ∃ x, (k, x) ∈ lo ∧ p x.1 = true := by
  unfold idsP at h
  obtain ⟨⟨a, x⟩, h1, rfl⟩ := List.mem_map.1 h
  exact ⟨x, (List.mem_filter.1 h1).1, (List.mem_filter.1 h1).2⟩
theorem store43 {w : World} {m : Nat} {l : List (Int × Ox)} (h : IsMap encO w m l) (k : Int) (x : Ox) : ∃ o, (Instr.mapUpdate 43 (.map (some m)) (.int .i64 k) (encO x)).run Try.prog w = .ok () (setB w m o) ∧ IsMap encO (setB w m o) m (mput l k x) := run_mstore (P := Try.prog) (enc := encO) Try.underlying43 Try.underlying2 h k x
theorem del43 {w : World} {m : Nat} {l : List (Int × Ox)} (h : IsMap encO w m l) (k : Int) (ty : TypeId) : ∃ o, (Builtin.delete_ #[43, 2] ty #[.map (some m), .int .i64 k]).run Try.prog w = .ok (.tuple #[]) (setB w m o) ∧ IsMap encO (setB w m o) m (mdel l k) := run_remove (P := Try.prog) (enc := encO) Try.underlying43 Try.underlying2 h k 2 ty
/-- A table with one offer more. -/
theorem Tog.grown {w : World} {b mo mf ma : Nat} {most last : Int} {lo : List (Int × Ox)} {lf la : List (Int × Nat)} (x : Ox)
    (hr : lo.Pairwise fun p q => p.1 < q.1) (hi : ∀ p ∈ lo, p.2.1.id = p.1 ∧ 1 ≤ p.1 ∧ p.1 ≤ last) (h0 : 0 ≤ last) (hx : x.1.id = last + 1)
    (h : Tog w b mo mf ma most (last + 1) (lo ++ [(last + 1, x)]) lf la (fun k => if k = x.1.frame then idsP (fun o => o.frame == x.1.frame) lo ++ [last + 1] else idsP (fun o => o.frame == k) lo) (fun k => if k = x.1.agent then idsP (fun o => o.agent == x.1.agent) lo ++ [last + 1] else idsP (fun o => o.agent == k) lo)) :
    Tof w b mo mf ma most (last + 1) (lo ++ [(last + 1, x)]) lf la := by
  have e1 : (fun f => idsP (fun o => o.frame == f) (lo ++ [(last + 1, x)])) = fun k => if k = x.1.frame then idsP (fun o => o.frame == x.1.frame) lo ++ [last + 1] else idsP (fun o => o.frame == k) lo := by
    funext k
    rw [idsP_snoc]
    by_cases hk : k = x.1.frame
    · subst hk; simp
    · rw [if_neg (by simp; exact fun e => hk e.symm), if_neg hk]
  have e2 : (fun f => idsP (fun o => o.agent == f) (lo ++ [(last + 1, x)])) = fun k => if k = x.1.agent then idsP (fun o => o.agent == x.1.agent) lo ++ [last + 1] else idsP (fun o => o.agent == k) lo := by
    funext k
    rw [idsP_snoc]
    by_cases hk : k = x.1.agent
    · subst hk; simp
    · rw [if_neg (by simp; exact fun e => hk e.symm), if_neg hk]
  refine ⟨h.blk, h.offers, ?_, ?_, h.vec, by rw [e1]; exact h.of', by rw [e2]; exact h.on', h.sep1, h.sep2, by omega⟩
  · rw [List.pairwise_append]
    exact ⟨hr, List.pairwise_singleton _ _, fun p hp q hq => by rw [List.mem_singleton.1 hq]; have := (hi p hp).2.2; show p.1 < last + 1; omega⟩
  · intro p hp
    rcases List.mem_append.1 hp with hp | hp
    · have := hi p hp; exact ⟨this.1, this.2.1, by omega⟩
    · rw [List.mem_singleton.1 hp]; exact ⟨hx, by show 1 ≤ last + 1; omega, by show last + 1 ≤ last + 1; omega⟩
end Go.Proofs.Ytecgfghmmlpghaa.O
