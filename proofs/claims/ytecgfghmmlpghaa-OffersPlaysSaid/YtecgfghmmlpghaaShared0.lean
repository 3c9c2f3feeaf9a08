/- What OffersShared asks, told plainly. No walk. -/
import Derived.Test.YtecgfghmmlpghaaOnce0
import Derived.Test.YtecgfghmmlpghaaNil
set_option linter.unusedVariables false
namespace Go.Proofs.Ytecgfghmmlpghaa.O
open Go.RowKit Go.Proofs.Ytecgfghmmlpghaa.Hp Go.Proofs.Ytecgfghmmlpghaa.Mp
theorem count_take {l : List Int} {a : Int} {k : Nat} (hk : k < l.length) : (l.take (k + 1)).count a = (l.take k).count a + (if l[k] = a then 1 else 0) := by
  rw [List.take_succ_eq_append_getElem hk, List.count_append, List.count_singleton]
  congr 1
  by_cases h : l[k] = a <;> simp [h]
theorem count_one {l : List Int} {a : Int} (hn : l.Nodup) (h : a ∈ l) : l.count a = 1 := by
  have h1 := List.nodup_iff_count.1 hn a
  have h2 := List.count_pos_iff.2 h
  omega
theorem rise_at {l : List Int} (h : l.Pairwise (· < ·)) {k : Nat} (hk : k + 1 < l.length) : l[k] < l[k + 1] := List.pairwise_iff_getElem.1 h k (k + 1) (by omega) hk (by omega)
section
variable {w : World} {b mo mf ma : Nat} {most last : Int} {lo : List (Int × Ox)} {lf la : List (Int × Nat)}
theorem idsP_has {p : Of → Bool} {i : Nat} (hi : i < lo.length) (hp : p lo[i].2.1 = true) : lo[i].1 ∈ idsP p lo := by
  unfold idsP
  exact List.mem_map.2 ⟨lo[i], List.mem_filter.2 ⟨List.getElem_mem hi, hp⟩, rfl⟩
theorem idsP_count (h : Tof w b mo mf ma most last lo lf la) {p : Of → Bool} {i : Nat} (hi : i < lo.length) (hp : p lo[i].2.1 = true) : (idsP p lo).count lo[i].1 = 1 :=
  count_one ((idsP_rise p h.rise).imp (fun h e => by omega)) (idsP_has hi hp)
theorem idsP_got (h : Tof w b mo mf ma most last lo lf la) {p : Of → Bool} {k : Nat} (hk : k < (idsP p lo).length) : ∃ x, mget lo (idsP p lo)[k] = some x ∧ p x.1 = true := by
  obtain ⟨q, hq, e⟩ := List.mem_map.1 (List.getElem_mem hk)
  obtain ⟨h1, h2⟩ := List.mem_filter.1 hq
  refine ⟨q.2, ?_, h2⟩
  rw [← e]
  exact mget_mem h.nd h1
end
/-- Numbers at a row's place. -/
def NAt (w : World) (fa : Option Addr) (ids : List Int) : Prop := ∀ k (hk : k < ids.length), ∃ g, fa = some ⟨g, 0, none⟩ ∧ g < w.heap.size ∧ w.cell? ⟨g, k, none⟩ = some (.int .i64 ids[k])
theorem NAt.below {w w' : World} {fa : Option Addr} {ids : List Int} (h : NAt w fa ids) (hb : Below w.heap.size w w') : NAt w' fa ids := fun k hk => by
  obtain ⟨g, e, hg, hc⟩ := h k hk
  exact ⟨g, e, Nat.lt_of_lt_of_le hg hb.size, (cell_same (hb.block g hg) k).trans hc⟩
theorem IdsA.nums {ids : List Int} {w w' : World} {e : Ending} (h : IdsA ids w e w') : ∃ fa fc, e = .returned (.slice fa ids.length fc) ∧ Hid (NAt w' fa ids) ∧ Below w.heap.size w w' := by
  obtain ⟨v, rfl, ho, hb⟩ := h
  obtain ⟨fa, fc, rfl, hc⟩ := row_nums ho
  exact ⟨fa, fc, rfl, Lib.hid (fun k hk => by obtain ⟨g, h1, _, h2, h3⟩ := hc k hk; exact ⟨g, h1, h2, h3⟩), hb⟩
end Go.Proofs.Ytecgfghmmlpghaa.O
