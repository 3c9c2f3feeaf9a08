/- Numbers that came in, opened. -/
import Derived.Test.YtchhpgnlfofdcaaOpen
import Derived.Test.YtchhpgnlfofdcaaCuts
import Derived.ChangeSlices
set_option linter.unusedVariables false
set_option linter.unusedSimpArgs false
namespace Go.Proofs.Ytchhpgnlfofdcaa.RowQ
open Go.Proofs Go.Proofs.Ytchhpgnlfofdcaa Go.Proofs.Ytchhpgnlfofdcaa.Q
open Go.ChangeShapes Go.WideShapes Go.ChangeAt Go.RowKit Go.Joins Go.Deep
theorem open_nums {H : Type} {enc : TypeId × Value → H} {W : World} {sp : Nat → Bool} {fuel : Nat} {cs : List Value} {x : DataW H × List MemPlace} (h : DataW.trod enc Try.prog W 0 sp true fuel 40 cs = some x) :
    ∃ (pa : Option Addr) (g o pc : Nat) (ps : List Int), cs = [.slice pa ps.length pc] ∧ IAt (Lt W.heap.size) W pa g o ps := by
  rcases open_slice Try.underlying40 h with ⟨h0, _⟩ | ⟨a, len, cap, m, n, D, Pl, h0, hb, hl, hm, hmm, _, hx⟩
  · exact ⟨none, 0, 0, 0, [], h0, fun h => by simp at h, fun j hj => by simp at hj⟩
  have hlm : len ≤ m := by rw [hmm]; split <;> omega
  have each : ∀ i, i < m → ∃ q : Int, W.cell? (a.add (i * 1)) = some (.int .i64 q) := by
    intro i hi
    obtain ⟨cs', h1, h2⟩ := hx i hi
    rw [cells3] at h1
    obtain ⟨_, hlen, hcell⟩ := World.cells?_some h1
    obtain ⟨n', e, _, _⟩ := DataW.trod_int Try.underlying3 h2
    subst e
    have c0 := hcell 0 (by omega)
    rw [add_add] at c0
    exact ⟨n', by simpa using c0⟩
  obtain ⟨q, hq⟩ := choose_lt each
  obtain ⟨b, o, spot⟩ := a
  have hs : 0 < len → spot = none := fun h0 => by
    have := World.cell?_spot (hq 0 (by omega))
    simpa [Addr.add] using this
  refine ⟨some ⟨b, o, spot⟩, b, o, cap, tab q len, by rw [tab_length]; exact h0, fun h0 => ?_, fun j hj => ?_⟩
  · rw [tab_length] at h0
    obtain rfl := hs h0
    have c0 := hq 0 (by omega)
    simp only [Go.WideShapes.add_plain] at c0
    exact ⟨rfl, World.block_lt_of_cell? _ _ c0⟩
  · rw [tab_length] at hj
    obtain rfl := hs (by omega)
    have c0 := hq j (by omega)
    simp only [Go.WideShapes.add_plain] at c0
    rw [tab_get]
    simpa using c0
end Go.Proofs.Ytchhpgnlfofdcaa.RowQ
