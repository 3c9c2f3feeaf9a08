/- The table that works tries, between its steps. No walk. -/
import Derived.Test.YtecgfghmmlpghaaSum
import Derived.Test.YtecgfghmmlpghaaIssue2
import Derived.Test.YtecgfghmmlpghaaClose
set_option linter.unusedVariables false
namespace Go.Proofs.Ytecgfghmmlpghaa.O
open Go.RowKit Go.Proofs.Ytecgfghmmlpghaa.Hp Go.Proofs.Ytecgfghmmlpghaa.Mp
/-- A table of one's own, and parts beside it. -/
structure Wks (w : World) (b mo mf ma : Nat) (most last : Int) (lo : List (Int × Ox)) (lf la : List (Int × Nat)) (v : Nat) (vec : List Pt) (W : World) : Prop where
  t : Tof W b mo mf ma most last lo lf la
  own : ∀ i, Own b mo mf ma lf la i → w.heap.size ≤ i
  vec : PAt (fun i => i = v) W (some ⟨v, 0, none⟩) vec
  nv : ¬ Own b mo mf ma lf la v
  lt : v < W.heap.size
  b : Below w.heap.size w W
section
variable {w W W' : World} {b mo mf ma v : Nat} {most last : Int} {lo : List (Int × Ox)} {lf la : List (Int × Nat)} {vec : List Pt}
theorem Wks.below (h : Wks w b mo mf ma most last lo lf la v vec W) (hb : Below W.heap.size W W') : Wks w b mo mf ma most last lo lf la v vec W' :=
  ⟨h.t.below hb, h.own, h.vec.keep (fun i hi => hb.block i (by rw [hi]; exact h.lt)) (fun _ h => h), h.nv, Nat.lt_of_lt_of_le h.lt hb.size, h.b.trans (hb.mono h.b.size)⟩
theorem Wks.chg {last' : Int} {lo' : List (Int × Ox)} {lf' la' : List (Int × Nat)} (h : Wks w b mo mf ma most last lo lf la v vec W) (ht : Tof W' b mo mf ma most last' lo' lf' la') (ho : ∀ i, Own b mo mf ma lf' la' i → Own b mo mf ma lf la i ∨ W.heap.size ≤ i) (hc : Chg (Own b mo mf ma lf la) W W') : Wks w b mo mf ma most last' lo' lf' la' v vec W' :=
  ⟨ht, fun i hi => by
    rcases ho i hi with h1 | h1
    · exact h.own i h1
    · exact Nat.le_trans h.b.size h1, h.vec.keep (fun i hi => by subst hi; exact hc.block _ h.lt h.nv) (fun _ h => h), fun hv => by
    rcases ho v hv with h1 | h1
    · exact h.nv h1
    · have := h.lt; omega, Nat.lt_of_lt_of_le h.lt hc.size, h.b.trans (hc.below h.own h.b.size)⟩
end
end Go.Proofs.Ytecgfghmmlpghaa.O
