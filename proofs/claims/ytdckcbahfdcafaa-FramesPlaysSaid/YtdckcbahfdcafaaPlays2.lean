/- FramesPlays: contracts for what stands behind the loop, at any world behind a given one. -/
import Derived.Test.YtdckcbahfdcafaaPlays0
set_option linter.unusedVariables false
set_option linter.unusedSimpArgs false
namespace Go.Proofs.Ytdckcbahfdcafaa.F
open Go.RowKit Go.Sort Go.Proofs.Ytdckcbahfdcafaa.Hp Go.Proofs.Ytdckcbahfdcafaa.Mp

/-- Numbers at a slice's place. -/
def IAt (w : World) (fa : Option Addr) (xs : List Int) : Prop := ∃ g, (0 < xs.length → fa = some ⟨g, 0, none⟩ ∧ g < w.heap.size) ∧ ∀ j (hj : j < xs.length), w.cell? ⟨g, 0 + j, none⟩ = some (.int .i64 xs[j])
theorem IAt.below {w w' : World} {fa : Option Addr} {xs : List Int} {B : Nat} (h : IAt w fa xs) (hb : Below B w w') (hB : w.heap.size ≤ B) : IAt w' fa xs := by
  obtain ⟨g, h1, h2⟩ := h
  exact ⟨g, fun hl => ⟨(h1 hl).1, by have := hb.size; have := (h1 hl).2; omega⟩, fun j hj => below_cell hb (show g < B by have := (h1 (by omega)).2; omega) (h2 j hj)⟩
/-- Frameworks at a slice's place. -/
def FAt (w : World) (fa : Option Addr) (fs : List Fr) : Prop := ∃ g, RowAt w fa g fs
theorem FAt.mk {w : World} {fa : Option Addr} {g : Nat} {fs : List Fr} (h : RowAt w fa g fs) : FAt w fa fs := ⟨g, h⟩
theorem FAt.below {w w' : World} {fa : Option Addr} {fs : List Fr} {B : Nat} (h : FAt w fa fs) (hb : Below B w w') (hB : w.heap.size ≤ B) : FAt w' fa fs := by
  obtain ⟨g, h1⟩ := h
  exact ⟨g, h1.below hb hB⟩
/-- An answer that is a row of numbers. -/
def IAns (w0 W : World) (xs : List Int) (e : Ending) (w' : World) : Prop := ∃ va vc, e = .returned (.slice va xs.length vc) ∧ IAt w' va xs ∧ Below w0.heap.size w0 w' ∧ Below W.heap.size W w'
section
variable {w w0 : World} {M j : Nat} {cap : Int} {l : List (Int × Fr)} {R : List (Int × Int)} {fs : List Fr} {v : Value} {fa : Option Addr} {g fc : Nat}
theorem IAns.of {W : World} {xs : List Int} {e : Ending} {w' : World} (hW : Below w0.heap.size w0 W) (h : ∃ v, e = .returned v ∧ IRow w' v xs ∧ Below W.heap.size W w') : IAns w0 W xs e w' := by
  obtain ⟨v, e1, ⟨fa, g, fc, e2, h1, h2⟩, e3⟩ := h
  subst e2
  exact ⟨fa, fc, e1, ⟨g, h1, h2⟩, hW.trans (e3.mono hW.size), e3⟩
theorem PSt.tabAt (H : PSt w w0 M cap j l R fs v) {W : World} (hW : Below w0.heap.size w0 W) : Tab W (w.heap.size + 1) w.heap.size cap l R := H.st.tab.below hW
theorem PSt.roles (H : PSt w w0 M cap j l R fs v) (W : World) (hW : Below w0.heap.size w0 W) :
    Calls Try.prog 16 #[.pointer (some ⟨w.heap.size + 1, 0, none⟩)] W (IAns w0 W (refRolesF fs 32)) :=
  (roles_any W (H.tabAt hW) H.st.inv H.sim).mono fun e w' h => IAns.of hW h
theorem PSt.refRoles (hr : RowAt w0 fa g fs) (hlen : fs.length ≤ 900) (W : World) (hW : Below w0.heap.size w0 W) :
    Calls Try.prog 17 #[.agg #[.int .i64 cap, .slice fa fs.length fc]] W (IAns w0 W (refRolesF fs 32)) := by
  have h := hr.below hW (Nat.le_refl _)
  exact (refRoles_calls cap fa g fc fs W hlen h.lt h.at').mono fun e w' ⟨v, e1, e2, e3⟩ => IAns.of hW ⟨v, e1, IRow.of_own e2, e3⟩
theorem PSt.ofs (hS : SortC) (hD : DelC) (H : PSt w w0 M cap j l R fs v) (hlen : l.length ≤ 900) (role : Int) (W : World) (hW : Below w0.heap.size w0 W) :
    Calls Try.prog 22 #[.pointer (some ⟨w.heap.size + 1, 0, none⟩), .int .i64 role] W (IAns w0 W (refOfF fs role)) :=
  (of_any hS hD role W (H.tabAt hW) H.st.inv H.sim hlen).mono fun e w' h => IAns.of hW h
theorem PSt.refOf (hr : RowAt w0 fa g fs) (hlen : fs.length ≤ 900) (role : Int) (W : World) (hW : Below w0.heap.size w0 W) :
    Calls Try.prog 23 #[.agg #[.int .i64 cap, .slice fa fs.length fc], .int .i64 role] W (IAns w0 W (refOfF fs role)) := by
  have h := hr.below hW (Nat.le_refl _)
  exact (refOf_calls cap role fa g fc fs W hlen h.lt h.at').mono fun e w' ⟨v, e1, e2, e3⟩ => IAns.of hW ⟨v, e1, IRow.of_own e2, e3⟩
theorem PSt.alls (hS : SortC) (H : PSt w w0 M cap j l R fs v) (hlen : l.length ≤ 900) (W : World) (hW : Below w0.heap.size w0 W) :
    Calls Try.prog 20 #[.pointer (some ⟨w.heap.size + 1, 0, none⟩)] W fun e w' => ∃ va vc, e = .returned (.slice va fs.length vc) ∧ FAt w' va fs ∧ Below w0.heap.size w0 w' :=
  (all_any hS W (H.tabAt hW) H.st.inv H.sim hlen).mono fun e w' ⟨v, e1, ⟨fa, g, fc, e2, h1, h2⟩, e3⟩ => by
    subst e2
    exact ⟨fa, fc, e1, ⟨g, h1, h2⟩, hW.trans (e3.mono hW.size)⟩
theorem same_at (fa fa' : Option Addr) (fc fc' : Nat) (W : World) (hlen : fs.length ≤ 900) (h1 : FAt W fa fs) (h2 : FAt W fa' fs) (hW : Below w0.heap.size w0 W) :
    Calls Try.prog 19 #[.slice fa fs.length fc, .slice fa' fs.length fc'] W fun e w' => e = .returned (.bool true) ∧ Below w0.heap.size w0 w' := by
  obtain ⟨g, h1⟩ := h1
  obtain ⟨g', h2⟩ := h2
  exact (same_calls fa fa' g g' fc fc' fs W hlen h1.lt h1.at' h2.lt h2.at').mono fun e w' ⟨e1, e2⟩ => ⟨e1, hW.trans (e2.mono hW.size)⟩
theorem sameIDs_at (fa fa' : Option Addr) (fc fc' : Nat) (xs : List Int) (W : World) (hlen : xs.length ≤ 900) (h1 : IAt W fa xs) (h2 : IAt W fa' xs) (hW : Below w0.heap.size w0 W) :
    Calls Try.prog 21 #[.slice fa xs.length fc, .slice fa' xs.length fc'] W fun e w' => e = .returned (.bool true) ∧ Below w0.heap.size w0 w' := by
  obtain ⟨g, h1, k1⟩ := h1
  obtain ⟨g', h2, k2⟩ := h2
  exact (sameIDs_calls fa fa' g g' fc fc' xs W hlen h1 k1 h2 k2).mono fun e w' ⟨e1, e2⟩ => ⟨e1, hW.trans (e2.mono hW.size)⟩
theorem works_at (W : World) (hW : Below w0.heap.size w0 W) : Calls Try.prog 10 #[] W fun e w' => e = .returned (.bool true) ∧ Below w0.heap.size w0 w' :=
  (works_calls W).mono fun e w' ⟨e1, e2⟩ => ⟨e1, hW.trans (e2.mono hW.size)⟩
end
end Go.Proofs.Ytdckcbahfdcafaa.F
