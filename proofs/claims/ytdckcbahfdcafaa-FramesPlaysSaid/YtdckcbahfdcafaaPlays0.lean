/- FramesPlays: what its walk keeps to; contracts in the reference's words. -/
import Derived.Test.YtdckcbahfdcafaaLaw2
import Derived.Test.YtdckcbahfdcafaaRef16
import Derived.Test.YtdckcbahfdcafaaWeightNo
import Derived.Test.YtdckcbahfdcafaaOfNil
set_option linter.unusedVariables false
set_option linter.unusedSimpArgs false
namespace Go.Proofs.Ytdckcbahfdcafaa.F
open Go.RowKit Go.Sort Go.Proofs.Ytdckcbahfdcafaa.Hp Go.Proofs.Ytdckcbahfdcafaa.Mp

theorem below_drew {B : Nat} {a w : World} (h : Below B a w) : Below B a w.drew := ⟨h.os, h.tape, h.output, h.size, h.block⟩
section
variable {w wr w1 w' : World} {B base : Nat} {e : TypeId} {size n : Nat} {v : Value} {xs : List Value} {fs : List Fr}
theorem row_below (h : w.ownsRow base e size v n xs) (hb : Below B w w') (hB : w.heap.size ≤ B) : w'.ownsRow base e size v n xs :=
  ⟨h.1, h.2.imp id fun ⟨g, cap, cur, e1, e2, e3, e4⟩ => ⟨g, cap, cur, e1, e2, (hb.block g (by have := blk_lt e3; omega)).trans e3, e4⟩⟩
theorem row_chg2 {S : Nat → Prop} (h : w.ownsRow base e size v n xs) (hc : Chg S w w') (hS : ∀ i, S i → i < base) : w'.ownsRow base e size v n xs :=
  ⟨h.1, h.2.imp id fun ⟨g, cap, cur, e1, e2, e3, e4⟩ => ⟨g, cap, cur, e1, e2, hc.blk e3 (fun hs => by have := hS g hs; omega), e4⟩⟩
theorem RowAt.of_own (h : w.ownsRow base 30 7 v fs.length (flatF fs)) : ∃ fa g fc, v = .slice fa fs.length fc ∧ RowAt w fa g fs := by
  obtain ⟨fa, g, fc, e, h1, h2⟩ := frow_cell h
  exact ⟨fa, g, fc, e, fun hl => ⟨(h1 hl).1, (h1 hl).2.2⟩, h2⟩
theorem slice_of (h : w.ownsRow base e size v n xs) : ∃ fa fc, v = .slice fa n fc := by
  rcases h.2 with ⟨rfl, rfl⟩ | ⟨g, cap, cur, rfl, _⟩
  · exact ⟨_, _, rfl⟩
  · exact ⟨_, _, rfl⟩
end

/-- Where the loop of FramesPlays is: the reference's table lies in block M. -/
structure PSt (w wr : World) (M : Nat) (cap : Int) (j : Nat) (l : List (Int × Fr)) (R : List (Int × Int)) (fs : List Fr) (v : Value) : Prop where
  st : St w wr cap j l R
  le : w.heap.size + 2 ≤ M
  mb : wr.heap[M]? = some (.cells #[.int .i64 cap, v] 41 (0, 0))
  own : wr.ownsRow (M + 1) 30 7 v fs.length (flatF fs)
  sim : Sim l fs
section
variable {w wr w1 w' : World} {M j : Nat} {cap : Int} {l : List (Int × Fr)} {R : List (Int × Int)} {fs : List Fr} {v : Value}
theorem PSt.below (h : PSt w wr M cap j l R fs v) (hb : Below wr.heap.size wr w') : PSt w w' M cap j l R fs v :=
  ⟨⟨h.st.tab.below hb, h.st.inv, h.st.len, h.st.chg.trans (hb.mono h.st.chg.size)⟩, h.le, (hb.block M (blk_lt h.mb)).trans h.mb, row_below h.own hb (Nat.le_refl _), h.sim⟩
theorem PSt.atM (h : PSt w wr M cap j l R fs v) : wr.cell? ⟨M, 0, none⟩ = some (.int .i64 cap) ∧ wr.cell? ⟨M, 1, none⟩ = some v ∧ wr.frozen? ⟨M, 0, none⟩ = false ∧ wr.frozen? ⟨M, 1, none⟩ = false :=
  ⟨blk_cell h.mb 0, blk_cell h.mb 1, blk_frozen h.mb 0, blk_frozen h.mb 1⟩
theorem PSt.rdo {fa : Option Addr} {g fc : Nat} (H : PSt w wr M cap j l R fs (.slice fa fs.length fc)) (hrow : RowAt wr fa g fs) (hlen : fs.length ≤ 900) (a : A) (W : World) (hW : Below wr.heap.size wr W) :
    Calls Try.prog 12 #[.agg #[.int .i64 cap, .slice fa fs.length fc], encA a] W fun e w' => ∃ va vc, e = .returned (.tuple #[.agg #[.int .i64 cap, .slice va (rdoF cap fs a).2.length vc], .bool (rdoF cap fs a).1.1, .int .i64 (rdoF cap fs a).1.2]) ∧
      w'.ownsRow (M + 1) 30 7 (.slice va (rdoF cap fs a).2.length vc) (rdoF cap fs a).2.length (flatF (rdoF cap fs a).2) ∧ Below wr.heap.size wr w' ∧ Below W.heap.size W w' := by
  refine (rdo_calls cap fa g fc fs a W (hrow.below hW (Nat.le_refl _)) hlen (times_good H.sim H.st.inv)).mono fun e w' ⟨v, e1, e2, e3⟩ => ?_
  have hB := hW.trans (e3.mono hW.size)
  have hM := blk_lt H.mb
  rcases e2 with ⟨rfl, h2⟩ | h2
  · rw [h2]
    refine ⟨_, _, e1, ?_, hB, e3⟩
    exact row_below H.own hB (Nat.le_refl _)
  · obtain ⟨va, vc, rfl⟩ := slice_of h2
    exact ⟨_, _, e1, row_base h2 (by have := hW.size; omega), hB, e3⟩
theorem row_other {cs : Array Value} {base n : Nat} {v : Value} {xs : List Value} (h : w.ownsRow base 30 7 v n xs) {P : Nat} (hb : w.heap[P]? = some (.cells cs 41 (0, 0))) (j : Nat) (u : Value) : (w.setCell ⟨P, j, none⟩ u).ownsRow base 30 7 v n xs :=
  ⟨h.1, h.2.imp id fun ⟨g, cap, cur, e1, e2, e3, e4⟩ => ⟨g, cap, cur, e1, e2, blk_far e3 (fun e => by simp only at e; rw [e] at e3; rw [hb] at e3; simp at e3) u, e4⟩⟩
theorem PSt.store {v' : Value} {fs' : List Fr} (hst : St w w1 cap j l R) (hle : w.heap.size + 2 ≤ M) (hmb : w1.heap[M]? = some (.cells #[.int .i64 cap, v] 41 (0, 0))) (hown : w1.ownsRow (M + 1) 30 7 v' fs'.length (flatF fs')) (hs : Sim l fs') :
    PSt w ((w1.setCell ⟨M, 0, none⟩ (.int .i64 cap)).setCell ⟨M, 1, none⟩ v') M cap j l R fs' v' := by
  refine ⟨⟨(hst.tab.far (by simp; omega) (by simp; omega) _).far (by simp; omega) (by simp; omega) _, hst.inv, hst.len, (hst.chg.setCell (by simp; omega) _).setCell (by simp; omega) _⟩, hle, blk_set (blk_set hmb 0 _) 1 _, row_far (row_far hown (by simp) _) (by simp) _, hs⟩
theorem PSt.flen (h : PSt w wr M cap j l R fs v) : fs.length = l.length := h.sim.length h.st.inv.nodup
end
/-- A value that reads as a list of numbers. -/
def IRow (w : World) (v : Value) (xs : List Int) : Prop := ∃ (fa : Option Addr) (g fc : Nat), v = .slice fa xs.length fc ∧ (0 < xs.length → fa = some ⟨g, 0, none⟩ ∧ g < w.heap.size) ∧ ∀ j (hj : j < xs.length), w.cell? ⟨g, 0 + j, none⟩ = some (.int .i64 xs[j])
theorem IRow.of_own {w : World} {base : Nat} {e : TypeId} {v : Value} {xs : List Int} (h : w.ownsRow base e 1 v xs.length (xs.map (Value.int .i64))) : IRow w v xs := by
  obtain ⟨fa, g, fc, e1, h1, h2⟩ := row_cell h
  exact ⟨fa, g, fc, e1, fun hl => ⟨(h1 hl).1, (h1 hl).2.2⟩, h2⟩
theorem IRow.below {w w' : World} {v : Value} {xs : List Int} (h : IRow w v xs) (hb : Below w.heap.size w w') : IRow w' v xs := by
  obtain ⟨fa, g, fc, e, h1, h2⟩ := h
  exact ⟨fa, g, fc, e, fun hl => ⟨(h1 hl).1, by have := hb.size; have := (h1 hl).2; omega⟩, fun j hj => below_cell hb (h1 (by omega)).2 (h2 j hj)⟩
theorem Row.below' {w w' : World} {v : Value} {fs : List Fr} (h : Row w v fs) (hb : Below w.heap.size w w') : Row w' v fs := h.below hb (Nat.le_refl _)

section
variable {b m : Nat} {cap : Int} {l : List (Int × Fr)} {R : List (Int × Int)} {fs : List Fr}
theorem weight_any (role : Int) (w : World) (h : Tab w b m cap l R) (hI : Inv cap l R) (hs : Sim l fs) :
    Calls Try.prog 15 #[.pointer (some ⟨b, 0, none⟩), .int .i64 role] w fun e w' => e = .returned (.tuple #[.int .i64 (weightF fs role), .bool (decide (0 < weightF fs role))]) ∧ w = w' := by
  by_cases hr : 1 ≤ role ∧ role ≤ 32
  · obtain ⟨r, rfl⟩ := Int.eq_ofNat_of_zero_le (show 0 ≤ role by omega)
    obtain ⟨p, hp, hp1, hp2⟩ := hs.weight hI r (by omega)
    obtain ⟨p1, p2⟩ := p
    simp only at hp1 hp2
    rcases hp2 with ⟨e1, e2⟩ | ⟨e1, e2, e3⟩
    · rw [e2]
      subst e1
      exact weight_zero r ⟨by omega, by omega⟩ p2 w h hp
    · rw [e2, decide_eq_true (show 0 < p2 by omega)]
      exact weight_calls r ⟨by omega, by omega⟩ p1 p2 w h hp (by omega)
  · rw [weightF_nobody (fs := fs) (role := role) (fun g hg e => by have := hI.each _ g (hs.mem hg); have h1 := this.role1; have h2 := this.role2; omega)]
    exact weight_out role (by omega) w h
theorem of_any (hS : SortC) (hD : DelC) (role : Int) (w : World) (h : Tab w b m cap l R) (hI : Inv cap l R) (hs : Sim l fs) (hlen : l.length ≤ 900) :
    Calls Try.prog 22 #[.pointer (some ⟨b, 0, none⟩), .int .i64 role] w fun e w' => ∃ v, e = .returned v ∧ IRow w' v (refOfF fs role) ∧ Below w.heap.size w w' := by
  by_cases hne : l = []
  · subst hne
    have hf : fs = [] := List.eq_nil_of_length_eq_zero (by have := hs.length (by simp); simpa using this)
    subst hf
    exact (of_nil hS role w h).mono fun e w' ⟨p, c, e1, e2⟩ => ⟨_, e1, ⟨p, 0, c, rfl, fun hh => by simp [refOfF] at hh, fun j hj => by simp [refOfF] at hj⟩, e2⟩
  · refine (of_calls hS hD role w h hI.nodup hlen hne).mono fun e w' ⟨v, ss, e1, e2, e3, e4, e5⟩ => ⟨v, e1, ?_, e5⟩
    rw [own_eq hs hI.nodup e2 e3] at e4
    exact IRow.of_own e4
theorem all_any (hS : SortC) (w : World) (h : Tab w b m cap l R) (hI : Inv cap l R) (hs : Sim l fs) (hlen : l.length ≤ 900) :
    Calls Try.prog 20 #[.pointer (some ⟨b, 0, none⟩)] w fun e w' => ∃ v, e = .returned v ∧ Row w' v fs ∧ Below w.heap.size w w' := by
  refine (all_calls hS w h hI.nodup hlen).mono fun e w' ⟨v, ss, e1, e2, e3, e4, e5⟩ => ⟨v, e1, ?_, e5⟩
  rw [all_eq hs hI.nodup e2 e3] at e4
  exact Row.of_own e4
theorem roles_any (w : World) (h : Tab w b m cap l R) (hI : Inv cap l R) (hs : Sim l fs) :
    Calls Try.prog 16 #[.pointer (some ⟨b, 0, none⟩)] w fun e w' => ∃ v, e = .returned v ∧ IRow w' v (refRolesF fs 32) ∧ Below w.heap.size w w' := by
  refine (roles_calls w h).mono fun e w' ⟨v, e1, e2, e3⟩ => ⟨v, e1, ?_, e3⟩
  rw [roles_eq hs hI 32 (by omega)]
  exact IRow.of_own e2
theorem got_any (hs : Sim l fs) (id : Int) : got l id = (fs.find? (·.id == id)).getD Fr.zero ∧ (mget l id).isSome = decide (0 ≤ atF fs id) := by
  unfold got
  rw [← hs.find]
  refine ⟨rfl, ?_⟩
  rcases at_cases fs id with ⟨hf, he⟩ | ⟨k, f, hk, hf, he, hfk, hid⟩
  · rw [hf, he]; rfl
  · rw [hf, he]
    exact (decide_eq_true (show (0 : Int) ≤ (k : Int) by omega)).symm
end
end Go.Proofs.Ytdckcbahfdcafaa.F
