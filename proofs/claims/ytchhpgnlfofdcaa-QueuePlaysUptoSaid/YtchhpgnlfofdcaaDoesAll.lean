/- does, whatever the act; the law of an act. -/
import Derived.Test.YtchhpgnlfofdcaaDoes1
import Derived.Test.YtchhpgnlfofdcaaDoes2
import Derived.Test.YtchhpgnlfofdcaaDoes3
import Derived.Test.YtchhpgnlfofdcaaDoes4
set_option linter.unusedVariables false
set_option linter.unusedSimpArgs false
namespace Go.Proofs.Ytchhpgnlfofdcaa.Q
open Go.RowKit Go.Proofs.Ytchhpgnlfofdcaa.Hp Go.Proofs.Ytchhpgnlfofdcaa.Mp

def doP (most : Int) (P : List (Int × Pl)) (a : Ac) : List (Int × Pl) :=
  if a.kind = 0 then openP P a.frame else if a.kind = 1 then mdel P a.frame else if a.kind = 2 then putsF most P a.evs else (takeP P a.frame a.n).1
def doA (most : Int) (A : List On) (a : Ac) : List On :=
  if a.kind = 0 then (openF A a.frame).1 else if a.kind = 1 then shutF A a.frame else if a.kind = 2 then putsO most A a.evs else (takeF A a.frame a.n).1
/-- No event in a queue has too many parts. -/
def Vo (A : List On) : Prop := ∀ x ∈ A, ∀ e ∈ x.evs, e.vec.length ≤ 700
theorem sim_do {most : Int} {P : List (Int × Pl)} {A : List On} (h : Sim most P A) (hm : 1 ≤ most) (a : Ac) : Sim most (doP most P a) (doA most A a) := by
  unfold doP doA
  split
  · exact (h.open (by omega) a.frame).2
  · split
    · exact (h.shut a.frame).1
    · split
      · exact (Sim.puts hm a.evs h).1
      · exact (takeP_sim h a.frame a.n).2
theorem Vo.putO {most : Int} {A : List On} (h : Vo A) {e : Ev} (he : e.vec.length ≤ 700) : Vo (putO most A e) := by
  unfold Q.putO
  cases hf : A.find? (·.frame == e.frame) with
  | none => exact h
  | some x =>
    have hx := h x (List.mem_of_find?_eq_some hf)
    intro y hy e' he'
    rcases withK_mem _ _ y hy with rfl | hy
    · have : e' ∈ x.evs ++ [e] := by
        unfold putN at he'
        split at he'
        · exact List.mem_of_mem_drop he'
        · exact he'
      rcases List.mem_append.1 this with h1 | h1
      · exact hx e' h1
      · obtain rfl : e' = e := by simpa using h1
        exact he
    · exact h y hy e' he'
theorem Vo.putsO {most : Int} : ∀ (es : List Ev) {A : List On}, Vo A → (∀ e ∈ es, e.vec.length ≤ 700) → Vo (putsO most A es)
  | [], A, h, _ => h
  | e :: es, A, h, he => Vo.putsO es (h.putO (he e List.mem_cons_self)) (fun e' he' => he e' (List.mem_cons_of_mem _ he'))
theorem vo_do {most : Int} {A : List On} (h : Vo A) (a : Ac) (he : ∀ e ∈ a.evs, e.vec.length ≤ 700) : Vo (doA most A a) := by
  unfold doA
  split
  · unfold openF
    split
    · exact h
    · intro y hy
      rcases withK_mem _ _ y hy with rfl | hy
      · simp
      · exact h y hy
  · split
    · exact fun y hy => h y (List.mem_filter.1 hy).1
    · split
      · exact Vo.putsO a.evs h he
      · unfold takeF
        cases hf : A.find? (·.frame == a.frame) with
        | none => exact h
        | some x =>
          have hx := h x (List.mem_of_find?_eq_some hf)
          simp only
          split
          · exact h
          · intro y hy
            rcases withK_mem _ _ y hy with rfl | hy
            · exact fun e he => hx e (List.mem_of_mem_drop he)
            · exact h y hy
theorem length_putF (most : Int) (P : List (Int × Pl)) (e : Ev) : (putF most P e).length = P.length := by
  unfold putF
  cases hg : mget P e.frame with
  | none => rfl
  | some p => simp only; rw [length_mput, hg]; rfl
theorem length_putsF (most : Int) : ∀ (es : List Ev) (P : List (Int × Pl)), (putsF most P es).length = P.length
  | [], P => rfl
  | e :: es, P => by
    have := length_putsF most es (putF most P e)
    rw [length_putF] at this
    exact this
theorem length_do (most : Int) (P : List (Int × Pl)) (a : Ac) : (doP most P a).length ≤ P.length + 1 := by
  unfold doP
  split
  · unfold openP
    split
    · rw [length_mput]; split <;> omega
    · omega
  · split
    · cases hg : mget P a.frame with
      | none => rw [mdel_none hg]; omega
      | some p => have := length_mdel (l := P) (k := a.frame) (by rw [hg]; rfl); omega
    · split
      · rw [length_putsF]; omega
      · unfold takeP
        cases hg : mget P a.frame with
        | none => simp
        | some p => simp only; rw [length_mput]; split <;> omega
theorem DAns.mono {b m : Nat} {most : Int} {l : List (Int × Qr)} {w : World} {P : List (Int × Pl)} {A : List On} {c d : Nat} (hcd : c ≤ d) {e : Ending} {w' : World} (h : DAns b m most l w P A c e w') : DAns b m most l w P A d e w' := by
  obtain ⟨sl, l', h1, h2, h3, h4, h5⟩ := h
  exact ⟨sl, l', h1, h2, h3, h4.mono hcd, h5⟩
theorem does_calls (b m : Nat) (most : Int) (l : List (Int × Qr)) (A : List On) (xs : List Oe) (fa : Option Addr) (g fc : Nat) (a : Ac) (ea : Option Addr) (ec c : Nat) (w : World) (hT : Tq w b m most l) (hm : 1 ≤ most) (hsim : Sim most (abs l) A) (hbd : Bd c l) (hxs : xs.map (·.1) = A) (hlen : A.length + a.evs.length ≤ 900) (hcl : c + a.evs.length ≤ 900) (hM : MAt (Fr w m l) w fa g xs) (hev : ERow (Fr w m l) w ea a.evs) (hvec : ∀ e ∈ a.evs, e.vec.length ≤ 700) (hvo : Vo A) :
    Calls Try.prog 16 #[.pointer (some ⟨b, 0, none⟩), .agg #[.int .i64 most, .slice fa xs.length fc], .agg #[.int .i64 a.kind, .int .i64 a.frame, .int .i64 a.n, .slice ea a.evs.length ec]] w (DAns b m most l w (doP most (abs l) a) (doA most A a) (c + a.evs.length)) := by
  unfold doP doA
  split
  · rename_i h0
    exact (does_open b m most l A xs fa g fc a ea ec c w hT hm hsim hbd hxs (by omega) hM h0).mono fun e w' h => h.mono (by omega)
  · rename_i h0
    split
    · rename_i h1
      exact (does_shut b m most l A xs fa g fc a ea ec c w hT hm hsim hbd hxs (by omega) hM h1).mono fun e w' h => h.mono (by omega)
    · rename_i h1
      split
      · rename_i h2
        exact does_put b m most l A xs fa g fc a ea ec c w hT hm hsim hbd hxs hlen hcl hev hvec hM h2
      · rename_i h2
        have ht : (takeP (abs l) a.frame a.n).2.length ≤ 900 ∧ ∀ e ∈ (takeP (abs l) a.frame a.n).2, e.vec.length ≤ 900 := by
          unfold takeP
          cases hg : mget (abs l) a.frame with
          | none => simp
          | some p =>
            obtain ⟨x, hx1, hx2, hx3, hx4⟩ := hsim.of_get hg
            have hbo := bdO_of hT hbd hsim x hx2
            have hv := hvo x hx2
            have hp : p.1 = x.evs := by rw [← hx4]; rfl
            simp only
            rw [hp]
            refine ⟨by rw [List.length_take]; omega, fun e he => ?_⟩
            have := hv e (List.mem_of_mem_take he)
            omega
        exact (does_take b m most l A xs fa g fc a ea ec c w hT hm hsim hbd hxs (by omega) hM (by omega) ht.1 ht.2 h0 h1 h2).mono fun e w' h => h.mono (by omega)
/-- What lies where there are less than three cells is no part of an answer. -/
theorem PAt.ne {T : Nat → Prop} {w : World} {va : Option Addr} {vec : List Pt} {M : Nat} {x y : Value} {t : TypeId} (h : PAt T w va vec) (hM : w.heap[M]? = some (.cells #[x, y] t (0, 0))) : PAt (fun i => T i ∧ i ≠ M) w va vec := by
  obtain ⟨g, o, h1, h2⟩ := h
  refine ⟨g, o, fun hl => ⟨(h1 hl).1, (h1 hl).2, fun e => ?_⟩, h2⟩
  subst e
  match vec, hl with
  | p :: ps, _ =>
    have := h2 2 (.int .i64 p.amount) rfl
    rw [blk_cell hM] at this
    simp at this
theorem ERow.ne {T : Nat → Prop} {w : World} {fa : Option Addr} {es : List Ev} {M : Nat} {x y : Value} {t : TypeId} (h : ERow T w fa es) (hM : w.heap[M]? = some (.cells #[x, y] t (0, 0))) : ERow (fun i => T i ∧ i ≠ M) w fa es := by
  obtain ⟨g, o, h1, h2⟩ := h
  refine ⟨g, o, fun hl => ⟨(h1 hl).1, (h1 hl).2, fun e => ?_⟩, fun j hj => ?_⟩
  · subst e
    obtain ⟨va, vc, he⟩ := h2 0 hl
    have := he.c2
    rw [blk_cell hM] at this
    simp at this
  · obtain ⟨va, vc, he⟩ := h2 j hj
    exact ⟨va, vc, he.c0, he.c1, he.c2, he.c3, he.c4, he.vec.ne hM⟩
theorem MAt.ne {T : Nat → Prop} {w : World} {fa : Option Addr} {g : Nat} {xs : List Oe} {M : Nat} {x y : Value} {t : TypeId} (h : MAt T w fa g xs) (hM : w.heap[M]? = some (.cells #[x, y] t (0, 0))) : MAt (fun i => T i ∧ i ≠ M) w fa g xs := by
  refine ⟨fun hl => ⟨(h.lt hl).1, (h.lt hl).2, fun e => ?_⟩, h.at', fun z hz => ⟨(h.evs z hz).row.ne hM, (h.evs z hz).le⟩⟩
  subst e
  have := (h.cells 0 hl).2.2
  rw [blk_cell hM] at this
  simp at this
end Go.Proofs.Ytchhpgnlfofdcaa.Q
