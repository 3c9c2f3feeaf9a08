/- A table of one's own in a loop over acts. No walk. -/
import Derived.Test.YtecgfghmmlpghaaIssue2
import Derived.Test.YtecgfghmmlpghaaClose
import Derived.Test.YtecgfghmmlpghaaActs
set_option linter.unusedVariables false
namespace Go.Proofs.Ytecgfghmmlpghaa.O
open Go.RowKit Go.Proofs.Ytecgfghmmlpghaa.Hp Go.Proofs.Ytecgfghmmlpghaa.Mp
/-- A table of one's own. -/
structure Ons (w : World) (b mo mf ma : Nat) (most last : Int) (lo : List (Int × Ox)) (lf la : List (Int × Nat)) (W : World) : Prop where
  t : Tof W b mo mf ma most last lo lf la
  own : ∀ i, Own b mo mf ma lf la i → w.heap.size ≤ i
  short : ∀ p ∈ lo, p.2.1.vec.length ≤ 700
  b : Below w.heap.size w W
section
variable {w W W' : World} {b mo mf ma : Nat} {most last : Int} {lo : List (Int × Ox)} {lf la : List (Int × Nat)}
theorem Ons.start (h : Tof W (w.heap.size + 3) w.heap.size (w.heap.size + 1) (w.heap.size + 2) most 0 [] [] []) (hb : Below w.heap.size w W) : Ons w (w.heap.size + 3) w.heap.size (w.heap.size + 1) (w.heap.size + 2) most 0 [] [] [] W :=
  ⟨h, fun i hi => by
    rcases hi with rfl | rfl | (rfl | ⟨k, hk⟩) | (rfl | ⟨k, hk⟩)
    · omega
    · omega
    · omega
    · simp [mget] at hk
    · omega
    · simp [mget] at hk, fun p hp => (by simp at hp), hb⟩
theorem Ons.below (h : Ons w b mo mf ma most last lo lf la W) (hb : Below W.heap.size W W') : Ons w b mo mf ma most last lo lf la W' :=
  ⟨h.t.below hb, h.own, h.short, h.b.trans (hb.mono h.b.size)⟩
theorem Ons.chg {last' : Int} {lo' : List (Int × Ox)} {lf' la' : List (Int × Nat)} (h : Ons w b mo mf ma most last lo lf la W) (ht : Tof W' b mo mf ma most last' lo' lf' la') (hs : ∀ p ∈ lo', p.2.1.vec.length ≤ 700) (ho : ∀ i, Own b mo mf ma lf' la' i → Own b mo mf ma lf la i ∨ W.heap.size ≤ i) (hc : Chg (Own b mo mf ma lf la) W W') : Ons w b mo mf ma most last' lo' lf' la' W' :=
  ⟨ht, fun i hi => by
    rcases ho i hi with h1 | h1
    · exact h.own i h1
    · exact Nat.le_trans h.b.size h1, hs, h.b.trans (hc.below h.own h.b.size)⟩
theorem Ons.acts {T : Nat → Prop} {fa : Option Addr} {g o : Nat} {ls : List Ac} (h : Ons w b mo mf ma most last lo lf la W) (ha : AAt T w fa g o ls) (hT : ∀ i, T i → i < w.heap.size) : AAt T W fa g o ls :=
  ha.keep (fun i hi => h.b.block i (hT i hi)) (fun _ h => h)
theorem Ons.far {T : Nat → Prop} (h : Ons w b mo mf ma most last lo lf la W) (hT : ∀ i, T i → i < w.heap.size) : ∀ i, T i → i < W.heap.size ∧ ¬ Own b mo mf ma lf la i := fun i hi =>
  ⟨Nat.lt_of_lt_of_le (hT i hi) h.b.size, fun ho => by have := h.own i ho; have := hT i hi; omega⟩
theorem Ons.close {id : Int} {o : Ox} {e : Ending} (h : Ons w b mo mf ma most last lo lf la W) (hc : CloS b mo mf ma most last lo lf la id o.1 W e W') : ∃ v lf' la', e = .returned v ∧ Ons w b mo mf ma most last (mdel lo id) lf' la' W' := by
  obtain ⟨va, vc, rfl, _, lf', la', ht, ho, hg⟩ := hc
  exact ⟨_, lf', la', rfl, h.chg ht (fun p hp => h.short p ((mdel_sub lo id).subset hp)) ho hg⟩
theorem Ons.issue {fr ag till : Int} {vec : List Pt} {e : Ending} (h : Ons w b mo mf ma most last lo lf la W) (hv : vec.length ≤ 700) (hc : IssS b mo mf ma most last lo lf la fr ag vec till W e W') :
    e = .returned (.tuple #[.int .i64 (last + 1), .int .i64 0]) ∧ ∃ va' lf' la', Ons w b mo mf ma most (last + 1) (lo ++ [(last + 1, ((⟨last + 1, fr, ag, vec, till⟩ : Of), va', vec.length))]) lf' la' W' := by
  obtain ⟨rfl, va', lf', la', ht, ho, hg⟩ := hc
  exact ⟨rfl, va', lf', la', h.chg ht (fun p hp => by
    rcases List.mem_append.1 hp with h1 | h1
    · exact h.short p h1
    · rw [List.mem_singleton] at h1; subst h1; exact hv) ho hg⟩
end
/-- What Close leaves, whatever is asked. -/
theorem closeAny_calls {b mo mf ma : Nat} {most last : Int} {lo : List (Int × Ox)} {lf la : List (Int × Nat)} {w W : World} (id : Int) (h : Ons w b mo mf ma most last lo lf la W) :
    Calls Try.prog 8 #[.pointer (some ⟨b, 0, none⟩), .int .i64 id] W fun e W' => ∃ v lf' la', e = .returned v ∧ Ons w b mo mf ma most last (mdel lo id) lf' la' W' := by
  cases hg : mget lo id with
  | none =>
    refine (close_none id W h.t hg).mono ?_
    rintro e w1 ⟨rfl, hb⟩
    exact ⟨_, lf, la, rfl, by rw [mdel_none hg]; exact h.below hb⟩
  | some x => exact (close_some id W h.t x hg (h.short _ (mget_some_mem hg))).mono fun e w1 hc => h.close hc
/-- What Issue leaves, whatever is asked: the number, the class, the table. -/
def IssQ (w : World) (b mo mf ma : Nat) (most last : Int) (lo : List (Int × Ox)) (lf la : List (Int × Nat)) (fr ag : Int) (vec : List Pt) (till : Int) (n f : Int) (W' : World) : Prop :=
  (n = last + 1 ∧ f = 0 ∧ issB fr ag till vec = true ∧ last < most ∧ ∃ va' lf' la', Ons w b mo mf ma most (last + 1) (lo ++ [(last + 1, ((⟨last + 1, fr, ag, vec, till⟩ : Of), va', vec.length))]) lf' la' W') ∨
  (n = 0 ∧ (issB fr ag till vec = false ∧ f = 41 ∨ issB fr ag till vec = true ∧ most ≤ last ∧ f = 34) ∧ Ons w b mo mf ma most last lo lf la W')
theorem issueAny_calls {T : Nat → Prop} {b mo mf ma : Nat} {most last : Int} {lo : List (Int × Ox)} {lf la : List (Int × Nat)} {w W : World} (fr ag till : Int) (va : Option Addr) (vc : Nat) (vec : List Pt)
    (h : Ons w b mo mf ma most last lo lf la W) (hp : PAt T W va vec) (hT : ∀ i, T i → i < w.heap.size) (hlen : vec.length ≤ 700) (hmost : most ≤ 9007199254740992) :
    Calls Try.prog 9 #[.pointer (some ⟨b, 0, none⟩), .int .i64 fr, .int .i64 ag, .slice va vec.length vc, .int .i64 till] W fun e W' => ∃ n f, e = .returned (.tuple #[.int .i64 n, .int .i64 f]) ∧ Below w.heap.size w W' ∧ Hid (IssQ w b mo mf ma most last lo lf la fr ag vec till n f W') := by
  cases hb : issB fr ag till vec with
  | false =>
    refine (issue_bad T fr ag till va vc vec W h.t hp (fun i hi => (h.far hT i hi).1) hlen hb).mono ?_
    rintro e w1 ⟨rfl, hbw⟩
    exact ⟨_, _, rfl, (h.below hbw).b, Lib.hid (.inr ⟨rfl, .inl ⟨hb, rfl⟩, h.below hbw⟩)⟩
  | true =>
    by_cases hml : last < most
    · have hb' := hb
      unfold issB at hb'
      simp only [Bool.and_eq_true, decide_eq_true_eq, Bool.not_eq_true'] at hb'
      obtain ⟨⟨⟨⟨hfr, hag⟩, htl⟩, hvec⟩, hr⟩ := hb'
      refine (issue_yes T fr ag till va vc vec W h.t hp (h.far hT) hfr hag htl (List.isEmpty_eq_false_iff.1 hvec) hr hlen hml hmost).mono ?_
      intro e w1 hc
      obtain ⟨he, va', lf', la', hrest⟩ := h.issue hlen hc
      exact ⟨_, _, he, hrest.b, Lib.hid (.inl ⟨rfl, rfl, hb, hml, va', lf', la', hrest⟩)⟩
    · refine (issue_full T fr ag till va vc vec W h.t hp (fun i hi => (h.far hT i hi).1) hb hlen (by omega)).mono ?_
      rintro e w1 ⟨rfl, hbw⟩
      exact ⟨_, _, rfl, (h.below hbw).b, Lib.hid (.inr ⟨rfl, .inr ⟨hb, by omega, rfl⟩, h.below hbw⟩)⟩
end Go.Proofs.Ytecgfghmmlpghaa.O
