/- What queues hold, told plainly; put and take in these words. -/
import Derived.Test.YtchhpgnlfofdcaaTake1
set_option linter.unusedVariables false
set_option linter.unusedSimpArgs false
namespace Go.Proofs.Ytchhpgnlfofdcaa.Q
open Go.RowKit Go.Proofs.Ytchhpgnlfofdcaa.Hp Go.Proofs.Ytchhpgnlfofdcaa.Mp

/-- A queue told plainly: its events, how many are lost. -/
abbrev Pl := List Ev × Int
def plain (q : Qr) : Pl := (q.evs, q.lost)
/-- Queues told plainly. -/
def abs (l : List (Int × Qr)) : List (Int × Pl) := l.map fun p => (p.1, plain p.2)
theorem mget_abs (l : List (Int × Qr)) (k : Int) : mget (abs l) k = (mget l k).map plain := by
  induction l with
  | nil => rfl
  | cons p l ih =>
    simp only [abs, List.map_cons, mget] at ih ⊢
    split
    · rfl
    · exact ih
theorem mput_abs (l : List (Int × Qr)) (k : Int) (q : Qr) : abs (mput l k q) = mput (abs l) k (plain q) := by
  induction l with
  | nil => rfl
  | cons p l ih =>
    simp only [abs, List.map_cons, mput] at ih ⊢
    split
    · rfl
    · rw [List.map_cons, ih]
theorem mdel_abs (l : List (Int × Qr)) (k : Int) : abs (mdel l k) = mdel (abs l) k := by
  induction l with
  | nil => rfl
  | cons p l ih =>
    simp only [abs, List.map_cons, mdel] at ih ⊢
    split
    · rfl
    · rw [List.map_cons, ih]
theorem keys_abs (l : List (Int × Qr)) : (abs l).map (·.1) = l.map (·.1) := by unfold abs; rw [List.map_map]; rfl
/-- One more event, into one queue. -/
def put1 (most : Int) (p : Pl) (e : Ev) : Pl := if (p.1.length : Int) = most then (p.1.tail ++ [e], p.2 + 1) else (p.1 ++ [e], p.2)
def putF (most : Int) (A : List (Int × Pl)) (e : Ev) : List (Int × Pl) := match mget A e.frame with
  | none => A
  | some p => mput A e.frame (put1 most p e)
def putsF (most : Int) (A : List (Int × Pl)) (es : List Ev) : List (Int × Pl) := es.foldl (putF most) A
/-- How many of the events are about an open queue. -/
def hits (A : List (Int × Pl)) (es : List Ev) : Nat := (es.filter fun e => (mget A e.frame).isSome).length
theorem put1_len (most : Int) (p : Pl) (e : Ev) : (put1 most p e).1.length ≤ p.1.length + 1 := by
  unfold put1
  split
  · simp
  · simp
theorem put1_lost (most : Int) (p : Pl) (e : Ev) : (put1 most p e).2 ≤ p.2 + 1 := by
  unfold put1
  split <;> simp only <;> omega
theorem isSome_putF (most : Int) (A : List (Int × Pl)) (e : Ev) (k : Int) : (mget (putF most A e) k).isSome = (mget A k).isSome := by
  unfold putF
  cases h : mget A e.frame with
  | none => rfl
  | some p =>
    simp only
    rw [mget_mput]
    split
    · rename_i e2; rw [← e2, h]; rfl
    · rfl
theorem isSome_putsF (most : Int) : ∀ (es : List Ev) (A : List (Int × Pl)) (k : Int), (mget (putsF most A es) k).isSome = (mget A k).isSome
  | [], A, k => rfl
  | e :: es, A, k => by
    have := isSome_putsF most es (putF most A e) k
    rw [isSome_putF] at this
    exact this
theorem putsF_take (most : Int) (A : List (Int × Pl)) (es : List Ev) (k : Nat) (h : k < es.length) : putsF most A (es.take (k + 1)) = putF most (putsF most A (es.take k)) es[k] := by
  unfold putsF
  rw [List.take_add_one, List.getElem?_eq_getElem h, Option.toList_some, List.foldl_append]
  rfl
theorem hits_take (A : List (Int × Pl)) (es : List Ev) (k : Nat) (h : k < es.length) : hits A (es.take (k + 1)) = hits A (es.take k) + (if (mget A es[k].frame).isSome = true then 1 else 0) := by
  unfold hits
  rw [List.take_add_one, List.getElem?_eq_getElem h, Option.toList_some, List.filter_append, List.length_append]
  congr 1
  by_cases e : (mget A es[k].frame).isSome = true <;> simp [List.filter_cons, e]
theorem hits_le (A : List (Int × Pl)) (es : List Ev) : hits A es ≤ es.length := List.length_filter_le _ _

theorem put_calls (most : Int) (q : Qr) (cap frm : Nat) (e : Ev) (va : Option Addr) (vc : Nat) (w : World) (h : RingAt w most q cap frm) (hm : 1 ≤ most) (hlen : q.evs.length ≤ 900) (hl : q.lost < 100000) (hv : VAt w va e.vec) :
    Calls Try.prog 20 #[.pointer (some ⟨q.rb, 0, none⟩), .agg #[.int .i64 e.kind, .int .i64 e.frame, .int .i64 e.id, .int .i64 e.agent, .slice va e.vec.length vc], .int .i64 most] w
      (Putted most q (fun ab => ⟨q.rb, ab, (put1 most (plain q) e).1, (put1 most (plain q) e).2⟩) w) := by
  have hle : (q.evs.length : Int) ≤ most := by
    obtain ⟨ea, _, ⟨_, _, _, _, h5⟩ | ⟨_, _, _, h5, _⟩⟩ := h.blk
    · rw [h5]; simp; omega
    · have := h.most; omega
  unfold put1 plain
  by_cases hf : (q.evs.length : Int) = most
  · rw [if_pos hf]
    cases hx : q.evs with
    | nil => rw [hx] at hf; simp at hf; omega
    | cons x rest =>
      have := put_full most q cap frm e va vc w h hm hlen hl hv hf x rest hx
      exact this
  · rw [if_neg hf]
    exact put_room most q cap frm e va vc w h hm hlen hl hv (by omega)
/-- Bounds that hold of every queue. -/
def Bd (c : Nat) (l : List (Int × Qr)) : Prop := ∀ k q, mget l k = some q → q.evs.length ≤ c ∧ q.lost ≤ c
theorem Bd.mono {c d : Nat} {l : List (Int × Qr)} (h : Bd c l) (hcd : c ≤ d) : Bd d l := fun k q hk => by have := h k q hk; omega
theorem Bd.put {c : Nat} {l : List (Int × Qr)} (h : Bd c l) {k : Int} {q : Qr} (hk : mget l k = some q) (most : Int) (e : Ev) (ab : Nat) : Bd (c + 1) (mput l k ⟨q.rb, ab, (put1 most (plain q) e).1, (put1 most (plain q) e).2⟩) := by
  intro k2 q2 h2
  rw [mget_mput] at h2
  split at h2
  · injection h2 with h2
    have h1 := put1_len most (plain q) e
    have h3 := put1_lost most (plain q) e
    have h4 := h k q hk
    rw [← h2]
    unfold plain at *
    simp only at *
    omega
  · have := h k2 q2 h2; omega
end Go.Proofs.Ytchhpgnlfofdcaa.Q
