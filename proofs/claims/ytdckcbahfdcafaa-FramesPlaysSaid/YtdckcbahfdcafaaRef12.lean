/- The reference's Do: what it answers; removal. -/
import Derived.Test.YtdckcbahfdcafaaRef11
set_option linter.unusedVariables false
set_option linter.unusedSimpArgs false
namespace Go.Proofs.Ytdckcbahfdcafaa.F
open Go.RowKit Go.Sort Go.Proofs.Ytdckcbahfdcafaa.Hp Go.Proofs.Ytdckcbahfdcafaa.Mp
set_option maxRecDepth 100000

/-- What the reference's Do answers, and the list behind it. -/
def rdoF (cap : Int) (fs : List Fr) (a : A) : (Bool × Int) × List Fr :=
  if a.kind = 0 then rsubF cap fs a
  else if a.kind = 2 then (((fs.find? (·.id == a.id)).isSome, 0), fs.eraseP (·.id == a.id))
  else match fs.find? (·.id == a.id) with
    | none => ((false, 43), fs)
    | some f => if a.kind = 1 then (if (awayF f a.time).1 = 0 then ((false, 0), withF fs (awayF f a.time).2) else ((false, (awayF f a.time).1), fs)) else ((false, 0), withF fs { f with quiet := a.kind == 3 })

/-- Removal by place, as far as k. -/
def offF (fs : List Fr) (i : Int) (k : Nat) : List Fr := if i < 0 then fs.take k else (fs.take k).eraseIdx i.toNat
theorem offF_succ (fs : List Fr) (i : Int) (k : Nat) (hk : k < fs.length) (hi : -1 ≤ i) : offF fs i (k + 1) = if (k : Int) = i then offF fs i k else offF fs i k ++ [fs[k]] := by
  unfold offF
  rw [List.take_add_one, List.getElem?_eq_getElem hk, Option.toList_some]
  by_cases h0 : i < 0
  · rw [if_pos h0, if_pos h0, if_neg (by omega)]
  · rw [if_neg h0, if_neg h0]
    obtain ⟨j, rfl⟩ := Int.eq_ofNat_of_zero_le (show 0 ≤ i by omega)
    rw [Int.toNat_natCast]
    have hl : (fs.take k).length = k := by simp; omega
    by_cases e : k = j
    · subst e
      rw [if_pos rfl, List.eraseIdx_append_of_length_le (by omega), hl]
      simp only [Nat.sub_self, List.eraseIdx_cons_zero, List.append_nil]
      rw [List.eraseIdx_of_length_le (by omega)]
    · rw [if_neg (by omega)]
      rcases Nat.lt_or_gt_of_ne e with h | h
      · rw [List.eraseIdx_of_length_le (by simp; omega), List.eraseIdx_of_length_le (by omega)]
      · rw [List.eraseIdx_append_of_lt_length (by omega)]
theorem offF_length (fs : List Fr) (i : Int) (k : Nat) : (offF fs i k).length ≤ k := by
  unfold offF
  split
  · simp; omega
  · exact Nat.le_trans (List.length_eraseIdx_le _ _) (by simp; omega)
theorem offF_all (fs : List Fr) (id : Int) : offF fs (atF fs id) fs.length = fs.eraseP (·.id == id) := by
  unfold offF
  rw [List.take_length]
  rcases at_cases fs id with ⟨hf, he⟩ | ⟨k, f, hk, hf, he, hfk, hid⟩
  · rw [he, if_pos (by omega)]
    rw [List.eraseP_of_forall_not]
    rw [List.find?_eq_none] at hf
    exact hf
  · rw [he, if_neg (by omega), Int.toNat_natCast]
    unfold atF at he
    cases h : fs.findIdx? (·.id == id) with
    | none => rw [h] at he; simp only at he; omega
    | some k' =>
      rw [h] at he
      simp only at he
      have : k' = k := by omega
      subst this
      rw [List.eraseP_eq_eraseIdx, h]

/-- Where the removal is: besides the first blocks, the new table at block B. -/
structure OSt (w wr : World) (N : Nat) (cap : Int) (sl : Value) (a : A) (B : Nat) (acc : List Fr) (v : Value) : Prop where
  st : SSt w wr N cap sl a
  le : N + 3 ≤ B
  out : wr.heap[B]? = some (.cells #[.int .i64 cap, v] 41 (0, 0))
  own : wr.ownsRow (B + 1) 30 7 v acc.length (flatF acc)
section
variable {w wr w1 : World} {N B : Nat} {cap : Int} {sl v v' : Value} {a : A} {x : Fr} {acc : List Fr}
theorem OSt.lt (h : OSt w wr N cap sl a B acc v) : B + 1 ≤ wr.heap.size := blk_lt h.out
theorem OSt.drew (h : OSt w wr N cap sl a B acc v) : OSt w wr.drew N cap sl a B acc v := ⟨h.st.drew, h.le, h.out, h.own⟩
theorem OSt.drewN (h : OSt w wr N cap sl a B acc v) (n : Nat) : OSt w (wr.drewN n) N cap sl a B acc v := ⟨h.st.drewN n, h.le, h.out, h.own⟩
theorem OSt.alloc (h : OSt w wr N cap sl a B acc v) (o : Obj) : OSt w (wr.alloc o) N cap sl a B acc v := ⟨h.st.alloc o, h.le, blk_alloc h.out, h.own.alloc _⟩
theorem OSt.far (h : OSt w wr N cap sl a B acc v) (hg : wr.grownBy w1 v.ownBlock) : ∀ j o, j ≤ B → wr.heap[j]? = some o → w1.heap[j]? = some o := fun j o hj ho =>
  (hg.block j (by have := h.lt; omega) (fun e => by have := row_own h.own e; omega)).trans ho
theorem OSt.after (h : OSt w wr N cap sl a B acc v) (hg : wr.grownBy w1 v.ownBlock) : w1.cell? ⟨B, 1, none⟩ = some v ∧ w1.frozen? ⟨B, 1, none⟩ = false :=
  ⟨blk_cell (h.far hg B _ (Nat.le_refl _) h.out) 1, blk_frozen (h.far hg B _ (Nat.le_refl _) h.out) 1⟩
theorem OSt.atOut (h : OSt w wr N cap sl a B acc v) : wr.cell? ⟨B, 1, none⟩ = some v := blk_cell h.out 1
theorem OSt.atOut0 (h : OSt w wr N cap sl a B acc v) : wr.cell? ⟨B, 0, none⟩ = some (.int .i64 cap) := blk_cell h.out 0
theorem OSt.append (h : OSt w wr N cap sl a B acc v) (hg : wr.grownBy w1 v.ownBlock) (ho : w1.ownsRow (B + 1) 30 7 v' (acc.length + 1) (flatF acc ++ flatF [x])) : OSt w (w1.setCell ⟨B, 1, none⟩ v') N cap sl a B (acc ++ [x]) v' := by
  have hl := h.lt
  have hle := h.le
  have e3 := blk_set (h.far hg B _ (Nat.le_refl _) h.out) 1 v'
  have hst : SSt w w1 N cap sl a := ⟨h.far hg _ _ (by omega) h.st.box, h.far hg _ _ (by omega) h.st.ab, h.far hg _ _ (by omega) h.st.res, h.st.chg.grown hg (by have := h.st.lt; omega) (fun j hj => by have := row_own h.own hj.symm; omega)⟩
  refine ⟨hst.far (by simpa using hle) _, hle, e3, ?_⟩
  rw [List.length_append, flatF_append]
  exact row_far ho (by simp) _
end
end Go.Proofs.Ytdckcbahfdcafaa.F
