/- Maps whose keys are int64: what a block of entries holds, as a list of pairs; lookup, store, delete. No program of its own. -/
import Derived.Test.YtecgfghmmlpghaaHp
set_option linter.unusedVariables false
set_option linter.unusedSimpArgs false
namespace Go.Proofs.Ytecgfghmmlpghaa.Mp
open Go.RowKit Go.Proofs.Ytecgfghmmlpghaa.Hp

section
variable {α : Type}
def mget : List (Int × α) → Int → Option α
  | [], _ => none
  | p :: l, k => if p.1 = k then some p.2 else mget l k
def mput : List (Int × α) → Int → α → List (Int × α)
  | [], k, v => [(k, v)]
  | p :: l, k, v => if p.1 = k then (k, v) :: l else p :: mput l k v
def mdel : List (Int × α) → Int → List (Int × α)
  | [], _ => []
  | p :: l, k => if p.1 = k then l else p :: mdel l k
/-- The place of a key. -/
def place : List (Int × α) → Int → Option Nat
  | [], _ => none
  | p :: l, k => if p.1 = k then some 0 else (place l k).map (· + 1)
/-- What the entries hold. -/
def Rep (enc : α → Value) (es : Array MapEntry) (l : List (Int × α)) : Prop := es.toList.map (fun e => (e.key, e.val)) = l.map fun p => (Value.int .i64 p.1, enc p.2)
/-- The stamps: each below the clock, no two alike. -/
def Stamps (es : Array MapEntry) (clk : Nat) : Prop := (∀ e ∈ es.toList, e.born < clk) ∧ (es.toList.map (·.born)).Nodup
/-- A map block. -/
def IsMap (enc : α → Value) (w : World) (m : Nat) (l : List (Int × α)) : Prop := ∃ es clk, w.heap[m]? = some (.map es clk) ∧ Rep enc es l ∧ Stamps es clk
theorem Rep.nil (enc : α → Value) : Rep enc #[] [] := rfl
theorem Rep.length {enc : α → Value} {es : Array MapEntry} {l : List (Int × α)} (h : Rep enc es l) : es.size = l.length := by
  have := congrArg List.length h
  simpa using this
theorem mget_some_mem : ∀ {l : List (Int × α)} {k : Int} {v : α}, mget l k = some v → (k, v) ∈ l
  | p :: l, k, v, h => by
    simp only [mget] at h
    split at h
    · rename_i e
      injection h with h
      subst e; subst h
      exact List.mem_cons_self
    · exact List.mem_cons_of_mem _ (mget_some_mem h)
theorem mget_mput (l : List (Int × α)) (k : Int) (v : α) (j : Int) : mget (mput l k v) j = if k = j then some v else mget l j := by
  induction l with
  | nil => simp [mput, mget]
  | cons p l ih =>
    simp only [mput]
    by_cases hp : p.1 = k
    · rw [if_pos hp]
      simp only [mget]
      by_cases hk : k = j
      · rw [if_pos hk, if_pos hk]
      · rw [if_neg hk, if_neg hk, if_neg (by omega)]
    · rw [if_neg hp]
      simp only [mget, ih]
      by_cases hk : k = j
      · rw [if_pos hk, if_neg (by omega), if_pos hk]
      · rw [if_neg hk]; simp only [if_neg hk]
theorem keys_mput (l : List (Int × α)) (k : Int) (v : α) : (mput l k v).map (·.1) = if (mget l k).isSome then l.map (·.1) else l.map (·.1) ++ [k] := by
  induction l with
  | nil => simp [mput, mget]
  | cons p l ih =>
    simp only [mput, mget]
    by_cases hp : p.1 = k
    · simp [hp]
    · simp only [if_neg hp, List.map_cons, ih]
      split <;> simp
theorem mget_none {l : List (Int × α)} {k : Int} : mget l k = none ↔ k ∉ l.map (·.1) := by
  induction l with
  | nil => simp [mget]
  | cons p l ih =>
    simp only [mget, List.map_cons, List.mem_cons, not_or]
    by_cases hp : p.1 = k
    · simp [hp]
    · rw [if_neg hp, ih]
      exact ⟨fun h => ⟨fun e => hp e.symm, h⟩, fun h => h.2⟩
theorem nodup_mput {l : List (Int × α)} (h : (l.map (·.1)).Nodup) (k : Int) (v : α) : ((mput l k v).map (·.1)).Nodup := by
  rw [keys_mput]
  split
  · exact h
  · rename_i hn
    have hk : k ∉ l.map (·.1) := mget_none.1 (by simpa using hn)
    rw [List.nodup_append]
    refine ⟨h, by simp, fun a ha b hb => ?_⟩
    simp at hb
    subst hb
    exact fun e => hk (e ▸ ha)
theorem length_mput (l : List (Int × α)) (k : Int) (v : α) : (mput l k v).length = if (mget l k).isSome then l.length else l.length + 1 := by
  have := congrArg List.length (keys_mput l k v)
  rw [List.length_map] at this
  rw [this]; split <;> simp
theorem keys_mdel (l : List (Int × α)) (k : Int) : (mdel l k).map (·.1) = (l.map (·.1)).erase k := by
  induction l with
  | nil => rfl
  | cons p l ih =>
    simp only [mdel, List.map_cons, List.erase_cons]
    by_cases hp : p.1 = k
    · simp [hp]
    · rw [if_neg hp]
      simp [hp, ih]
theorem nodup_mdel {l : List (Int × α)} (h : (l.map (·.1)).Nodup) (k : Int) : ((mdel l k).map (·.1)).Nodup := by
  rw [keys_mdel]; exact h.erase k
theorem mget_mdel {l : List (Int × α)} (h : (l.map (·.1)).Nodup) (k j : Int) : mget (mdel l k) j = if k = j then none else mget l j := by
  induction l with
  | nil => simp [mdel, mget]
  | cons p l ih =>
    rw [List.map_cons, List.nodup_cons] at h
    simp only [mdel]
    by_cases hp : p.1 = k
    · rw [if_pos hp]
      by_cases hk : k = j
      · rw [if_pos hk]
        exact mget_none.2 (by rw [← hk, ← hp]; exact h.1)
      · rw [if_neg hk]; simp only [mget]; rw [if_neg (by omega)]
    · rw [if_neg hp]
      simp only [mget, ih h.2]
      by_cases hk : k = j
      · simp only [if_pos hk]; rw [if_neg (by omega)]
      · simp only [if_neg hk]
theorem mem_mget {l : List (Int × α)} (h : (l.map (·.1)).Nodup) {k : Int} {v : α} (hm : (k, v) ∈ l) : mget l k = some v := by
  induction l with
  | nil => simp at hm
  | cons p l ih =>
    rw [List.map_cons, List.nodup_cons] at h
    rcases List.mem_cons.1 hm with rfl | hm
    · simp [mget]
    · simp only [mget]
      rw [if_neg, ih h.2 hm]
      intro e
      exact h.1 (by rw [e]; exact List.mem_map.2 ⟨_, hm, rfl⟩)
theorem length_mdel {l : List (Int × α)} {k : Int} (h : (mget l k).isSome) : (mdel l k).length + 1 = l.length := by
  induction l with
  | nil => simp [mget] at h
  | cons p l ih =>
    simp only [mget] at h
    simp only [mdel]
    by_cases hp : p.1 = k
    · rw [if_pos hp]; rfl
    · rw [if_neg hp] at h ⊢
      simp only [List.length_cons]
      have := ih h
      omega
theorem mdel_none {l : List (Int × α)} {k : Int} (h : mget l k = none) : mdel l k = l := by
  induction l with
  | nil => rfl
  | cons p l ih =>
    simp only [mget] at h
    split at h
    · simp at h
    · rename_i hp
      simp only [mdel, if_neg hp, ih h]

theorem find_now (kd : IntKind) (enc : α → Value) (k : Int) : ∀ (es : List MapEntry) (l : List (Int × α)) (i : Nat), es.map (fun e => (e.key, e.val)) = l.map (fun p => (Value.int .i64 p.1, enc p.2)) →
    Instr.findNow (.int kd) (.int .i64 k) es i = some (match mget l k with | some v => (place l k).map fun j => (i + j, enc v) | none => none)
  | [], [], i, _ => by simp [Instr.findNow, mget]
  | [], p :: l, i, h => by simp at h
  | e :: es, [], i, h => by simp at h
  | e :: es, p :: l, i, h => by
    simp only [List.map_cons, List.cons.injEq, Prod.mk.injEq] at h
    obtain ⟨⟨hk, hv⟩, hr⟩ := h
    simp only [Instr.findNow, Instr.sameNow, hk, if_true, mget, place]
    by_cases hp : p.1 = k
    · have : (k == p.1) = true := by rw [beq_iff_eq]; exact hp.symm
      simp [this, hp, hv]
    · have : (k == p.1) = false := by rw [beq_eq_false_iff_ne]; exact fun e => hp e.symm
      simp only [this, if_neg hp]
      rw [find_now kd enc k es l (i + 1) hr]
      cases hl : mget l k with
      | none => rfl
      | some v =>
        simp only [Option.map_map]
        congr 2
        funext j
        simp only [Function.comp]
        congr 1
        omega
theorem place_some : ∀ {l : List (Int × α)} {k : Int} {v : α}, mget l k = some v → ∃ j, place l k = some j ∧ j < l.length ∧ l[j]? = some (k, v) ∧ mput l k = fun u => l.set j (k, u)
  | p :: l, k, v, h => by
    simp only [mget] at h
    split at h
    · rename_i e
      injection h with h
      refine ⟨0, by simp [place, e], by simp, by simp [← e, ← h], ?_⟩
      funext u
      simp [mput, e]
    · rename_i e
      obtain ⟨j, h1, h2, h3, h4⟩ := place_some h
      refine ⟨j + 1, by simp [place, e, h1], by simp; omega, by simpa using h3, ?_⟩
      funext u
      simp [mput, e, h4]
theorem mput_same {l : List (Int × α)} {k : Int} {v : α} (h : mget l k = some v) : mput l k v = l := by
  induction l with
  | nil => simp [mget] at h
  | cons p l ih =>
    simp only [mget] at h
    simp only [mput]
    split at h
    · rename_i e
      rw [if_pos e]
      injection h with h
      rw [← h, ← e]
    · rename_i e
      rw [if_neg e, ih h]
theorem mput_none {l : List (Int × α)} {k : Int} (h : mget l k = none) (v : α) : mput l k v = l ++ [(k, v)] := by
  induction l with
  | nil => rfl
  | cons p l ih =>
    simp only [mget] at h
    split at h
    · simp at h
    · rename_i e
      simp [mput, e, ih h]
end

section
variable {P : Program} {α : Type} {enc : α → Value} {w : World} {m clk : Nat} {es : Array MapEntry} {l : List (Int × α)} {t kt et : TypeId} {kd : IntKind}

theorem run_check' (ek : Bool) (n : Nat) (hk : P.underlying kt = some (.int kd)) (k : Int) (w : World) : (Instr.checkKey ek (n + 1) kt (.int .i64 k)).run P w = .ok () w := by
  simp [Instr.checkKey, run_underlying hk]
theorem run_check (ek : Bool) (hk : P.underlying kt = some (.int kd)) (k : Int) (w : World) : (Instr.checkKey ek 10000 kt (.int .i64 k)).run P w = .ok () w := run_check' ek 9999 hk k w
theorem run_getMap (hb : w.heap[m]? = some (.map es clk)) : (getObj m).run P w = .ok (.map es clk) w := by simp [getObj, Sem.run, hb]
theorem run_setMap (hb : w.heap[m]? = some (.map es clk)) (o : Obj) : (setObj m o).run P w = .ok () (setB w m o) := by simp [setObj, Sem.run, hb, setB]
theorem run_find (hk : P.underlying kt = some (.int kd)) (h : Rep enc es l) (k : Int) (w : World) :
    (Instr.findKey kt (.int .i64 k) es.toList).run P w = .ok (match mget l k with | some v => (place l k).map fun j => (j, enc v) | none => none) w := by
  have := find_now kd enc k es.toList l 0 h
  simp only [Nat.zero_add] at this
  simp [Instr.findKey, run_underlying hk, this]

/-- A lookup with the comma. -/
theorem run_look (ht : P.underlying t = some (.map kt et)) (hk : P.underlying kt = some (.int kd)) (zero : Value) (hz : ∀ w, (zeroValue et).run P w = .ok zero w)
    (hb : w.heap[m]? = some (.map es clk)) (h : Rep enc es l) (k : Int) :
    (Instr.lookup t (.map (some m)) (.int .i64 k) true).run P w = .ok (.tuple #[match mget l k with | some v => enc v | none => zero, .bool (mget l k).isSome]) w := by
  simp only [Instr.lookup, Sem.run_bind, run_underlying ht, Result.andThen, run_getMap hb, Sem.run_pure]
  rw [run_check es.isEmpty hk k w]
  simp only [run_find hk h]
  cases hl : mget l k with
  | none => simp [hz, Sem.run_pure]
  | some v =>
    obtain ⟨j, hj, _⟩ := place_some hl
    simp [hj, Sem.run_pure]
/-- A lookup of the value alone. -/
theorem run_look1 (ht : P.underlying t = some (.map kt et)) (hk : P.underlying kt = some (.int kd)) (zero : Value) (hz : ∀ w, (zeroValue et).run P w = .ok zero w)
    (hb : w.heap[m]? = some (.map es clk)) (h : Rep enc es l) (k : Int) :
    (Instr.lookup t (.map (some m)) (.int .i64 k) false).run P w = .ok (match mget l k with | some v => enc v | none => zero) w := by
  simp only [Instr.lookup, Sem.run_bind, run_underlying ht, Result.andThen, run_getMap hb, Sem.run_pure]
  rw [run_check es.isEmpty hk k w]
  simp only [run_find hk h]
  cases hl : mget l k with
  | none => simp [hz, Sem.run_pure]
  | some v =>
    obtain ⟨j, hj, _⟩ := place_some hl
    simp [hj, Sem.run_pure]
theorem run_look_nil (ht : P.underlying t = some (.map kt et)) (hk : P.underlying kt = some (.int kd)) (zero : Value) (hz : ∀ w, (zeroValue et).run P w = .ok zero w) (k : Int) (w : World) :
    (Instr.lookup t (.map none) (.int .i64 k) true).run P w = .ok (.tuple #[zero, .bool false]) w := by
  simp only [Instr.lookup, Sem.run_bind, run_underlying ht, Result.andThen, Sem.run_pure]
  rw [run_check _ hk k w]
  simp [Instr.findKey, run_underlying hk, Instr.findNow, hz, Sem.run_pure]

theorem Rep.modify (h : Rep enc es l) {j : Nat} {k : Int} {v u : α} (hj : j < l.length) (hl : l[j]? = some (k, v)) (f : MapEntry → MapEntry) (hf : ∀ e, (f e).val = enc u) (hfk : ∀ e, (f e).key = .int .i64 k) : Rep enc (es.modify j f) (l.set j (k, u)) := by
  unfold Rep at *
  apply List.ext_getElem?
  intro i
  have hi := congrArg (fun x => x[i]?) h
  simp only [List.getElem?_map, List.getElem?_set, Array.getElem?_toList, Array.getElem?_modify] at hi ⊢
  by_cases e : j = i
  · subst e
    rw [if_pos rfl, if_pos rfl, if_pos hj]
    cases hes : es[j]? with
    | none => rw [hes, hl] at hi; simp at hi
    | some x => simp [hf, hfk]
  · rw [if_neg e, if_neg e]; exact hi
theorem Stamps.modify (h : Stamps es clk) (j : Nat) (f : MapEntry → MapEntry) (hf : ∀ e, (f e).born = e.born) : Stamps (es.modify j f) clk := by
  have hb : (es.modify j f).toList.map (·.born) = es.toList.map (·.born) := by
    apply List.ext_getElem?
    intro i
    simp only [List.getElem?_map, Array.getElem?_toList, Array.getElem?_modify]
    split
    · cases es[i]? <;> simp [hf]
    · rfl
  refine ⟨fun e he => ?_, by rw [hb]; exact h.2⟩
  have : e.born ∈ (es.modify j f).toList.map (·.born) := List.mem_map.2 ⟨e, he, rfl⟩
  rw [hb] at this
  obtain ⟨e', he', hbe⟩ := List.mem_map.1 this
  rw [← hbe]; exact h.1 e' he'
theorem Rep.push (h : Rep enc es l) (k : Int) (v : α) (b : Nat) : Rep enc (es.push { key := .int .i64 k, val := enc v, born := b }) (l ++ [(k, v)]) := by
  unfold Rep at *
  simp [h]
theorem Stamps.push (h : Stamps es clk) (e : MapEntry) (he : e.born = clk) : Stamps (es.push e) (clk + 1) := by
  refine ⟨fun x hx => ?_, ?_⟩
  · simp only [Array.toList_push, List.mem_append, List.mem_singleton] at hx
    rcases hx with hx | rfl
    · have := h.1 x hx; omega
    · omega
  · simp only [Array.toList_push, List.map_append, List.map_cons, List.map_nil]
    rw [List.nodup_append]
    refine ⟨h.2, by simp, fun a ha b hb => ?_⟩
    simp only [List.mem_singleton] at hb
    obtain ⟨x, hx, rfl⟩ := List.mem_map.1 ha
    have := h.1 x hx
    omega

/-- A store: the block holds the pairs with this one. -/
theorem run_mstore (ht : P.underlying t = some (.map kt et)) (hk : P.underlying kt = some (.int kd)) (hm : IsMap enc w m l) (k : Int) (v : α) :
    ∃ o, (Instr.mapUpdate t (.map (some m)) (.int .i64 k) (enc v)).run P w = .ok () (setB w m o) ∧ IsMap enc (setB w m o) m (mput l k v) := by
  obtain ⟨es, clk, hb, h, hs⟩ := hm
  cases hl : mget l k with
  | none =>
    refine ⟨.map (es.push { key := .int .i64 k, val := enc v, born := clk }) (clk + 1), ?_, ⟨_, _, blk_setB _ hb, ?_, hs.push _ rfl⟩⟩
    · simp only [Instr.mapUpdate, Sem.run_bind, run_underlying ht, Result.andThen, run_getMap hb, Sem.run_pure]
      rw [run_check false hk k w]
      simp only [run_find hk h, hl]
      rw [run_setMap hb]
    · rw [mput_none hl]; exact h.push k v clk
  | some u =>
    obtain ⟨j, hj, hlt, hget, hupd⟩ := place_some hl
    have hkey : ∃ x, es[j]? = some x ∧ x.key = .int .i64 k := by
      have := congrArg (fun x => x[j]?) h
      simp only [List.getElem?_map, hget, Array.getElem?_toList] at this
      cases hes : es[j]? with
      | none => rw [hes] at this; simp at this
      | some x => rw [hes] at this; simp at this; exact ⟨x, rfl, this.1⟩
    obtain ⟨x, hx, hxk⟩ := hkey
    refine ⟨.map (es.modify j fun e => { e with key := .int .i64 k, val := enc v }) clk, ?_, ⟨_, _, blk_setB _ hb, ?_, hs.modify _ _ (fun _ => rfl)⟩⟩
    · simp only [Instr.mapUpdate, Sem.run_bind, run_underlying ht, Result.andThen, run_getMap hb, Sem.run_pure]
      rw [run_check false hk k w]
      simp only [run_find hk h, hl, hj, Option.map_some, hx, Option.getD_some, hxk, Instr.keyThatStays, Instr.sameBits, Sem.run_bind]
      simp only [beq_self_eq_true, Bool.and_self, if_true, Sem.run_pure, Result.andThen]
      rw [run_setMap hb]
    · rw [hupd]; exact h.modify hlt hget _ (fun _ => rfl) (fun _ => rfl)
theorem mdel_place {l : List (Int × α)} {k : Int} {j : Nat} (h : place l k = some j) : mdel l k = l.eraseIdx j := by
  induction l generalizing j with
  | nil => simp [place] at h
  | cons p l ih =>
    simp only [place] at h
    simp only [mdel]
    split at h
    · rename_i e
      injection h with h
      subst h
      rw [if_pos e]; rfl
    · rename_i e
      rw [if_neg e]
      obtain ⟨j', hj', rfl⟩ := Option.map_eq_some_iff.1 h
      rw [ih hj']; rfl
theorem erase_map {β γ : Type} (f : β → γ) : ∀ (l : List β) (j : Nat), (l.map f).eraseIdx j = (l.eraseIdx j).map f
  | [], j => rfl
  | x :: l, 0 => rfl
  | x :: l, j + 1 => by simp [erase_map f l j]
theorem Rep.erase (h : Rep enc es l) (j : Nat) : Rep enc (es.eraseIdxIfInBounds j) (l.eraseIdx j) := by
  unfold Rep at *
  rw [Array.toList_eraseIdxIfInBounds, ← erase_map, h, erase_map]
theorem Stamps.erase (h : Stamps es clk) (j : Nat) : Stamps (es.eraseIdxIfInBounds j) clk := by
  unfold Stamps at *
  rw [Array.toList_eraseIdxIfInBounds]
  refine ⟨fun e he => h.1 e (List.mem_of_mem_eraseIdx he), ?_⟩
  rw [← erase_map]
  exact h.2.sublist (List.eraseIdx_sublist _ _)
/-- A delete: the block holds the pairs without this one. -/
theorem run_remove (ht : P.underlying t = some (.map kt et)) (hk : P.underlying kt = some (.int kd)) (hm : IsMap enc w m l) (k : Int) (u ty : TypeId) :
    ∃ o, (Builtin.delete_ #[t, u] ty #[.map (some m), .int .i64 k]).run P w = .ok (.tuple #[]) (setB w m o) ∧ IsMap enc (setB w m o) m (mdel l k) := by
  obtain ⟨es, clk, hb, h, hs⟩ := hm
  cases hl : mget l k with
  | none =>
    refine ⟨.map es clk, ?_, ⟨_, _, blk_setB _ hb, ?_, hs⟩⟩
    · simp only [Builtin.delete_, Sem.run_bind, run_underlying ht, Result.andThen, run_getMap hb, Sem.run_pure, List.getElem?_toArray, List.getElem?_cons_zero, List.getElem?_cons_succ]
      rw [run_check es.isEmpty hk k w]
      simp only [run_find hk h, hl, Sem.run_bind]
      rw [run_setMap hb]
      rfl
    · rw [mdel_none hl]; exact h
  | some v =>
    obtain ⟨j, hj, _⟩ := place_some hl
    refine ⟨.map (es.eraseIdxIfInBounds j) clk, ?_, ⟨_, _, blk_setB _ hb, ?_, hs.erase j⟩⟩
    · simp only [Builtin.delete_, Sem.run_bind, run_underlying ht, Result.andThen, run_getMap hb, Sem.run_pure, List.getElem?_toArray, List.getElem?_cons_zero, List.getElem?_cons_succ]
      rw [run_check es.isEmpty hk k w]
      simp only [run_find hk h, hl, hj, Option.map_some, Sem.run_bind]
      rw [run_setMap hb]
      rfl
    · rw [mdel_place hj]; exact h.erase j
end
end Go.Proofs.Ytecgfghmmlpghaa.Mp
