/- Own library, part 8: a row whose order Go leaves open, of which all but the last operation only read: the last one comes last in every order. No conditions. -/
import Derived.Test.YtldgmcghdohmeaaGreatAb7
set_option linter.unusedVariables false
set_option linter.unusedSimpArgs false
namespace Go.Proofs.YtldgmcghdohmeaaGreat.Ab
open Go Go.RowKit

/-- Edges go back; each operation but the last is waited for by a later one; a guard stands ahead. -/
def lastB (l : List Oper) (o : Oper) : Bool :=
 (List.range (l.length + 1)).all fun i =>
  (match (l ++ [o])[i]? with
   | some x => x.after.all (fun e => decide (e.on < i)) && (match x.guard with | some (j, _) => decide (j < i) | none => true)
   | none => true) &&
  (decide (i = l.length) || (List.range (l.length + 1)).any fun k => decide (i < k) && (match (l ++ [o])[k]? with
   | some x => x.after.any (fun e => Region.binds .any e && decide (e.on = i))
   | none => false))

section
variable {P : Program} {l : List Oper} {o : Oper} {Q : Exit → Act → World → Prop}

theorem lastB_low (h : lastB l o = true) {i : Nat} {x : Oper} (hx : (l ++ [o])[i]? = some x) : (∀ e ∈ x.after, e.on < i) ∧ ∀ j b, x.guard = some (j, b) → j < i := by
 have hi : i < l.length + 1 := by have := (List.getElem?_eq_some_iff.1 hx).1; simpa using this
 have := List.all_eq_true.1 h i (List.mem_range.2 hi)
 simp only [hx, Bool.and_eq_true] at this
 refine ⟨fun e he => ?_, fun j b hg => ?_⟩
 ·have h1 := Array.all_eq_true_iff_forall_mem.1 this.1.1 e he
  simpa using h1
 ·have h2 := this.1.2
  rw [hg] at h2
  simpa using h2

theorem lastB_waited (h : lastB l o = true) {i : Nat} (hi : i < l.length) : ∃ k x e, i < k ∧ (l ++ [o])[k]? = some x ∧ e ∈ x.after ∧ Region.binds .any e = true ∧ e.on = i := by
 have := List.all_eq_true.1 h i (List.mem_range.2 (by omega))
 simp only [Bool.and_eq_true, Bool.or_eq_true] at this
 rcases this.2 with h1 | h1
 ·simp at h1; omega
 ·obtain ⟨k, _, hk⟩ := List.any_eq_true.1 h1
  simp only [Bool.and_eq_true] at hk
  obtain ⟨hk1, hk2⟩ := hk
  split at hk2
  ·rename_i x hx
   rw [← Array.any_toList] at hk2
   obtain ⟨e, he, he2⟩ := List.any_eq_true.1 hk2
   simp only [Bool.and_eq_true, decide_eq_true_eq] at he2
   exact ⟨k, x, e, by simpa using hk1, hx, Array.mem_toList_iff.1 he, he2.1, he2.2⟩
  ·simp at hk2

/-- What is listed has all that it waits for listed. -/
def Closed (l : List Oper) (t : Array Bool) : Prop :=
 ∀ (i : Nat) (x : Oper), l[i]? = some x → t.getD i false = true → ∀ e ∈ x.after, Region.binds .any e = true → t.getD e.on false = true

theorem getD_flip {t : Array Bool} {i : Nat} (hi : i < t.size) : t.getD i true = t.getD i false := by
 simp [Array.getD_eq_getD_getElem?, hi]

/-- Nothing is ready: all is listed. -/
theorem all_listed (h : lastB l o = true) {t : Array Bool} (ht : t.size = l.length) (hr : Region.ready .any l.toArray t = []) : ∀ i, i < l.length → t.getD i false = true := by
 intro i
 induction i using Nat.strongRecOn with
 | _ i ih =>
  intro hi
  cases hc : t.getD i false with
  | true => rfl
  | false =>
   have hx : l[i]? = some l[i] := List.getElem?_eq_getElem hi
   have hm : i ∈ Region.ready .any l.toArray t := mem_ready.2 ⟨by rw [getD_flip (by omega)]; exact hc, l[i], by simp [hx], fun e he hb => by
    have hlow := (lastB_low h (i := i) (x := l[i]) (by rw [List.getElem?_append, if_pos hi]; exact hx)).1 e he
    exact ih e.on hlow (by omega)⟩
   rw [hr] at hm; cases hm

theorem getD_push {t : Array Bool} {i : Nat} {d : Bool} (hi : i < t.size) : (t.push false).getD i d = t.getD i d := by
 simp [Array.getD_eq_getD_getElem?, Array.getElem?_push, hi, Nat.ne_of_lt hi]

/-- The last one is ready: all others are listed. -/
theorem last_ready (h : lastB l o = true) {t : Array Bool} (ht : t.size = l.length) (hc : Closed l t) (hr : l.length ∈ Region.ready .any (l ++ [o]).toArray (t.push false)) : ∀ i, i < l.length → t.getD i false = true := by
 obtain ⟨_, x, hx, hall⟩ := mem_ready.1 hr
 have hxo : x = o := by simpa using hx.symm
 subst hxo
 have key : ∀ m i, l.length - i = m → i < l.length → t.getD i false = true := by
  intro m
  induction m using Nat.strongRecOn with
  | _ m ih =>
   intro i hm hi
   obtain ⟨k, y, e, hk, hy, he, hb, hon⟩ := lastB_waited h hi
   by_cases hkl : k < l.length
   ·have hk1 := ih (l.length - k) (by omega) k rfl hkl
    rw [List.getElem?_append, if_pos hkl] at hy
    have := hc k y hy hk1 e he hb
    rw [hon] at this; exact this
   ·have hkk : k = l.length := by
     have := (List.getElem?_eq_some_iff.1 hy).1
     simp at this; omega
    subst hkk
    have hyo : y = x := by simpa using hy.symm
    subst hyo
    have := hall e he hb
    rw [hon, getD_push (by omega)] at this; exact this
 exact fun i hi => key _ i rfl hi

theorem ready_full {t : Array Bool} (ht : t.size = l.length) (hall : ∀ i, i < l.length → t.getD i false = true) : Region.ready .any (l ++ [o]).toArray ((t.push false).setIfInBounds l.length true) = [] := by
 apply List.eq_nil_iff_forall_not_mem.2
 intro i hi
 obtain ⟨h1, x, hx, _⟩ := mem_ready.1 hi
 have hlt : i < l.length + 1 := by have := (Array.getElem?_eq_some_iff.1 hx).1; simpa using this
 by_cases e : l.length = i
 ·subst e
  rw [getD_set_true'] at h1
  ·cases h1
  ·simp; omega
 ·rw [getD_set_ne true e, getD_push (by omega), getD_flip (by omega), hall i (by omega)] at h1
  cases h1
where
 getD_set_true' {t : Array Bool} {i : Nat} (hi : i < t.size) : (t.setIfInBounds i true).getD i true = true := by
  simp [Array.getD_eq_getD_getElem?, Array.getElem?_setIfInBounds, hi]

theorem upon_then {x : Oper} {a : Act} {next : Act → World → Prop} {T : Act → World → Prop} {res : Result Next} (h : x.upon P a next (Exit.then T Q) res) : x.upon P a next Q res := by
 cases res with
 | ok y w => cases y <;> first | exact h | (simp only [Oper.upon] at h ⊢; exact h.mono fun e w' he => by cases e <;> exact he)
 | halt y w => cases y <;> exact h

theorem wpOp_push {i : Nat} (hi : i < l.length) (hlow : lastB l o = true) {K K' : Act → World → Prop} {T : Act → World → Prop} {a : Act} {w : World} (hK : ∀ a w, K a w → K' a w) (h : wpOp P l.toArray (Exit.then T Q) i K a w) :
  wpOp P (l ++ [o]).toArray Q i K' a w := by
 have hx : l[i]? = some l[i] := List.getElem?_eq_getElem hi
 have hx' : (l ++ [o])[i]? = some l[i] := by rw [List.getElem?_append, if_pos hi]; exact hx
 have hg := (lastB_low hlow hx').2
 have hy : Region.wanted l[i] (yielded (l ++ [o]).toArray a.tmps) = Region.wanted l[i] (yielded l.toArray a.tmps) := by
  unfold Region.wanted
  cases hgd : l[i].guard with
  | none => rfl
  | some p =>
   obtain ⟨j, b⟩ := p
   have hj := hg j b hgd
   have : (l ++ [o])[j]? = l[j]? := by rw [List.getElem?_append, if_pos (by omega)]
   simp [yielded, this]
 unfold wpOp at h ⊢
 have e1 : l.toArray[i]? = some l[i] := by simp
 have e2 : (l ++ [o]).toArray[i]? = some l[i] := by simpa using hx'
 rw [e1] at h
 rw [e2]
 simp only at h ⊢
 rw [hy]
 split
 ·rename_i hw
  rw [if_pos hw] at h
  rcases h with h | ⟨h1, a0, w0, h2⟩
  ·left
   exact Oper.wp_mono hK (upon_then h)
  ·exact .inr ⟨h1, a0, w0, h2⟩
 ·rename_i hw
  rw [if_neg hw] at h
  exact hK _ _ h

theorem any_push (hB : lastB l o = true) : ∀ (f : Nat) (t : Array Bool) (a : Act) (w : World), t.size = l.length → Closed l t →
  wpAny P .any l.toArray (Exit.then (wpOp P (l ++ [o]).toArray Q l.length (fun a w => Q .normal a w)) Q) f t a w → wpAny P .any (l ++ [o]).toArray Q (f + 1) (t.push false) a w := by
 intro f
 have fin : ∀ (f : Nat) (t : Array Bool) (a : Act) (w : World), t.size = l.length → Region.ready .any l.toArray t = [] → wpOp P (l ++ [o]).toArray Q l.length (fun a w => Q .normal a w) a w →
   wpAny P .any (l ++ [o]).toArray Q (f + 1) (t.push false) a w := by
  intro f t a w ht hr h
  have hall := all_listed hB ht hr
  have hmem : ∀ i ∈ Region.ready .any (l ++ [o]).toArray (t.push false), i = l.length := by
   intro i hi
   obtain ⟨h1, x, hx, _⟩ := mem_ready.1 hi
   have hlt : i < l.length + 1 := by have := (Array.getElem?_eq_some_iff.1 hx).1; simpa using this
   by_cases e : i < l.length
   ·rw [getD_push (by omega), getD_flip (by omega), hall i e] at h1; cases h1
   ·omega
  have hin : l.length ∈ Region.ready .any (l ++ [o]).toArray (t.push false) := by
   refine mem_ready.2 ⟨by simp [Array.getD_eq_getD_getElem?, ← ht], o, by simp, fun e he hb => ?_⟩
   have := (lastB_low hB (i := l.length) (x := o) (by simp)).1 e he
   rw [getD_push (by omega)]; exact hall e.on this
  refine ⟨fun h0 => (by rw [h0] at hin; cases hin), fun i hi => ?_⟩
  have := hmem i hi
  subst this
  refine wpOp_mono (fun a' w' hq => ?_) h
  have hfull := ready_full (o := o) ht hall
  cases f with
  | zero => exact ⟨hfull, hq⟩
  | succ f => exact ⟨fun _ => hq, fun j hj => by rw [hfull] at hj; cases hj⟩
 induction f with
 | zero =>
  intro t a w ht hc h
  exact fin 0 t a w ht h.1 h.2
 | succ f ih =>
  intro t a w ht hc h
  by_cases hr : Region.ready .any l.toArray t = []
  ·exact fin (f + 1) t a w ht hr (h.1 hr)
  ·have hsub : ∀ i ∈ Region.ready .any (l ++ [o]).toArray (t.push false), i < l.length ∧ i ∈ Region.ready .any l.toArray t := by
    intro i hi
    have hi' := mem_ready.1 hi
    obtain ⟨h1, x, hx, hall⟩ := hi'
    have hlt : i < l.length + 1 := by have := (Array.getElem?_eq_some_iff.1 hx).1; simpa using this
    by_cases e : i < l.length
    ·refine ⟨e, mem_ready.2 ⟨by rw [getD_push (by omega)] at h1; exact h1, x, ?_, fun e' he hb => ?_⟩⟩
     ·have hx2 : (l ++ [o])[i]? = some x := by simpa using hx
      rw [List.getElem?_append, if_pos e] at hx2
      simpa using hx2
     ·have hlow := (lastB_low hB (i := i) (x := x) (by simpa using hx)).1 e' he
      have := hall e' he hb
      rw [getD_push (by omega)] at this; exact this
    ·exfalso
     have : i = l.length := by omega
     subst this
     have hall' := last_ready hB ht hc hi
     refine hr (List.eq_nil_iff_forall_not_mem.2 fun j hj => ?_)
     obtain ⟨k1, y, ky, _⟩ := mem_ready.1 hj
     have hj' : j < l.length := by have := (Array.getElem?_eq_some_iff.1 ky).1; simpa using this
     rw [getD_flip (by omega), hall' j hj'] at k1; cases k1
   have hne : Region.ready .any (l ++ [o]).toArray (t.push false) ≠ [] := by
    obtain ⟨j, hj⟩ := List.exists_mem_of_ne_nil _ hr
    obtain ⟨k1, y, ky, kall⟩ := mem_ready.1 hj
    have hj' : j < l.length := by have := (Array.getElem?_eq_some_iff.1 ky).1; simpa using this
    have hy2 : l[j]? = some y := by simpa using ky
    have hy3 : (l ++ [o])[j]? = some y := by rw [List.getElem?_append, if_pos hj']; exact hy2
    refine List.ne_nil_of_mem (mem_ready.2 ⟨by rw [getD_push (by omega)]; exact k1, y, by simpa using hy3, fun e he hb => ?_⟩ : j ∈ _)
    have hlow := (lastB_low hB hy3).1 e he
    rw [getD_push (by omega)]; exact kall e he hb
   refine ⟨fun h0 => absurd h0 hne, fun i hi => ?_⟩
   obtain ⟨hi1, hi2⟩ := hsub i hi
   refine wpOp_push hi1 hB (fun a' w' hK => ?_) (h.2 i hi2)
   have e : (t.push false).setIfInBounds i true = (t.setIfInBounds i true).push false := by
    apply Array.ext_getElem?
    intro j
    simp only [Array.getElem?_setIfInBounds, Array.getElem?_push, Array.size_push, Array.size_setIfInBounds]
    by_cases hij : i = j
    ·subst hij; simp [ht, hi1, show i < l.length + 1 by omega, Nat.ne_of_lt hi1]
    ·simp [hij]
   rw [e]
   refine ih _ a' w' (by simp [ht]) (fun j y hy hl e' he hb => ?_) hK
   by_cases hij : i = j
   ·subst hij
    obtain ⟨_, y', hy', hall⟩ := mem_ready.1 hi2
    have : y' = y := by rw [show l.toArray[i]? = l[i]? by simp, hy] at hy'; exact (Option.some.inj hy').symm
    subst this
    have hlow := (lastB_low hB (i := i) (x := y') (by rw [List.getElem?_append, if_pos hi1]; exact hy)).1 e' he
    rw [getD_set_ne false (by omega)]; exact hall e' he hb
   ·rw [getD_set_ne false hij] at hl
    have h1 := hc j y hy hl e' he hb
    exact getD_set_true h1

theorem wp_region_last {id : Nat} {a : Act} {w : World} {C : World → Prop} (hm : P.follows .mixedOrders = true) (hB : lastB l o = true) (hL : Region.lexB .any l.toArray = true) (hC : C { w with drawn := w.drawn + 1 })
  (h : wpQuiet P l.toArray C (fun a' => ∀ w', C w' → wpOp P (l ++ [o]).toArray Q l.length (fun a w => Q .normal a w) a' w') l a) : (Code.region id (l ++ [o]).toArray true).wp P Q a w := by
 simp only [Region.lexB, Bool.and_eq_true] at hL
 refine wp_region_any hm ?_
 have h1 := wpAnyQ_lex (P := P) (C := C) (md := .any) hL.1 l 0 (Array.replicate l.length false) a (by simp) (by simpa using hL.2) h
 have h2 := wpAny_of_quiet (Q' := Exit.then (wpOp P (l ++ [o]).toArray Q l.length (fun a w => Q .normal a w)) Q) (fun a' w' hw' hq => hq w' hw') _ _ _ _ hC h1
 have h3 := any_push hB l.length (Array.replicate l.length false) a { w with drawn := w.drawn + 1 } (by simp) (fun i x _ ht => by
  simp [Array.getD_eq_getD_getElem?, Array.getElem?_replicate] at ht
  split at ht <;> simp_all) h2
 have e : (Array.replicate l.length false).push false = Array.replicate (l ++ [o]).toArray.size false := by
  simp [← Array.replicate_succ]
 rw [e] at h3
 simpa using h3
end

section
variable {P : Program} {n : Nat} {G : Ctx} {E : Env} {H : List AObj} {Q : Exit → Env → List AObj → Prop}

/-- A drawn row: all but the last read; then the last, as in a row. -/
theorem ACode_last {id : Nat} {l : List Oper} {o : Oper} (hm : P.follows .mixedOrders = true) (hB : lastB l o = true) (hL : Region.lexB .any l.toArray = true)
  (h : AQ P n G l.toArray l E H (fun E' => AOps P n G (l ++ [o]).toArray [o] E' H (fun E'' H'' => Q .normal E'' H''))) : ACode P n G (.region id (l ++ [o]).toArray true) E H Q := by
 intro r a w hr
 have hb : Below w.heap.size w { w with drawn := w.drawn + 1 } := ⟨rfl, rfl, rfl, Nat.le_refl _, fun _ _ => rfl⟩
 have hr' : Rel n G E H r a { w with drawn := w.drawn + 1 } := hr.below hb
 refine wp_mono (wp_region_last (Q := fun x a' w' => x = .normal ∧ ∃ E' H' r', Q .normal E' H' ∧ Rel n G E' H' r' a' w') (C := Below w.heap.size { w with drawn := w.drawn + 1 }) hm hB hL (Below.refl _ _) ?_) ?_
 ·refine wpQuiet_mono' ?_ _ _ (h r a _ hr')
  rintro a' ⟨E', k, hr2⟩ w' hw'
  have := k r a' w' (hr2.below hw')
  unfold wpOp
  have e : (l ++ [o]).toArray[l.length]? = some o := by simp
  rw [e]
  exact this
 ·rintro x a' w' ⟨rfl, E', H', r', q, hr2⟩
  exact ⟨E', H', r', q, hr2⟩
end
end Go.Proofs.YtldgmcghdohmeaaGreat.Ab
