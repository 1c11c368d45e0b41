/- Own library, part 4: what a call leaves behind, and the rule for calls. No conditions. -/
import Derived.Test.YtldgmcghdohmeaaGreatAb3
set_option linter.unusedVariables false
set_option linter.unusedSimpArgs false
namespace Go.Proofs.YtldgmcghdohmeaaGreat.Ab
open Go Go.RowKit

/-- Data that stand for the same whatever the world. -/
def D.flat (d : D) : Prop := ∀ (w w' : World) (I I' : Nat → Prop) (x : Value), RepD w I d x → RepD w' I' d x

theorem flat_s (v : Value) : (D.s v).flat := fun w w' I I' x h => by cases h; exact .s v
theorem flat_agg {cs : List D} (h : ∀ c ∈ cs, c.flat) : (D.agg cs).flat := fun w w' I I' x hr => by
 cases hr with
 | agg _ vs hl hc => exact .agg cs vs hl fun i c v h1 h2 => h c (List.mem_of_getElem? h1) w w' I I' v (hc i c v h1 h2)

def okV (ok : D → Prop) : AV → Prop
 | .d x => ok x
 | .ptr _ _ => True
 | .vec _ _ => True
 | .part _ _ _ _ => True
 | _ => False

def okO (ok : D → Prop) : AObj → Prop
 | .box cs => ∀ c ∈ cs, ok c
 | .vec _ cs => ∀ c ∈ cs, ok c
 | .ref v => okV ok v
 | .gone => True
 | .mp _ _ => True

def backId (base : Nat) (sel : List Nat) (k : Nat) : Nat := bif Nat.blt k sel.length then sel.getD k 0 else base + (k - sel.length)

/-- The age that a handed object has in the caller's frame. -/
def oldG (H : List AObj) (sel : List Nat) (k : Nat) : Nat := match sel[k]? with
 | some o => match H[o]? with
  | some (.vec g _) => g
  | _ => 0
 | none => 0

def back (H : List AObj) (sel : List Nat) : AV → AV
 | .ptr k off => .ptr (backId H.length sel k) off
 | .vec k g => .vec (backId H.length sel k) (g + oldG H sel k)
 | .part k g lo n => .part (backId H.length sel k) (g + oldG H sel k) lo n
 | v => v

def backO (H : List AObj) (sel : List Nat) (k : Nat) : AObj → AObj
 | .ref v => .ref (back H sel v)
 | .vec g cs => .vec (g + oldG H sel k) cs
 | x => x

def backHeap (H : List AObj) (sel : List Nat) (H' : List AObj) : List AObj :=
 (H.mapIdx fun o x => match idx sel o with
  | some k => match H'[k]? with
   | some y => backO H sel k y
   | none => x
  | none => x) ++ (H'.drop sel.length).map (backO H sel sel.length)

def backBlocks (r : List Nat) (sel : List Nat) (r' : List Nat) : List Nat :=
 (r.mapIdx fun o b => match idx sel o with
  | some k => r'.getD k b
  | none => b) ++ r'.drop sel.length

theorem oldG_out {H : List AObj} {sel : List Nat} {k : Nat} (h : sel.length ≤ k) : oldG H sel k = 0 := by
 unfold oldG; rw [List.getElem?_eq_none h]
theorem backO_out {H : List AObj} {sel : List Nat} {k : Nat} (h : sel.length ≤ k) (x : AObj) : backO H sel sel.length x = backO H sel k x := by
 cases x <;> simp [backO, oldG_out h, oldG_out (Nat.le_refl _)]

theorem backO_live (H : List AObj) (sel : List Nat) (k : Nat) (x : AObj) : (backO H sel k x).live = x.live := by cases x <;> rfl
theorem backO_fixed (H : List AObj) (sel : List Nat) (k : Nat) (x : AObj) : (backO H sel k x).fixed = x.fixed := by cases x <;> rfl
theorem backO_vec {H : List AObj} {sel : List Nat} {k : Nat} {x : AObj} {g : Nat} {cs : List D} (h : backO H sel k x = .vec g cs) : ∃ g', x = .vec g' cs ∧ g = g' + oldG H sel k := by
 cases x <;> simp [backO] at h
 obtain ⟨rfl, rfl⟩ := h
 exact ⟨_, rfl, rfl⟩

section
variable {bw : Md} {F F' : Nat → Prop} {w w' : World} {H Hs H' : List AObj} {r r' sel : List Nat}

/-- An object of the caller behind the call: one of its own, left alone, or one of the callee's frame. -/
theorem backHeap_get (hs : Seen bw F w H r sel F' Hs) (hst : Step w Hs (selBlocks r sel) w' H' r') (hh : HRel F' w' H' r') {o : Nat} {y : AObj} {b : Nat}
  (hy : (backHeap H sel H')[o]? = some y) (hb : (backBlocks r sel r')[o]? = some b) :
  (o < H.length ∧ idx sel o = none ∧ H[o]? = some y ∧ r[o]? = some b) ∨ (∃ k x, backId H.length sel k = o ∧ H'[k]? = some x ∧ r'[k]? = some b ∧ y = backO H sel k x ∧ (o < H.length → idx sel o = some k) ∧ (H.length ≤ o → k = sel.length + (o - H.length))) := by
 have hl : Hs.length = sel.length := (selHeap_get hs.got).1
 have hlen := hst.len
 have hr : r.length = H.length := hs.heap.len
 have hr' : r'.length = H'.length := hh.len
 unfold backHeap at hy
 unfold backBlocks at hb
 rw [List.getElem?_append] at hy hb
 simp only [List.length_mapIdx] at hy hb
 by_cases ho : o < H.length
 ·rw [if_pos ho] at hy
  rw [if_pos (by rw [hr]; exact ho)] at hb
  rw [List.getElem?_mapIdx, List.getElem?_eq_getElem ho] at hy
  rw [List.getElem?_mapIdx, List.getElem?_eq_getElem (by rw [hr]; exact ho)] at hb
  simp only [Option.map_some, Option.some.injEq] at hy hb
  cases hk : idx sel o with
  | none =>
   rw [hk] at hy hb
   exact .inl ⟨ho, rfl, by rw [List.getElem?_eq_getElem ho, ← hy], by rw [List.getElem?_eq_getElem (by rw [hr]; exact ho), ← hb]⟩
  | some k =>
   rw [hk] at hy hb
   simp only at hy hb
   have hks := hs.len hk
   have hk' : k < H'.length := by omega
   rw [List.getElem?_eq_getElem hk'] at hy
   simp only at hy
   refine .inr ⟨k, H'[k], ?_, List.getElem?_eq_getElem hk', ?_, hy.symm, fun _ => rfl, fun h => by omega⟩
   ·have h1 : Nat.blt k sel.length = true := by rw [Nat.blt_eq]; omega
    unfold backId
    rw [h1, cond_true]
    have := idx_some hk
    simp [List.getD_eq_getElem?_getD, this]
   ·rw [← hb, List.getD_eq_getElem?_getD, List.getElem?_eq_getElem (by rw [hr']; exact hk')]; rfl
 ·rw [if_neg ho] at hy
  rw [if_neg (by rw [hr]; exact ho), hr] at hb
  rw [List.getElem?_map, List.getElem?_drop] at hy
  rw [List.getElem?_drop] at hb
  obtain ⟨x, hx, hxy⟩ := Option.map_eq_some_iff.1 hy
  refine .inr ⟨sel.length + (o - H.length), x, ?_, hx, hb, by rw [← hxy]; exact backO_out (Nat.le_add_right _ _) x, fun h => absurd h ho, fun _ => rfl⟩
  have h1 : Nat.blt (sel.length + (o - H.length)) sel.length = false := by
   rw [Bool.eq_false_iff]; intro h; rw [Nat.blt_eq] at h; omega
  unfold backId
  rw [h1, cond_false]
  omega

theorem backHeap_len : (backHeap H sel H').length = H.length + (H'.length - sel.length) := by simp [backHeap]
theorem backBlocks_len : (backBlocks r sel r').length = r.length + (r'.length - sel.length) := by simp [backBlocks]

/-- The callee's blocks in the caller's list. -/
theorem backBlocks_id (hs : Seen bw F w H r sel F' Hs) (hst : Step w Hs (selBlocks r sel) w' H' r') (hh : HRel F' w' H' r') {k : Nat} (hk : k < H'.length) :
  backId H.length sel k < (backHeap H sel H').length ∧ (backHeap H sel H')[backId H.length sel k]? = H'[k]?.map (backO H sel k) ∧ (backBlocks r sel r')[backId H.length sel k]? = r'[k]? := by
 have hl : Hs.length = sel.length := (selHeap_get hs.got).1
 have hlen := hst.len
 have hr : r.length = H.length := hs.heap.len
 have hr' : r'.length = H'.length := hh.len
 by_cases hm : k < sel.length
 ·have h1 : Nat.blt k sel.length = true := by rw [Nat.blt_eq]; exact hm
  have hid : backId H.length sel k = sel[k] := by
   unfold backId; rw [h1, cond_true]; simp [List.getD_eq_getElem?_getD, List.getElem?_eq_getElem hm]
  obtain ⟨x, y, e1, e2, e3⟩ := (selHeap_get hs.got).2 k sel[k] (List.getElem?_eq_getElem hm)
  have ho : sel[k] < H.length := (List.getElem?_eq_some_iff.1 e1).1
  have hi : idx sel sel[k] = some k := idx_of_get hs.nodup (List.getElem?_eq_getElem hm)
  rw [hid]
  refine ⟨by rw [backHeap_len]; omega, ?_, ?_⟩
  ·unfold backHeap
   rw [List.getElem?_append, if_pos (by simpa using ho), List.getElem?_mapIdx, List.getElem?_eq_getElem ho]
   simp only [Option.map_some, hi, List.getElem?_eq_getElem hk]
  ·unfold backBlocks
   rw [List.getElem?_append, if_pos (by simpa [hr] using ho), List.getElem?_mapIdx, List.getElem?_eq_getElem (by rw [hr]; exact ho)]
   simp only [Option.map_some, hi]
   rw [List.getD_eq_getElem?_getD, List.getElem?_eq_getElem (by rw [hr']; exact hk)]; rfl
 ·have h1 : Nat.blt k sel.length = false := by rw [Bool.eq_false_iff]; intro h; rw [Nat.blt_eq] at h; omega
  have hid : backId H.length sel k = H.length + (k - sel.length) := by unfold backId; rw [h1, cond_false]
  rw [hid]
  refine ⟨by rw [backHeap_len]; omega, ?_, ?_⟩
  ·unfold backHeap
   rw [List.getElem?_append, if_neg (by simp), List.getElem?_map, List.getElem?_drop]
   simp only [List.length_mapIdx]
   rw [show sel.length + (H.length + (k - sel.length) - H.length) = k by omega]
   congr 1
   funext x
   exact backO_out (by omega) x
  ·unfold backBlocks
   rw [List.getElem?_append, if_neg (by simp [hr]), List.getElem?_drop]
   simp only [List.length_mapIdx]
   rw [show sel.length + (H.length + (k - sel.length) - r.length) = k by omega]

/-- What a call leaves. -/
structure Left (bw : Md) (F F' : Nat → Prop) (w : World) (H : List AObj) (r sel : List Nat) (Hs : List AObj) (w' : World) (H' : List AObj) (r' : List Nat) (ok : D → Prop) : Prop where
 seen : Seen bw F w H r sel F' Hs
 step : Step w Hs (selBlocks r sel) w' H' r'
 heap : HRel F' w' H' r'
 sub : ∀ b, F b → F' b
 okH : ∀ x ∈ H', okO ok x
 nz : ∀ g, bw.g g = 0
 okD : ∀ (d : D) (x : Value), ok d → RepD w' (imm F' w' H' r') d x → RepD w' (imm F w' (backHeap H sel H') (backBlocks r sel r')) d x

variable {ok : D → Prop}

theorem Left.freeSel (h : Left bw F F' w H r sel Hs w' H' r' ok) {b : Nat} (hb : free w H r b) : free w Hs (selBlocks r sel) b := by
 refine ⟨hb.1, fun k y h1 h2 => ?_⟩
 have hg := selHeap_get h.seen.got
 have hk : k < sel.length := by rw [← hg.1]; exact (List.getElem?_eq_some_iff.1 h1).1
 obtain ⟨x, y', e1, e2, e3⟩ := hg.2 k sel[k] (List.getElem?_eq_getElem hk)
 rw [h1] at e3; cases e3
 obtain ⟨b', hb'⟩ := h.seen.heap.blk e1
 rw [selBlocks_get (List.getElem?_eq_getElem hk)]
 have := hb.2 sel[k] x e1 (by rw [← viewO_live e2]; exact h2)
 rw [hb'] at this
 simp [List.getD_eq_getElem?_getD, hb']
 intro e; exact this (by rw [e])

/-- A block of an object that isn't handed on is as good as free for the callee. -/
theorem Left.unsel (h : Left bw F F' w H r sel Hs w' H' r' ok) {o : Nat} {x : AObj} {b : Nat} (ho : H[o]? = some x) (hl : x.live = true) (hb : r[o]? = some b) (hk : idx sel o = none) : free w Hs (selBlocks r sel) b := by
 refine ⟨(h.seen.heap.obj o x b ho hb).lt hl, fun k y h1 h2 => ?_⟩
 have hg := selHeap_get h.seen.got
 have hk' : k < sel.length := by rw [← hg.1]; exact (List.getElem?_eq_some_iff.1 h1).1
 obtain ⟨x', y', e1, e2, e3⟩ := hg.2 k sel[k] (List.getElem?_eq_getElem hk')
 rw [h1] at e3; cases e3
 obtain ⟨b', hb'⟩ := h.seen.heap.blk e1
 rw [selBlocks_get (List.getElem?_eq_getElem hk')]
 simp [List.getD_eq_getElem?_getD, hb']
 intro e
 subst e
 have := h.seen.heap.inj o sel[k] x x' b' ho hl e1 (by rw [← viewO_live e2]; exact h2) hb hb'
 exact idx_none hk (this ▸ List.getElem_mem hk')

theorem Left.free' (h : Left bw F F' w H r sel Hs w' H' r' ok) {b : Nat} (hb : free w H r b) : free w' (backHeap H sel H') (backBlocks r sel r') b := by
 have h1 := (h.step.free b (h.freeSel hb)).2
 refine ⟨h1.1, fun o y hy hl hb' => ?_⟩
 rcases backHeap_get h.seen h.step h.heap hy hb' with ⟨_, _, e1, e2⟩ | ⟨k, x, _, e1, e2, e3, _⟩
 ·exact hb.2 o y e1 hl e2
 ·exact h1.2 k x e1 (by rw [e3, backO_live] at hl; exact hl) e2

theorem Left.toStep (h : Left bw F F' w H r sel Hs w' H' r' ok) : Step w H r w' (backHeap H sel H') (backBlocks r sel r') := by
 refine ⟨h.step.os, h.step.tape, h.step.output, h.step.size, fun b hb => ⟨(h.step.free b (h.freeSel hb)).1, h.free' hb⟩, by rw [backHeap_len]; omega, ?_, ?_⟩
 ·intro o y b ho hy hb hf
  rcases backHeap_get h.seen h.step h.heap hy hb with ⟨_, _, e1, e2⟩ | ⟨k, x, e0, e1, e2, e3, e4, _⟩
  ·exact ⟨y, e1, e2, hf⟩
  ·have hk := e4 ho
   obtain ⟨z, a1, a2, a3⟩ := h.step.fixed k x b (h.seen.len hk) e1 e2 (by rw [e3, backO_fixed] at hf; exact hf)
   obtain ⟨x0, c1, c2, c3⟩ := h.seen.at hk a1
   exact ⟨x0, c1, by rw [← c3]; exact a2, by rw [← viewO_fixed c2]; exact a3⟩
 ·intro o g' cs' b' ho hy hb
  rcases backHeap_get h.seen h.step h.heap hy hb with ⟨_, hk, e1, e2⟩ | ⟨k, x, e0, e1, e2, e3, e4, _⟩
  ·refine ⟨g', cs', b', e1, e2, .inr ⟨rfl, rfl, rfl, fun vs ty hv => ⟨vs, ty, ?_, rfl⟩⟩⟩
   rw [(h.step.free b' (h.unsel e1 rfl e2 hk)).1]; exact hv
  ·have hk := e4 ho
   obtain ⟨g2, rfl, rfl⟩ := backO_vec e3.symm
   obtain ⟨g, cs, b, a1, a2, a3⟩ := h.step.vec k g2 cs' b' (h.seen.len hk) e1 e2
   obtain ⟨x0, c1, c2, c3⟩ := h.seen.at hk a1
   obtain ⟨g0, rfl, rfl⟩ := viewO_vec c2
   have hold : oldG H sel k = g0 := by unfold oldG; rw [idx_some hk]; simp [c1]
   rw [h.nz g0] at a3
   refine ⟨g0, cs, b, c1, by rw [← c3]; exact a2, ?_⟩
   rw [hold]
   rcases a3 with a3 | ⟨rfl, a4⟩
   ·exact .inl (by omega)
   ·exact .inr ⟨by omega, a4⟩

theorem Left.okL (h : Left bw F F' w H r sel Hs w' H' r' ok) {cs : List D} {vs : List Value} (hc : ∀ c ∈ cs, ok c) (hl : RepL w' (imm F' w' H' r') cs vs) : RepL w' (imm F w' (backHeap H sel H') (backBlocks r sel r')) cs vs :=
 ⟨hl.1, fun i c v h1 h2 => h.okD c v (hc c (List.mem_of_getElem? h1)) (hl.2 i c v h1 h2)⟩

theorem Left.repV (h : Left bw F F' w H r sel Hs w' H' r' ok) {v : AV} {x : Value} (hok : okV ok v) (hr : RepV F' w' H' r' v x) : RepV F w' (backHeap H sel H') (backBlocks r sel r') (back H sel v) x := by
 cases v with
 | d y => cases hr with | d _ _ hd => exact .d _ _ (h.okD y x hok hd)
 | ptr k off =>
  cases hr with
  | ptr _ _ _ ho hp =>
   obtain ⟨a1, a2, a3⟩ := backBlocks_id h.seen h.step h.heap ho
   refine .ptr _ off x a1 fun y b h1 h2 h3 => ?_
   rw [a2] at h1
   rw [a3] at h2
   obtain ⟨z, hz, rfl⟩ := Option.map_eq_some_iff.1 h1
   exact hp z b hz h2 (by rw [backO_fixed] at h3; exact h3)
 | vec k g =>
  cases hr with
  | vec _ _ _ ho hp =>
   obtain ⟨a1, a2, a3⟩ := backBlocks_id h.seen h.step h.heap ho
   refine .vec _ _ x a1 fun g' cs b h1 h2 => ?_
   rw [a2] at h1
   rw [a3] at h2
   obtain ⟨z, hz, hz'⟩ := Option.map_eq_some_iff.1 h1
   obtain ⟨g2, rfl, rfl⟩ := backO_vec hz'
   obtain ⟨p1, p2⟩ := hp g2 cs b hz h2
   exact ⟨by omega, fun e => p2 (by omega)⟩
 | eptr k g i => exact hok.elim
 | part k g lo n =>
  cases hr with
  | part _ _ _ _ _ ho hp =>
   obtain ⟨a1, a2, a3⟩ := backBlocks_id h.seen h.step h.heap ho
   refine .part _ _ lo n x a1 fun g' cs b h1 h2 => ?_
   rw [a2] at h1
   rw [a3] at h2
   obtain ⟨z, hz, hz'⟩ := Option.map_eq_some_iff.1 h1
   obtain ⟨g2, rfl, rfl⟩ := backO_vec hz'
   obtain ⟨p1, p2⟩ := hp g2 cs b hz h2
   exact ⟨by omega, fun e => p2 (by omega)⟩
 | clo f cap => exact hok.elim
 | tup cs => exact hok.elim

theorem Left.toHRel (h : Left bw F F' w H r sel Hs w' H' r' ok) : HRel F w' (backHeap H sel H') (backBlocks r sel r') := by
 have hst := h.toStep
 refine ⟨?_, ?_, ?_, ?_, fun b hb => Nat.lt_of_lt_of_le (h.seen.heap.fin b hb) h.step.size⟩
 ·rw [backHeap_len, backBlocks_len, h.seen.heap.len, h.heap.len]
 ·intro o o' y y' b h1 l1 h2 l2 h3 h4
  have bad : ∀ (o : Nat) (x : AObj) (k : Nat) (z : AObj), H[o]? = some x → x.live = true → r[o]? = some b → idx sel o = none → H'[k]? = some z → z.live = true → r'[k]? = some b → False :=
   fun o x k z a1 a2 a3 a4 a5 a6 a7 => (h.step.free b (h.unsel a1 a2 a3 a4)).2.2 k z a5 a6 a7
  rcases backHeap_get h.seen h.step h.heap h1 h3 with ⟨_, k1, e1, e2⟩ | ⟨k, x, f0, f1, f2, f3, f4, f5⟩ <;>
  rcases backHeap_get h.seen h.step h.heap h2 h4 with ⟨_, k2, e3, e4⟩ | ⟨k', x', g0, g1, g2, g3, g4, g5⟩
  ·exact h.seen.heap.inj o o' y y' b e1 l1 e3 l2 e2 e4
  ·exact (bad o y k' x' e1 l1 e2 k1 g1 (by rw [g3, backO_live] at l2; exact l2) g2).elim
  ·exact (bad o' y' k x e3 l2 e4 k2 f1 (by rw [f3, backO_live] at l1; exact l1) f2).elim
  ·have := h.heap.inj k k' x x' b f1 (by rw [f3, backO_live] at l1; exact l1) g1 (by rw [g3, backO_live] at l2; exact l2) f2 g2
   subst this
   rw [← f0, ← g0]
 ·intro o y b hy hb
  rcases backHeap_get h.seen h.step h.heap hy hb with ⟨_, k1, e1, e2⟩ | ⟨k, x, f0, f1, f2, f3, f4, f5⟩
  ·have hO := h.seen.heap.obj o y b e1 e2
   have same : y.live = true → w'.heap[b]? = w.heap[b]? := fun hl => (h.step.free b (h.unsel e1 hl e2 k1)).1
   cases hO with
   | gone => exact .gone
   | mp v I c hv hb' hI0 => exact .mp v I c hv (by rw [same rfl]; exact hb') hI0
   | box cs vs ty hb' hl => exact .box cs vs ty (by rw [same rfl]; exact hb') (hl.mono hst.imm)
   | ref v z ty hb' hl => exact .ref v z ty (by rw [same rfl]; exact hb') (hl.step hst)
   | vec g cs vs ty hb' hc hm hl => exact .vec g cs vs ty (by rw [same rfl]; exact hb') hc hm (hl.mono hst.imm)
  ·have hO := h.heap.obj k x b f1 f2
   have hok := h.okH x (List.mem_of_getElem? f1)
   subst f3
   cases hO with
   | gone => exact .gone
   | mp v I c hv hb' hI0 => exact .mp v I c hv hb' hI0
   | box cs vs ty hb' hl => exact .box cs vs ty hb' (h.okL hok hl)
   | ref v z ty hb' hl => exact .ref _ z ty hb' (h.repV hok hl)
   | vec g cs vs ty hb' hc hm hl => exact .vec _ cs vs ty hb' hc hm (h.okL hok hl)
 ·intro o y b hy hl hb hF
  rcases backHeap_get h.seen h.step h.heap hy hb with ⟨_, k1, e1, e2⟩ | ⟨k, x, f0, f1, f2, f3, f4, f5⟩
  ·exact h.seen.heap.notF o y b e1 hl e2 hF
  ·exact h.heap.notF k x b f1 (by rw [f3, backO_live] at hl; exact hl) f2 (h.sub b hF)
end
end Go.Proofs.YtldgmcghdohmeaaGreat.Ab
