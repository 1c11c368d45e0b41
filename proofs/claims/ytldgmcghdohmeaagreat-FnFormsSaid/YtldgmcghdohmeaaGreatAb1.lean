/- Own library, part 1: values by content (D), references to memory that a call owns (AV), and what it is that a world holds them. No conditions: definitions and plain lemmas. -/
import Derived.WalkKit
import Derived.Below
import Derived.Deep.Quiet
import Derived.StillTail
set_option linter.unusedVariables false
set_option linter.unusedSimpArgs false
namespace Go.Proofs.YtldgmcghdohmeaaGreat.Ab
open Go Go.RowKit

/-- Data by content: nothing in it leads to memory that may still be written. -/
inductive D where
 | s (v : Value)
 | agg (cs : List D)
 | sl (isNil : Option Bool) (cs : List D)
 | pv (cs : List D) (off : Nat)
 | clo (f : FuncId) (cap : List D)
 | se (isNil : Option Bool)
 | ru (cs : List D)

/-- What a slot holds: data, or a reference to an object of the state. -/
inductive AV where
 | d (x : D)
 | ptr (o off : Nat)
 | vec (o g : Nat)
 | eptr (o g i : Nat)
 | part (o g lo n : Nat)
 | clo (f : FuncId) (cap : List AV)
 | tup (cs : List AV)

inductive AObj where
 | box (cs : List D)
 | ref (v : AV)
 | vec (g : Nat) (cs : List D)
 | gone
 | mp (v : Value) (I : Obj → Prop)

def AObj.live : AObj → Bool
 | .gone => false
 | _ => true

/-- A block that is there and that no object of the state owns. -/
def free (w : World) (H : List AObj) (r : List Nat) (b : Nat) : Prop :=
 b < w.heap.size ∧ ∀ (o : Nat) (x : AObj), H[o]? = some x → x.live = true → r[o]? ≠ some b

/-- .. and that is none of a caller's own (F). -/
def imm (F : Nat → Prop) (w : World) (H : List AObj) (r : List Nat) (b : Nat) : Prop := free w H r b ∧ ¬ F b

inductive RepD (w : World) (I : Nat → Prop) : D → Value → Prop
 | s (v : Value) : RepD w I (.s v) v
 | agg (cs : List D) (vs : Array Value) (hl : vs.size = cs.length)
   (h : ∀ (i : Nat) (c : D) (v : Value), cs[i]? = some c → vs[i]? = some v → RepD w I c v) : RepD w I (.agg cs) (.agg vs)
 | sl (isNil : Option Bool) (cs : List D) (vs : List Value) (A : Option Addr) (cap : Nat) (hl : vs.length = cs.length)
   (hn : ∀ b, isNil = some b → A.isNone = b) (hc : cs.length ≤ cap)
   (hA : cs ≠ [] → ∃ b off, A = some ⟨b, off, none⟩ ∧ I b ∧ ∀ (i : Nat) (v : Value), vs[i]? = some v → w.cell? ⟨b, off + i, none⟩ = some v)
   (h : ∀ (i : Nat) (c : D) (v : Value), cs[i]? = some c → vs[i]? = some v → RepD w I c v) : RepD w I (.sl isNil cs) (.slice A cs.length cap)
 | pv (cs : List D) (off : Nat) (vs : List Value) (b base : Nat) (hl : vs.length = cs.length) (hI : I b)
   (hcell : ∀ (i : Nat) (v : Value), vs[i]? = some v → w.cell? ⟨b, base + i, none⟩ = some v)
   (h : ∀ (i : Nat) (c : D) (v : Value), cs[i]? = some c → vs[i]? = some v → RepD w I c v) : RepD w I (.pv cs off) (.pointer (some ⟨b, base + off, none⟩))
 | clo (f : FuncId) (cap : List D) (vs : Array Value) (hl : vs.size = cap.length)
   (h : ∀ (i : Nat) (c : D) (v : Value), cap[i]? = some c → vs[i]? = some v → RepD w I c v) : RepD w I (.clo f cap) (.func (.func f) #[] vs)
 | se (isNil : Option Bool) (A : Option Addr) (hn : ∀ b, isNil = some b → A.isNone = b) : RepD w I (.se isNil) (.slice A 0 0)
 | ru (cs : List D) (vs : Array Value) (ty : TypeId) (b : Nat) (hI : I b) (hb : w.heap[b]? = some (.cells vs ty (0, 0))) (hc : cs.length ≤ vs.size) (hm : vs.size ≤ maxLen)
   (h : ∀ (i : Nat) (c : D) (v : Value), cs[i]? = some c → (vs.toList.take cs.length)[i]? = some v → RepD w I c v) : RepD w I (.ru cs) (.slice (some ⟨b, 0, none⟩) cs.length vs.size)

theorem RepD.mono {w w' : World} {I I' : Nat → Prop} (hI : ∀ b, I b → w'.heap[b]? = w.heap[b]? ∧ I' b) {d : D} {v : Value} (h : RepD w I d v) : RepD w' I' d v := by
 induction h with
 | s v => exact .s v
 | agg cs vs hl _ ih => exact .agg cs vs hl ih
 | sl isNil cs vs A cap hl hn hc hA _ ih =>
  refine .sl isNil cs vs A cap hl hn hc (fun hne => ?_) ih
  obtain ⟨b, off, e, hb, hcell⟩ := hA hne
  refine ⟨b, off, e, (hI b hb).2, fun i v hv => ?_⟩
  rw [World.cell?_of_block (w := w) (a := ⟨b, off + i, none⟩) (hI b hb).1]
  exact hcell i v hv
 | pv cs off vs b base hl hb hcell _ ih =>
  refine .pv cs off vs b base hl (hI b hb).2 (fun i v hv => ?_) ih
  rw [World.cell?_of_block (w := w) (a := ⟨b, base + i, none⟩) (hI b hb).1]
  exact hcell i v hv
 | clo f cap vs hl _ ih => exact .clo f cap vs hl ih
 | se isNil A hn => exact .se isNil A hn
 | ru cs vs ty b hb hcell hc hm _ ih => exact .ru cs vs ty b (hI b hb).2 (by rw [(hI b hb).1]; exact hcell) hc hm ih

/-- Lists of data, cell by cell. -/
def RepL (w : World) (I : Nat → Prop) (cs : List D) (vs : List Value) : Prop :=
 vs.length = cs.length ∧ ∀ (i : Nat) (c : D) (v : Value), cs[i]? = some c → vs[i]? = some v → RepD w I c v

theorem RepL.mono {w w' : World} {I I' : Nat → Prop} (hI : ∀ b, I b → w'.heap[b]? = w.heap[b]? ∧ I' b) {cs : List D} {vs : List Value} (h : RepL w I cs vs) : RepL w' I' cs vs :=
 ⟨h.1, fun i c v hc hv => (h.2 i c v hc hv).mono hI⟩

theorem RepL.get {w : World} {I : Nat → Prop} {cs : List D} {vs : List Value} (h : RepL w I cs vs) {i : Nat} {c : D} (hc : cs[i]? = some c) : ∃ v, vs[i]? = some v ∧ RepD w I c v := by
 obtain ⟨hi, rfl⟩ := List.getElem?_eq_some_iff.1 hc
 have hv : i < vs.length := by rw [h.1]; exact hi
 exact ⟨vs[i], List.getElem?_eq_getElem hv, h.2 i _ _ hc (List.getElem?_eq_getElem hv)⟩

theorem RepL.nil {w : World} {I : Nat → Prop} : RepL w I [] [] := ⟨rfl, fun i c v hc => by simp at hc⟩

theorem RepL.cons {w : World} {I : Nat → Prop} {c : D} {cs : List D} {v : Value} {vs : List Value} (h : RepD w I c v) (t : RepL w I cs vs) : RepL w I (c :: cs) (v :: vs) := by
 refine ⟨by simp [t.1], fun i c' v' hc hv => ?_⟩
 cases i with
 | zero => simp at hc hv; subst hc; subst hv; exact h
 | succ i => simp at hc hv; exact t.2 i c' v' hc hv

theorem RepL.append {w : World} {I : Nat → Prop} {cs ds : List D} {vs us : List Value} (h : RepL w I cs vs) (k : RepL w I ds us) : RepL w I (cs ++ ds) (vs ++ us) := by
 refine ⟨by simp [h.1, k.1], fun i c v hc hv => ?_⟩
 rw [List.getElem?_append] at hc hv
 by_cases hi : i < cs.length
 ·rw [if_pos hi] at hc
  rw [if_pos (by rw [h.1]; exact hi)] at hv
  exact h.2 i c v hc hv
 ·rw [if_neg hi] at hc
  rw [if_neg (by rw [h.1]; exact hi), h.1] at hv
  exact k.2 _ c v hc hv

theorem RepL.drop {w : World} {I : Nat → Prop} {cs : List D} {vs : List Value} (h : RepL w I cs vs) (k : Nat) : RepL w I (cs.drop k) (vs.drop k) := by
 refine ⟨by simp [h.1], fun i c v hc hv => ?_⟩
 rw [List.getElem?_drop] at hc hv
 exact h.2 _ c v hc hv

theorem RepL.take {w : World} {I : Nat → Prop} {cs : List D} {vs : List Value} (h : RepL w I cs vs) (k : Nat) : RepL w I (cs.take k) (vs.take k) := by
 refine ⟨by simp [h.1], fun i c v hc hv => ?_⟩
 rw [List.getElem?_take] at hc hv
 split at hc
 ·rename_i hi
  rw [if_pos hi] at hv
  exact h.2 _ c v hc hv
 ·simp at hc

theorem RepL.set {w : World} {I : Nat → Prop} {cs : List D} {vs : List Value} (h : RepL w I cs vs) (k : Nat) {c : D} {v : Value} (hr : RepD w I c v) : RepL w I (cs.set k c) (vs.set k v) := by
 refine ⟨by simp [h.1], fun i c' v' hc hv => ?_⟩
 rw [List.getElem?_set] at hc hv
 by_cases hk : k = i
 ·subst hk
  rw [if_pos rfl] at hc hv
  split at hc
  ·rename_i hi
   rw [if_pos (by rw [h.1]; exact hi)] at hv
   cases hc; cases hv; exact hr
  ·simp at hc
 ·rw [if_neg hk] at hc hv
  exact h.2 i c' v' hc hv

/-- The values of a list of data without addresses. -/
theorem RepL.map_s {w : World} {I : Nat → Prop} (xs : List Value) : RepL w I (xs.map D.s) xs := by
 refine ⟨by simp, fun i c v hc hv => ?_⟩
 rw [List.getElem?_map, hv] at hc
 simp at hc; subst hc; exact .s v

theorem RepL.of_map_s {w : World} {I : Nat → Prop} {xs vs : List Value} (h : RepL w I (xs.map D.s) vs) : vs = xs := by
 refine List.ext_getElem? fun i => ?_
 by_cases hi : i < xs.length
 ·obtain ⟨v, hv, hr⟩ := h.get (i := i) (c := .s xs[i]) (by simp [List.getElem?_eq_getElem hi])
  cases hr
  rw [hv, List.getElem?_eq_getElem hi]
 ·have := h.1
  simp at this
  rw [List.getElem?_eq_none (by omega), List.getElem?_eq_none (by omega)]

/-- A box or a variable that holds a reference. -/
def AObj.fixed : AObj → Bool
 | .box _ | .ref _ => true
 | _ => false

/-- References. -/
inductive RepV (F : Nat → Prop) (w : World) (H : List AObj) (r : List Nat) : AV → Value → Prop
 | d (x : D) (v : Value) (h : RepD w (imm F w H r) x v) : RepV F w H r (.d x) v
 | ptr (o off : Nat) (v : Value) (ho : o < H.length)
   (h : ∀ (x : AObj) (b : Nat), H[o]? = some x → r[o]? = some b → x.fixed = true → v = .pointer (some ⟨b, off, none⟩)) : RepV F w H r (.ptr o off) v
 | vec (o g : Nat) (v : Value) (ho : o < H.length)
   (h : ∀ (g' : Nat) (cs : List D) (b : Nat), H[o]? = some (.vec g' cs) → r[o]? = some b → g ≤ g' ∧ (g = g' → ∃ cap vs ty, v = .slice (some ⟨b, 0, none⟩) cs.length cap ∧
    w.heap[b]? = some (.cells vs ty (0, 0)) ∧ cap = vs.size)) : RepV F w H r (.vec o g) v
 | eptr (o g i : Nat) (v : Value) (ho : o < H.length)
   (h : ∀ (g' : Nat) (cs : List D) (b : Nat), H[o]? = some (.vec g' cs) → r[o]? = some b → g ≤ g' ∧ (g = g' → v = .pointer (some ⟨b, i, none⟩))) : RepV F w H r (.eptr o g i) v
 | part (o g lo n : Nat) (v : Value) (ho : o < H.length)
   (h : ∀ (g' : Nat) (cs : List D) (b : Nat), H[o]? = some (.vec g' cs) → r[o]? = some b → g ≤ g' ∧ (g = g' → lo + n ≤ cs.length ∧ ∃ vs ty l c, v = .slice (some ⟨b, l, none⟩) n c ∧
    w.heap[b]? = some (.cells vs ty (0, 0)) ∧ (lo ≠ vs.size → l = lo ∧ c = vs.size - lo))) : RepV F w H r (.part o g lo n) v
 | clo (f : FuncId) (cap : List AV) (vs : Array Value) (hl : vs.size = cap.length)
   (h : ∀ (i : Nat) (c : AV) (v : Value), cap[i]? = some c → vs[i]? = some v → RepV F w H r c v) : RepV F w H r (.clo f cap) (.func (.func f) #[] vs)
 | tup (cs : List AV) (vs : Array Value) (hl : vs.size = cs.length)
   (h : ∀ (i : Nat) (c : AV) (v : Value), cs[i]? = some c → vs[i]? = some v → RepV F w H r c v) : RepV F w H r (.tup cs) (.tuple vs)

/-- An object in its block. -/
inductive RepO (F : Nat → Prop) (w : World) (H : List AObj) (r : List Nat) (b : Nat) : AObj → Prop
 | gone : RepO F w H r b .gone
 | box (cs : List D) (vs : Array Value) (ty : TypeId) (hb : w.heap[b]? = some (.cells vs ty (0, 0))) (h : RepL w (imm F w H r) cs vs.toList) : RepO F w H r b (.box cs)
 | ref (v : AV) (x : Value) (ty : TypeId) (hb : w.heap[b]? = some (.cells #[x] ty (0, 0))) (h : RepV F w H r v x) : RepO F w H r b (.ref v)
 | vec (g : Nat) (cs : List D) (vs : Array Value) (ty : TypeId) (hb : w.heap[b]? = some (.cells vs ty (0, 0))) (hc : cs.length ≤ vs.size) (hm : vs.size ≤ maxLen)
   (h : RepL w (imm F w H r) cs (vs.toList.take cs.length)) : RepO F w H r b (.vec g cs)
 | mp (v : Value) (I : Obj → Prop) (c : Obj) (hv : v = .map (some b)) (hb : w.heap[b]? = some c) (h : I c) : RepO F w H r b (.mp v I)

structure HRel (F : Nat → Prop) (w : World) (H : List AObj) (r : List Nat) : Prop where
 len : r.length = H.length
 inj : ∀ (o o' : Nat) (x x' : AObj) (b : Nat), H[o]? = some x → x.live = true → H[o']? = some x' → x'.live = true → r[o]? = some b → r[o']? = some b → o = o'
 obj : ∀ (o : Nat) (x : AObj) (b : Nat), H[o]? = some x → r[o]? = some b → RepO F w H r b x
 notF : ∀ (o : Nat) (x : AObj) (b : Nat), H[o]? = some x → x.live = true → r[o]? = some b → ¬ F b
 fin : ∀ b, F b → b < w.heap.size

/-- A step of the state: what is not owned stays as it was; references stay good. -/
structure Step (w : World) (H : List AObj) (r : List Nat) (w' : World) (H' : List AObj) (r' : List Nat) : Prop where
 os : w'.os = w.os
 tape : w'.tape = w.tape
 output : w'.output = w.output
 size : w.heap.size ≤ w'.heap.size
 free : ∀ b, free w H r b → w'.heap[b]? = w.heap[b]? ∧ free w' H' r' b
 len : H.length ≤ H'.length
 fixed : ∀ (o : Nat) (x' : AObj) (b' : Nat), o < H.length → H'[o]? = some x' → r'[o]? = some b' → x'.fixed = true →
  ∃ x, H[o]? = some x ∧ r[o]? = some b' ∧ x.fixed = true
 vec : ∀ (o g' : Nat) (cs' : List D) (b' : Nat), o < H.length → H'[o]? = some (.vec g' cs') → r'[o]? = some b' →
  ∃ g cs b, H[o]? = some (.vec g cs) ∧ r[o]? = some b ∧ (g < g' ∨ g = g' ∧ b = b' ∧ cs.length = cs'.length ∧
   ∀ (vs : Array Value) (ty : TypeId), w.heap[b]? = some (.cells vs ty (0, 0)) → ∃ vs' ty', w'.heap[b]? = some (.cells vs' ty' (0, 0)) ∧ vs'.size = vs.size)

theorem Step.refl (w : World) (H : List AObj) (r : List Nat) : Step w H r w H r :=
 ⟨rfl, rfl, rfl, Nat.le_refl _, fun b hb => ⟨rfl, hb⟩, Nat.le_refl _, fun o x' b' _ h1 h2 h3 => ⟨x', h1, h2, h3⟩,
  fun o g' cs' b' _ h1 h2 => ⟨g', cs', b', h1, h2, .inr ⟨rfl, rfl, rfl, fun vs ty h => ⟨vs, ty, h, rfl⟩⟩⟩⟩

theorem Step.trans {w w' w'' : World} {H H' H'' : List AObj} {r r' r'' : List Nat} (h : Step w H r w' H' r') (k : Step w' H' r' w'' H'' r'') : Step w H r w'' H'' r'' := by
 refine ⟨k.os.trans h.os, k.tape.trans h.tape, k.output.trans h.output, Nat.le_trans h.size k.size, fun b hb => ?_, Nat.le_trans h.len k.len, fun o x' b' ho h1 h2 h3 => ?_, fun o g' cs' b' ho h1 h2 => ?_⟩
 ·obtain ⟨e, hb'⟩ := h.free b hb
  obtain ⟨e', hb''⟩ := k.free b hb'
  exact ⟨e'.trans e, hb''⟩
 ·obtain ⟨x, a1, a2, a3⟩ := k.fixed o x' b' (Nat.lt_of_lt_of_le ho h.len) h1 h2 h3
  exact h.fixed o x b' ho a1 a2 a3
 ·obtain ⟨g1, cs1, b1, a1, a2, a3⟩ := k.vec o g' cs' b' (Nat.lt_of_lt_of_le ho h.len) h1 h2
  obtain ⟨g0, cs0, b0, c1, c2, c3⟩ := h.vec o g1 cs1 b1 ho a1 a2
  refine ⟨g0, cs0, b0, c1, c2, ?_⟩
  rcases c3 with c3 | ⟨rfl, rfl, hl, hc⟩
  ·rcases a3 with a3 | ⟨rfl, _⟩
   ·exact .inl (by omega)
   ·exact .inl c3
  ·rcases a3 with a3 | ⟨rfl, rfl, hl', hc'⟩
   ·exact .inl a3
   ·refine .inr ⟨rfl, rfl, hl.trans hl', fun vs ty hv => ?_⟩
    obtain ⟨vs', ty', h', e'⟩ := hc vs ty hv
    obtain ⟨vs'', ty'', h'', e''⟩ := hc' vs' ty' h'
    exact ⟨vs'', ty'', h'', e''.trans e'⟩

theorem Step.imm {F : Nat → Prop} {w w' : World} {H H' : List AObj} {r r' : List Nat} (h : Step w H r w' H' r') (b : Nat) (hb : imm F w H r b) : w'.heap[b]? = w.heap[b]? ∧ imm F w' H' r' b :=
 ⟨(h.free b hb.1).1, (h.free b hb.1).2, hb.2⟩

theorem RepV.step {F : Nat → Prop} {w w' : World} {H H' : List AObj} {r r' : List Nat} (hs : Step w H r w' H' r') {v : AV} {x : Value} (h : RepV F w H r v x) : RepV F w' H' r' v x := by
 induction h with
 | d y v h => exact .d y v (h.mono hs.imm)
 | ptr o off v ho h =>
  refine .ptr o off v (Nat.lt_of_lt_of_le ho hs.len) fun x' b' h1 h2 h3 => ?_
  obtain ⟨x, a1, a2, a3⟩ := hs.fixed o x' b' ho h1 h2 h3
  exact h x b' a1 a2 a3
 | vec o g v ho h =>
  refine .vec o g v (Nat.lt_of_lt_of_le ho hs.len) fun g' cs' b' h1 h2 => ?_
  obtain ⟨g1, cs1, b1, a1, a2, a3⟩ := hs.vec o g' cs' b' ho h1 h2
  obtain ⟨k1, k2⟩ := h g1 cs1 b1 a1 a2
  rcases a3 with a3 | ⟨rfl, rfl, hl, hc⟩
  ·exact ⟨by omega, fun e => by omega⟩
  ·refine ⟨k1, fun e => ?_⟩
   obtain ⟨cap, vs, ty, e1, e2, e3⟩ := k2 e
   obtain ⟨vs', ty', e4, e5⟩ := hc vs ty e2
   exact ⟨cap, vs', ty', by rw [e1, hl], e4, by rw [e3, e5]⟩
 | eptr o g i v ho h =>
  refine .eptr o g i v (Nat.lt_of_lt_of_le ho hs.len) fun g' cs' b' h1 h2 => ?_
  obtain ⟨g1, cs1, b1, a1, a2, a3⟩ := hs.vec o g' cs' b' ho h1 h2
  obtain ⟨k1, k2⟩ := h g1 cs1 b1 a1 a2
  rcases a3 with a3 | ⟨rfl, rfl, hl, hc⟩
  ·exact ⟨by omega, fun e => by omega⟩
  ·exact ⟨k1, k2⟩
 | part o g lo n v ho h =>
  refine .part o g lo n v (Nat.lt_of_lt_of_le ho hs.len) fun g' cs' b' h1 h2 => ?_
  obtain ⟨g1, cs1, b1, a1, a2, a3⟩ := hs.vec o g' cs' b' ho h1 h2
  obtain ⟨k1, k2⟩ := h g1 cs1 b1 a1 a2
  rcases a3 with a3 | ⟨rfl, rfl, hl, hc⟩
  ·exact ⟨by omega, fun e => by omega⟩
  ·refine ⟨k1, fun e => ?_⟩
   obtain ⟨e0, vs, ty, l, c, e1, e2, e3⟩ := k2 e
   obtain ⟨vs', ty', e4, e5⟩ := hc vs ty e2
   exact ⟨by omega, vs', ty', l, c, e1, e4, by rw [e5]; exact e3⟩
 | clo f cap vs hl _ ih => exact .clo f cap vs hl ih
 | tup cs vs hl _ ih => exact .tup cs vs hl ih

/-- The frame: slots, objects, and all that has happened since the call began. -/
abbrev Env := List (Nat × AV)
def Env.get : Env → Nat → Option AV
 | [], _ => none
 | (k, v) :: e, t => bif Nat.beq k t then some v else Env.get e t

structure Ctx where
 F : Nat → Prop
 w : World
 H : List AObj
 r : List Nat

structure Rel (n : Nat) (G : Ctx) (E : Env) (H : List AObj) (r : List Nat) (a : Act) (w : World) : Prop where
 size : a.tmps.size = n
 defers : a.defers = []
 env : ∀ (t : Nat) (v : AV), E.get t = some v → ∃ x, a.tmps[t]? = some x ∧ RepV G.F w H r v x
 heap : HRel G.F w H r
 step : Step G.w G.H G.r w H r

theorem Env.get_cons_self (t : Nat) (v : AV) (E : Env) : Env.get ((t, v) :: E) t = some v := by simp [Env.get]
theorem Env.get_cons_ne {t k : Nat} (v : AV) (E : Env) (h : k ≠ t) : Env.get ((k, v) :: E) t = E.get t := by
 have : Nat.beq k t = false := Bool.eq_false_iff.2 fun h' => h (Nat.eq_of_beq_eq_true h')
 simp [Env.get, this]

/-- A slot gets a value; the world and the objects go a step. -/
theorem Rel.put {n : Nat} {G : Ctx} {E : Env} {H H' : List AObj} {r r' : List Nat} {a : Act} {w w' : World} (h : Rel n G E H r a w) (hs : Step w H r w' H' r') (hh : HRel G.F w' H' r')
  (dst : Option Tmp) (x : Value) (v : AV) (d : Nat) (hd : dst = some d) (hlt : d < n) (hv : RepV G.F w' H' r' v x) : Rel n G ((d, v) :: E) H' r' (a.put dst x) w' := by
 subst hd
 refine ⟨by simp [Act.put, h.size], by simp [Act.put, h.defers], fun t u hu => ?_, hh, h.step.trans hs⟩
 by_cases e : d = t
 ·subst e
  rw [Env.get_cons_self] at hu
  cases hu
  exact ⟨x, by simp [Act.put, Array.getElem?_setIfInBounds, h.size, hlt], hv⟩
 ·rw [Env.get_cons_ne v E e] at hu
  obtain ⟨y, hy, hr⟩ := h.env t u hu
  exact ⟨y, by simp [Act.put, Array.getElem?_setIfInBounds, e, hy], hr.step hs⟩

/-- The same without a slot. -/
theorem Rel.go {n : Nat} {G : Ctx} {E : Env} {H H' : List AObj} {r r' : List Nat} {a : Act} {w w' : World} (h : Rel n G E H r a w) (hs : Step w H r w' H' r') (hh : HRel G.F w' H' r') : Rel n G E H' r' a w' :=
 ⟨h.size, h.defers, fun t u hu => let ⟨y, hy, hr⟩ := h.env t u hu; ⟨y, hy, hr.step hs⟩, hh, h.step.trans hs⟩

end Go.Proofs.YtldgmcghdohmeaaGreat.Ab
