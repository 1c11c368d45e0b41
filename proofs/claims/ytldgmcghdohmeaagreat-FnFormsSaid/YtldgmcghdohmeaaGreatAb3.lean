/- Own library, part 3: codes (rows, sequences, tests, blocks, loops), a function's contract, and calls. No conditions. -/
import Derived.Test.YtldgmcghdohmeaaGreatAb2
set_option linter.unusedVariables false
set_option linter.unusedSimpArgs false
namespace Go.Proofs.YtldgmcghdohmeaaGreat.Ab
open Go Go.RowKit

section
variable {P : Program} {n : Nat} {G : Ctx} {E : Env} {H : List AObj} {Q : Exit → Env → List AObj → Prop}

theorem ACode_mono {c : Code} {Q' : Exit → Env → List AObj → Prop} (h : ACode P n G c E H Q) (hq : ∀ x E H, Q x E H → Q' x E H) : ACode P n G c E H Q' :=
 fun r a w hr => wp_mono (h r a w hr) fun x a w ⟨E', H', r', q, k⟩ => ⟨E', H', r', hq _ _ _ q, k⟩

theorem ACode_region {id : Nat} {l : List Oper} (h : AOps P n G l.toArray l E H (fun E' H' => Q .normal E' H')) : ACode P n G (.region id l.toArray false) E H Q := by
 intro r a w hr
 refine wp_mono (wp_region_lit (h r a w hr)) ?_
 rintro x a' w' ⟨rfl, E', H', r', k, hr'⟩
 exact ⟨E', H', r', k, hr'⟩

def seqQ (K : Env → List AObj → Prop) (Q : Exit → Env → List AObj → Prop) : Exit → Env → List AObj → Prop
 | .normal, E, H => K E H
 | x, E, H => Q x E H

theorem ACode_seq {c d : Code} (h : ACode P n G c E H (seqQ (fun E' H' => ACode P n G d E' H' Q) Q)) : ACode P n G (.seq c d) E H Q := by
 intro r a w hr
 refine wp_seq (wp_mono (h r a w hr) ?_)
 rintro x a' w' ⟨E', H', r', q, hr'⟩
 cases x <;> first | exact q r' a' w' hr' | exact ⟨E', H', r', q, hr'⟩

theorem ACode_skip (h : Q .normal E H) : ACode P n G .skip E H Q := fun r a w hr => wp_skip ⟨E, H, r, h, hr⟩
theorem ACode_exit {id : Nat} (h : Q (.exit id) E H) : ACode P n G (.exit id) E H Q := fun r a w hr => wp_exit ⟨E, H, r, h, hr⟩
theorem ACode_ret (h : Q .ret E H) : ACode P n G .ret E H Q := fun r a w hr => wp_ret ⟨E, H, r, h, hr⟩

theorem ACode_cond {c : Operand} {x y : Code} (b : Bool) (hc : evalO E c = some (.d (.s (.bool b)))) (ht : b = true → ACode P n G x E H Q) (hf : b = false → ACode P n G y E H Q) :
  ACode P n G (.cond c x y) E H Q := by
 intro r a w hr
 exact wp_cond_split (evalO_s hr hc) (fun h => ht h r a w hr) (fun h => hf h r a w hr)

def blockQ (id : Nat) (Q : Exit → Env → List AObj → Prop) : Exit → Env → List AObj → Prop
 | .exit id', E, H => bif Nat.beq id' id then Q .normal E H else Q (.exit id') E H
 | x, E, H => Q x E H

theorem ACode_block {id : Nat} {c : Code} (h : ACode P n G c E H (blockQ id Q)) : ACode P n G (.block id c) E H Q := by
 intro r a w hr
 refine wp_block (wp_mono (h r a w hr) ?_)
 rintro x a' w' ⟨E', H', r', q, hr'⟩
 cases x with
 | exit id' =>
  simp only [Exit.inBlock]
  simp only [blockQ] at q
  by_cases e : id' = id
  ·subst e
   rw [Nat.beq_refl, cond_true] at q
   rw [if_pos rfl]
   exact ⟨E', H', r', q, hr'⟩
  ·have : Nat.beq id' id = false := Bool.eq_false_iff.2 fun h' => e (Nat.eq_of_beq_eq_true h')
   rw [this, cond_false] at q
   rw [if_neg e]
   exact ⟨E', H', r', q, hr'⟩
 | _ => exact ⟨E', H', r', q, hr'⟩

/-- A loop: a relation on states with a number of rounds that are left at most. -/
theorem ACode_loop {c : Code} (I : Nat → Env → List AObj → Prop) (k : Nat) (h0 : I k E H)
  (round : ∀ k E H, I k E H → ACode P n G c E H (seqQ (fun E' H' => ∃ k', k' < k ∧ I k' E' H') Q)) : ACode P n G (.loop c) E H Q := by
 intro r a w hr b kk cs
 have key : ∀ k E H r a w, I k E H → Rel n G E H r a w →
   ∃ x a' w', (∃ E' H' r', Q x E' H' ∧ Rel n G E' H' r' a' w') ∧ Arrives P (lone (b.at a (.code c :: .inLoop c :: kk)) cs w) b kk cs x a' w' := by
  intro k
  induction k using Nat.strongRecOn with
  | _ k ih =>
   intro E H r a w hI hr
   obtain ⟨x, a1, w1, ⟨E1, H1, r1, q, hr1⟩, harr⟩ := round k E H hI r a w hr b (.inLoop c :: kk) cs
   cases x with
   | normal =>
    obtain ⟨k', hlt, hI'⟩ := q
    obtain ⟨x2, a2, w2, hq2, harr2⟩ := ih k' hlt E1 H1 r1 a1 w1 hI' hr1
    exact ⟨x2, a2, w2, hq2, .of_steps (Steps.trans harr (.one step_inLoop)) harr2⟩
   | exit id => exact ⟨_, a1, w1, ⟨E1, H1, r1, q, hr1⟩, .pass (x := .inLoop c) rfl (fun _ _ => .inl (by simp)) harr⟩
   | goto l => exact ⟨_, a1, w1, ⟨E1, H1, r1, q, hr1⟩, .pass (x := .inLoop c) rfl (fun _ _ => .inl (by simp)) harr⟩
   | ret => exact ⟨_, a1, w1, ⟨E1, H1, r1, q, hr1⟩, .pass (x := .inLoop c) rfl (fun _ _ => .inl (by simp)) harr⟩
   | panic ch => exact ⟨_, a1, w1, ⟨E1, H1, r1, q, hr1⟩, .pass (x := .inLoop c) rfl (fun _ _ => .inl (by simp)) harr⟩
   | outgrown => exact ⟨_, a1, w1, ⟨E1, H1, r1, q, hr1⟩, .pass (x := .inLoop c) rfl (fun _ _ => .inl (by simp)) harr⟩
 obtain ⟨x, a', w', hq, harr⟩ := key k E H r a w h0 hr
 exact ⟨x, a', w', hq, .of_steps (.one step_loop) harr⟩
end

/-! ### Contracts -/
def RepVs (F : Nat → Prop) (w : World) (H : List AObj) (r : List Nat) (cs : List AV) (vs : Array Value) : Prop :=
 vs.size = cs.length ∧ ∀ (i : Nat) (c : AV) (v : Value), cs[i]? = some c → vs[i]? = some v → RepV F w H r c v

def RepRes (F : Nat → Prop) (w : World) (H : List AObj) (r : List Nat) : List AV → Value → Prop
 | [v], x => RepV F w H r v x
 | vs, x => ∃ xs, x = .tuple xs ∧ RepVs F w H r vs xs

/-- Function f, called with what these arguments stand for, hands back what the post tells. F: blocks that are none of its business. -/
def AC (P : Program) (f : FuncId) (args : List AV) (H : List AObj) (Q : List AV → List AObj → Prop) : Prop :=
 ∀ (F : Nat → Prop) (w : World) (r : List Nat) (xs : Array Value), HRel F w H r → RepVs F w H r args xs →
  Calls P f xs w fun e w' => ∃ res H' r' x, e = .returned x ∧ Q res H' ∧ HRel F w' H' r' ∧ RepRes F w' H' r' res x ∧ Step w H r w' H' r'

/-! ### What another frame sees of a reference -/
def idx : List Nat → Nat → Option Nat
 | [], _ => none
 | k :: ks, o => bif Nat.beq k o then some 0 else (idx ks o).map (· + 1)

theorem idx_some {sel : List Nat} {o k : Nat} (h : idx sel o = some k) : sel[k]? = some o := by
 induction sel generalizing k with
 | nil => simp [idx] at h
 | cons s ss ih =>
  unfold idx at h
  by_cases e : s = o
  ·subst e; rw [Nat.beq_refl, cond_true] at h; cases h; simp
  ·have : Nat.beq s o = false := Bool.eq_false_iff.2 fun h' => e (Nat.eq_of_beq_eq_true h')
   rw [this, cond_false] at h
   cases hi : idx ss o with
   | none => rw [hi] at h; simp at h
   | some j => rw [hi] at h; simp at h; subst h; simpa using ih hi

theorem idx_none {sel : List Nat} {o : Nat} (h : idx sel o = none) : o ∉ sel := by
 induction sel with
 | nil => simp
 | cons s ss ih =>
  unfold idx at h
  by_cases e : s = o
  ·subst e; rw [Nat.beq_refl, cond_true] at h; cases h
  ·have : Nat.beq s o = false := Bool.eq_false_iff.2 fun h' => e (Nat.eq_of_beq_eq_true h')
   rw [this, cond_false] at h
   simp at h
   have := ih h
   simp [this]; omega

theorem idx_of_get {sel : List Nat} (hn : sel.Nodup) {o k : Nat} (h : sel[k]? = some o) : idx sel o = some k := by
 induction sel generalizing k with
 | nil => simp at h
 | cons s ss ih =>
  unfold idx
  cases k with
  | zero => simp at h; subst h; rw [Nat.beq_refl, cond_true]
  | succ k =>
   simp at h
   have hn' := List.nodup_cons.1 hn
   have hne : s ≠ o := fun e => hn'.1 (e ▸ List.mem_of_getElem? h)
   have : Nat.beq s o = false := Bool.eq_false_iff.2 fun h' => hne (Nat.eq_of_beq_eq_true h')
   rw [this, cond_false, ih hn'.2 h]; rfl

/-- How another frame sees things: what is handed on alone, the rest lent, or all as it is. -/
inductive Md where
 | own
 | lent
 | keep
def Md.l : Md → Bool
 | .own => false
 | _ => true
def Md.g : Md → Nat → Nat
 | .keep, g => g
 | _, _ => 0

/-- Data and references without what closures hold. -/
def view0 (bw : Md) (H : List AObj) (sel : List Nat) : AV → Option AV
 | .d x => some (.d x)
 | .ptr o off => match idx sel o with
  | some k => some (.ptr k off)
  | none => bif bw.l then (match H[o]? with
   | some (.box cs) => some (.d (.pv cs off))
   | _ => none) else none
 | .vec o g => match H[o]? with
  | some (.vec g' cs) => bif Nat.beq g g' then (match idx sel o with
   | some k => some (.vec k (bw.g g))
   | none => bif bw.l then some (.d (.sl (some false) cs)) else none) else none
  | _ => none
 | .part o g lo n => match H[o]? with
  | some (.vec g' cs) => bif Nat.beq g g' then (match idx sel o with
   | some k => some (.part k (bw.g g) lo n)
   | none => bif bw.l then some (.d (.sl (some false) ((cs.drop lo).take n))) else none) else none
  | _ => none
 | _ => none

def view1 (bw : Md) (H : List AObj) (sel : List Nat) : AV → Option AV
 | .ptr o off => match idx sel o with
  | some k => some (.ptr k off)
  | none => bif bw.l then (match H[o]? with
   | some (.box cs) => some (.d (.pv cs off))
   | some (.ref v) => (match view0 bw H sel v with
    | some (.d x) => some (.d (.pv [x] off))
    | _ => none)
   | _ => none) else none
 | v => view0 bw H sel v

def viewL (bw : Md) (H : List AObj) (sel : List Nat) : List AV → Option (List AV)
 | [] => some []
 | v :: vs => match view1 bw H sel v, viewL bw H sel vs with
  | some u, some us => some (u :: us)
  | _, _ => none

def allD : List AV → Option (List D)
 | [] => some []
 | .d x :: vs => (allD vs).map (x :: ·)
 | _ :: _ => none

def view (bw : Md) (H : List AObj) (sel : List Nat) : AV → Option AV
 | .clo f cap => match viewL bw H sel cap with
  | some us => match allD us with
   | some ds => some (.d (.clo f ds))
   | none => some (.clo f us)
  | none => none
 | v => view1 bw H sel v

def viewO (bw : Md) (H : List AObj) (sel : List Nat) : AObj → Option AObj
 | .ref v => (view bw H sel v).map .ref
 | .vec g cs => some (.vec (bw.g g) cs)
 | x => some x

def selHeap (bw : Md) (H : List AObj) : List Nat → List Nat → Option (List AObj)
 | _, [] => some []
 | sel, o :: os => match H[o]?.bind (viewO bw H sel), selHeap bw H sel os with
  | some x, some xs => some (x :: xs)
  | _, _ => none

theorem selHeap_get {bw : Md} {H : List AObj} {sel os : List Nat} {Hs : List AObj} (h : selHeap bw H sel os = some Hs) : Hs.length = os.length ∧ ∀ (k o : Nat), os[k]? = some o → ∃ x y, H[o]? = some x ∧ viewO bw H sel x = some y ∧ Hs[k]? = some y := by
 induction os generalizing Hs with
 | nil => simp [selHeap] at h; subst h; simp
 | cons o os ih =>
  unfold selHeap at h
  split at h
  ·rename_i x xs h1 h2
   simp at h; subst h
   obtain ⟨hl, hi⟩ := ih h2
   refine ⟨by simp [hl], fun k o' hk => ?_⟩
   cases k with
   | zero =>
    simp at hk; subst hk
    obtain ⟨y, hy, hv⟩ := Option.bind_eq_some_iff.1 h1
    exact ⟨y, x, hy, hv, by simp⟩
   | succ k => simp at hk; simpa using hi k o' hk
  ·simp at h

/-- The blocks of the selected. -/
def selBlocks (r : List Nat) (sel : List Nat) : List Nat := sel.map fun o => r.getD o 0

theorem selBlocks_get {r sel : List Nat} {k o : Nat} (h : sel[k]? = some o) : (selBlocks r sel)[k]? = some (r.getD o 0) := by simp [selBlocks, h]

theorem World.cell_block {w : World} {b i : Nat} {vs : Array Value} {ty : TypeId} (h : w.heap[b]? = some (.cells vs ty (0, 0))) : w.cell? ⟨b, i, none⟩ = vs[i]? := by simp [World.cell?, h]

theorem HRel.blk {F : Nat → Prop} {w : World} {H : List AObj} {r : List Nat} (hh : HRel F w H r) {o : Nat} {x : AObj} (h : H[o]? = some x) : ∃ b, r[o]? = some b := by
 obtain ⟨ho, _⟩ := List.getElem?_eq_some_iff.1 h
 exact ⟨r[o]'(by rw [hh.len]; exact ho), List.getElem?_eq_getElem _⟩

theorem RepO.lt {F : Nat → Prop} {w : World} {H : List AObj} {r : List Nat} {b : Nat} {x : AObj} (h : RepO F w H r b x) (hl : x.live = true) : b < w.heap.size := by
 cases h with
 | gone => simp [AObj.live] at hl
 | mp _ _ _ _ hb _ => exact (Array.getElem?_eq_some_iff.1 hb).1
 | box cs vs ty hb _ => exact (Array.getElem?_eq_some_iff.1 hb).1
 | ref v y ty hb _ => exact (Array.getElem?_eq_some_iff.1 hb).1
 | vec g cs vs ty hb _ _ _ => exact (Array.getElem?_eq_some_iff.1 hb).1

section
variable {bw : Md} {F F' : Nat → Prop} {w : World} {H Hs : List AObj} {r sel : List Nat}

/-- What the other frame may take as data stays data there. -/
structure Seen (bw : Md) (F : Nat → Prop) (w : World) (H : List AObj) (r : List Nat) (sel : List Nat) (F' : Nat → Prop) (Hs : List AObj) : Prop where
 heap : HRel F w H r
 nodup : sel.Nodup
 got : selHeap bw H sel sel = some Hs
 keep : ∀ b, imm F w H r b → imm F' w Hs (selBlocks r sel) b
 lent : bw.l = true → ∀ (o : Nat) (x : AObj) (b : Nat), H[o]? = some x → x.live = true → r[o]? = some b → idx sel o = none → imm F' w Hs (selBlocks r sel) b

theorem Seen.at (h : Seen bw F w H r sel F' Hs) {o k : Nat} (hk : idx sel o = some k) {y : AObj} (hy : Hs[k]? = some y) : ∃ x, H[o]? = some x ∧ viewO bw H sel x = some y ∧ (selBlocks r sel)[k]? = r[o]? := by
 have hs := idx_some hk
 obtain ⟨x, y', h1, h2, h3⟩ := (selHeap_get h.got).2 k o hs
 rw [hy] at h3; cases h3
 obtain ⟨b, hb⟩ := h.heap.blk h1
 exact ⟨x, h1, h2, by rw [selBlocks_get hs, hb]; simp [List.getD_eq_getElem?_getD, hb]⟩

theorem Seen.len (h : Seen bw F w H r sel F' Hs) {o k : Nat} (hk : idx sel o = some k) : k < Hs.length := by
 have hs := idx_some hk
 obtain ⟨x, y', h1, h2, h3⟩ := (selHeap_get h.got).2 k o hs
 exact (List.getElem?_eq_some_iff.1 h3).1

theorem viewO_fixed {x y : AObj} (h : viewO bw H sel x = some y) : y.fixed = x.fixed := by
 cases x <;> simp [viewO] at h
 case ref v => obtain ⟨u, _, rfl⟩ := h; rfl
 all_goals subst h; rfl

theorem viewO_live {x y : AObj} (h : viewO bw H sel x = some y) : y.live = x.live := by
 cases x <;> simp [viewO] at h
 case ref v => obtain ⟨u, _, rfl⟩ := h; rfl
 all_goals subst h; rfl

theorem viewO_vec {x : AObj} {g : Nat} {cs : List D} (h : viewO bw H sel x = some (.vec g cs)) : ∃ g0, x = .vec g0 cs ∧ g = bw.g g0 := by
 cases x <;> simp [viewO] at h
 obtain ⟨rfl, rfl⟩ := h
 exact ⟨_, rfl, rfl⟩

theorem Seen.ptr (h : Seen bw F w H r sel F' Hs) {o off k : Nat} {x : Value} (hr : RepV F w H r (.ptr o off) x) (hk : idx sel o = some k) : RepV F' w Hs (selBlocks r sel) (.ptr k off) x := by
 cases hr with
 | ptr _ _ _ ho hp =>
  refine .ptr k off x (h.len hk) fun y b h1 h2 h3 => ?_
  obtain ⟨x', e1, e2, e3⟩ := h.at hk h1
  exact hp x' b e1 (by rw [← e3]; exact h2) (by rw [← viewO_fixed e2]; exact h3)

theorem Seen.lendBox (hl : bw.l = true) (h : Seen bw F w H r sel F' Hs) {o off : Nat} {x : Value} (hr : RepV F w H r (.ptr o off) x) (hk : idx sel o = none) {cs : List D} (hc : H[o]? = some (.box cs)) : RepD w (imm F' w Hs (selBlocks r sel)) (.pv cs off) x := by
 cases hr with
 | ptr _ _ _ ho hp =>
  obtain ⟨b, hb⟩ := h.heap.blk hc
  have hv := hp _ b hc hb rfl
  subst hv
  have hI := h.lent hl o _ b hc rfl hb hk
  have hO := h.heap.obj o _ b hc hb
  cases hO with
  | box _ vs ty hw hl =>
   have := RepD.pv (w := w) (I := imm F' w Hs (selBlocks r sel)) cs off vs.toList b 0 hl.1 hI (fun i v hv => by rw [World.cell_block hw]; simpa using hv)
    (fun i c v hc hv => (hl.2 i c v hc hv).mono fun b hb => ⟨rfl, h.keep b hb⟩)
   simpa using this

theorem Seen.view0 (h : Seen bw F w H r sel F' Hs) {v v' : AV} {x : Value} (hr : RepV F w H r v x) (hv : view0 bw H sel v = some v') : RepV F' w Hs (selBlocks r sel) v' x := by
 cases v with
 | d y => simp [Ab.view0] at hv; subst hv; cases hr with | d _ _ hd => exact .d _ _ (hd.mono fun b hb => ⟨rfl, h.keep b hb⟩)
 | ptr o off =>
  unfold Ab.view0 at hv
  simp only at hv
  cases hk : idx sel o with
  | some k => rw [hk] at hv; cases hv; exact h.ptr hr hk
  | none =>
   rw [hk] at hv
   cases hbw : bw.l with
   | false => rw [hbw] at hv; simp at hv
   | true =>
    rw [hbw] at hv
    simp only [cond_true] at hv
    split at hv
    ·rename_i cs hc
     cases hv
     exact .d _ _ (h.lendBox hbw hr hk hc)
    ·simp at hv
 | vec o g =>
  unfold Ab.view0 at hv
  simp only at hv
  split at hv
  ·rename_i g' cs hc
   by_cases e : g = g'
   ·subst e
    rw [Nat.beq_refl, cond_true] at hv
    cases hr with
    | vec _ _ _ ho hp =>
     obtain ⟨b, hb⟩ := h.heap.blk hc
     obtain ⟨_, hp2⟩ := hp g cs b hc hb
     obtain ⟨cap, vs, ty, e1, e2, e3⟩ := hp2 rfl
     cases hk : idx sel o with
     | some k =>
      rw [hk] at hv; cases hv
      refine .vec k (bw.g g) x (h.len hk) fun g' cs' b' h1 h2 => ?_
      obtain ⟨x', a1, a2, a3⟩ := h.at hk h1
      obtain ⟨g0, rfl, rfl⟩ := viewO_vec a2
      rw [hc] at a1; cases a1
      exact ⟨Nat.le_refl _, fun _ => (hp g cs b' hc (by rw [← a3]; exact h2)).2 rfl⟩
     | none =>
      rw [hk] at hv
      cases hbw : bw.l with
      | false => rw [hbw] at hv; simp at hv
      | true =>
       rw [hbw] at hv
       simp only [cond_true] at hv
       cases hv
       have hI := h.lent hbw o _ b hc rfl hb hk
       have hO := h.heap.obj o _ b hc hb
       cases hO with
       | vec _ _ vs' ty' hw hcap hm hl =>
        rw [hw] at e2
        cases e2
        subst e1
        refine .d _ _ (.sl (some false) cs (vs.toList.take cs.length) _ cap hl.1 (by simp) (by rw [e3]; exact hcap) (fun _ => ⟨b, 0, rfl, hI, fun i v hv => ?_⟩)
         (fun i c v hc hv => (hl.2 i c v hc hv).mono fun b hb => ⟨rfl, h.keep b hb⟩))
        rw [World.cell_block hw]
        rw [List.getElem?_take] at hv
        split at hv
        ·simpa using hv
        ·simp at hv
   ·have : Nat.beq g g' = false := Bool.eq_false_iff.2 fun h' => e (Nat.eq_of_beq_eq_true h')
    rw [this] at hv; simp at hv
  ·simp at hv
 | eptr o g i => simp [Ab.view0] at hv
 | part o g lo n =>
  unfold Ab.view0 at hv
  simp only at hv
  split at hv
  ·rename_i g' cs hc
   by_cases e : g = g'
   ·subst e
    rw [Nat.beq_refl, cond_true] at hv
    cases hr with
    | part _ _ _ _ _ ho hp =>
     obtain ⟨b, hb⟩ := h.heap.blk hc
     obtain ⟨_, hp2⟩ := hp g cs b hc hb
     obtain ⟨e0, vs, ty, l, c0, e1, e2, e3⟩ := hp2 rfl
     cases hk : idx sel o with
     | some k =>
      rw [hk] at hv; cases hv
      refine .part k (bw.g g) lo n x (h.len hk) fun g' cs' b' h1 h2 => ?_
      obtain ⟨x', a1, a2, a3⟩ := h.at hk h1
      obtain ⟨g0, rfl, rfl⟩ := viewO_vec a2
      rw [hc] at a1; cases a1
      exact ⟨Nat.le_refl _, fun _ => (hp g cs b' hc (by rw [← a3]; exact h2)).2 rfl⟩
     | none =>
      rw [hk] at hv
      cases hbw : bw.l with
      | false => rw [hbw] at hv; simp at hv
      | true =>
       rw [hbw] at hv
       simp only [cond_true] at hv
       cases hv
       have hI := h.lent hbw o _ b hc rfl hb hk
       have hO := h.heap.obj o _ b hc hb
       cases hO with
       | vec _ _ vs' ty' hw hcap hm hl =>
        rw [hw] at e2
        cases e2
        subst e1
        have hL : RepL w (imm F w H r) ((cs.drop lo).take n) (((vs.toList.take cs.length).drop lo).take n) := (hl.drop lo).take n
        have hlen : ((cs.drop lo).take n).length = n := by simp; omega
        have hlv : vs.size ≥ cs.length := hcap
        have := RepD.sl (w := w) (I := imm F' w Hs (selBlocks r sel)) (some false) ((cs.drop lo).take n) (((vs.toList.take cs.length).drop lo).take n) (some ⟨b, l, none⟩) c0 hL.1 (by simp) (by
          rw [hlen]
          by_cases e : lo = vs.size
          ·omega
          ·have := e3 e; omega) (fun hne => ⟨b, l, rfl, hI, fun i v hv => by
          have hn0 : n ≠ 0 := fun e => by subst e; simp at hne
          obtain ⟨rfl, _⟩ := e3 (by omega)
          rw [World.cell_block hw]
          rw [List.getElem?_take] at hv
          split at hv
          ·rw [List.getElem?_drop, List.getElem?_take] at hv
           split at hv
           ·simpa using hv
           ·simp at hv
          ·simp at hv⟩)
         (fun i c v hc hv => (hL.2 i c v hc hv).mono fun b hb => ⟨rfl, h.keep b hb⟩)
        rw [hlen] at this
        exact .d _ _ this
   ·have : Nat.beq g g' = false := Bool.eq_false_iff.2 fun h' => e (Nat.eq_of_beq_eq_true h')
    rw [this] at hv; simp at hv
  ·simp at hv
 | clo f cap => simp [Ab.view0] at hv
 | tup cs => simp [Ab.view0] at hv

theorem Seen.view1 (h : Seen bw F w H r sel F' Hs) {v v' : AV} {x : Value} (hr : RepV F w H r v x) (hv : view1 bw H sel v = some v') : RepV F' w Hs (selBlocks r sel) v' x := by
 cases v with
 | ptr o off =>
  unfold Ab.view1 at hv
  simp only at hv
  cases hk : idx sel o with
  | some k => rw [hk] at hv; cases hv; exact h.ptr hr hk
  | none =>
   rw [hk] at hv
   cases hbw : bw.l with
   | false => rw [hbw] at hv; simp at hv
   | true =>
    rw [hbw] at hv
    simp only [cond_true] at hv
    split at hv
    ·rename_i cs hc
     cases hv
     exact .d _ _ (h.lendBox hbw hr hk hc)
    ·rename_i u hc
     split at hv
     ·rename_i y hy
      cases hv
      cases hr with
      | ptr _ _ _ ho hp =>
       obtain ⟨b, hb⟩ := h.heap.blk hc
       have hv := hp _ b hc hb rfl
       subst hv
       have hI := h.lent hbw o _ b hc rfl hb hk
       have hO := h.heap.obj o _ b hc hb
       cases hO with
       | ref _ z ty hw hl =>
        have h0 := h.view0 hl hy
        cases h0 with
        | d _ _ hd =>
         have := RepD.pv (w := w) (I := imm F' w Hs (selBlocks r sel)) [y] off [z] b 0 rfl hI (fun i v hv => by rw [World.cell_block hw]; simpa using hv)
          (fun i c v hc hv => by
           cases i with
           | zero => simp at hc hv; subst hc; subst hv; exact hd
           | succ i => simp at hc)
         exact .d _ _ (by simpa using this)
     ·simp at hv
    ·simp at hv
 | d y => exact h.view0 hr (by simpa [Ab.view1] using hv)
 | vec o g => exact h.view0 hr (by simpa [Ab.view1] using hv)
 | eptr o g i => exact h.view0 hr (by simpa [Ab.view1] using hv)
 | part o g lo n => exact h.view0 hr (by simpa [Ab.view1] using hv)
 | clo f cap => exact h.view0 hr (by simpa [Ab.view1] using hv)
 | tup cs => exact h.view0 hr (by simpa [Ab.view1] using hv)

theorem viewL_get {vs us : List AV} (h : viewL bw H sel vs = some us) : us.length = vs.length ∧ ∀ (i : Nat) (u : AV), us[i]? = some u → ∃ v, vs[i]? = some v ∧ view1 bw H sel v = some u := by
 induction vs generalizing us with
 | nil => simp [viewL] at h; subst h; simp
 | cons v vs ih =>
  unfold viewL at h
  split at h
  ·rename_i u us' h1 h2
   simp at h; subst h
   obtain ⟨hl, hi⟩ := ih h2
   refine ⟨by simp [hl], fun i u' hu => ?_⟩
   cases i with
   | zero => simp at hu; subst hu; exact ⟨v, by simp, h1⟩
   | succ i => simp at hu; simpa using hi i u' hu
  ·simp at h

theorem allD_get {vs : List AV} {ds : List D} (h : allD vs = some ds) : vs = ds.map AV.d := by
 induction vs generalizing ds with
 | nil => simp [allD] at h; subst h; rfl
 | cons v vs ih =>
  cases v <;> simp [allD] at h
  obtain ⟨ds', h1, rfl⟩ := h
  rw [ih h1]; rfl

theorem Seen.view (h : Seen bw F w H r sel F' Hs) {v v' : AV} {x : Value} (hr : RepV F w H r v x) (hv : view bw H sel v = some v') : RepV F' w Hs (selBlocks r sel) v' x := by
 cases v with
 | clo f cap =>
  unfold Ab.view at hv
  simp only at hv
  cases hr with
  | clo _ _ vs hl hc =>
   split at hv
   ·rename_i us hus
    obtain ⟨hlen, hget⟩ := viewL_get hus
    have hall : ∀ (i : Nat) (c : AV) (v : Value), us[i]? = some c → vs[i]? = some v → RepV F' w Hs (selBlocks r sel) c v := fun i c v hc' hv' => by
     obtain ⟨u, hu, hvu⟩ := hget i c hc'
     exact h.view1 (hc i u v hu hv') hvu
    split at hv
    ·rename_i ds hds
     cases hv
     have := allD_get hds
     subst this
     refine .d _ _ (.clo f ds vs (by rw [hl, ← hlen]; simp) fun i c v hc' hv' => ?_)
     have := hall i (.d c) v (by simp [hc']) hv'
     cases this with | d _ _ hd => exact hd
    ·cases hv
     exact .clo f us vs (by rw [hl, hlen]) hall
   ·simp at hv
 | d y => exact h.view1 hr (by simpa [Ab.view] using hv)
 | ptr o off => exact h.view1 hr (by simpa [Ab.view] using hv)
 | vec o g => exact h.view1 hr (by simpa [Ab.view] using hv)
 | eptr o g i => exact h.view1 hr (by simpa [Ab.view] using hv)
 | part o g lo n => exact h.view1 hr (by simpa [Ab.view] using hv)
 | tup cs => exact h.view1 hr (by simpa [Ab.view] using hv)

/-- The selected objects, as the other frame has them. -/
theorem Seen.hrel (h : Seen bw F w H r sel F' Hs) (hF : ∀ b, F' b → b < w.heap.size) (hN : ∀ (o : Nat) (x : AObj) (b : Nat), H[o]? = some x → x.live = true → r[o]? = some b → idx sel o ≠ none → ¬ F' b) : HRel F' w Hs (selBlocks r sel) := by
 have hg := selHeap_get h.got
 have at_ : ∀ (k : Nat) (y : AObj) (b : Nat), Hs[k]? = some y → (selBlocks r sel)[k]? = some b → ∃ o x, sel[k]? = some o ∧ H[o]? = some x ∧ viewO bw H sel x = some y ∧ r[o]? = some b := by
  intro k y b h1 h2
  have hk : k < sel.length := by rw [← hg.1]; exact (List.getElem?_eq_some_iff.1 h1).1
  obtain ⟨x, y', e1, e2, e3⟩ := hg.2 k sel[k] (List.getElem?_eq_getElem hk)
  rw [h1] at e3; cases e3
  obtain ⟨b', hb'⟩ := h.heap.blk e1
  rw [selBlocks_get (List.getElem?_eq_getElem hk)] at h2
  simp [List.getD_eq_getElem?_getD, hb'] at h2
  subst h2
  exact ⟨sel[k], x, List.getElem?_eq_getElem hk, e1, e2, hb'⟩
 refine ⟨by simp [selBlocks, hg.1], ?_, ?_, ?_, hF⟩
 ·intro k k' y y' b h1 l1 h2 l2 h3 h4
  obtain ⟨o, x, s1, e1, e2, e3⟩ := at_ k y b h1 h3
  obtain ⟨o', x', s2, e4, e5, e6⟩ := at_ k' y' b h2 h4
  have := h.heap.inj o o' x x' b e1 (by rw [← viewO_live e2]; exact l1) e4 (by rw [← viewO_live e5]; exact l2) e3 e6
  subst this
  have a := idx_of_get h.nodup s1
  have b' := idx_of_get h.nodup s2
  rw [a] at b'; exact Option.some.inj b'
 ·intro k y b h1 h2
  obtain ⟨o, x, s1, e1, e2, e3⟩ := at_ k y b h1 h2
  have hO := h.heap.obj o x b e1 e3
  have hm : ∀ b, imm F w H r b → w.heap[b]? = w.heap[b]? ∧ imm F' w Hs (selBlocks r sel) b := fun b hb => ⟨rfl, h.keep b hb⟩
  cases hO with
  | gone => simp [viewO] at e2; subst e2; exact .gone
  | mp v I c hv hb hI0 => simp [viewO] at e2; subst e2; exact .mp v I c hv hb hI0
  | box cs vs ty hb hl => simp [viewO] at e2; subst e2; exact .box cs vs ty hb (hl.mono hm)
  | ref v z ty hb hl =>
   simp [viewO] at e2
   obtain ⟨u, hu, rfl⟩ := e2
   exact .ref u z ty hb (h.view hl hu)
  | vec g cs vs ty hb hc hmx hl => simp [viewO] at e2; subst e2; exact .vec _ cs vs ty hb hc hmx (hl.mono hm)
 ·intro k y b h1 l1 h2
  obtain ⟨o, x, s1, e1, e2, e3⟩ := at_ k y b h1 h2
  exact hN o x b e1 (by rw [← viewO_live e2]; exact l1) e3 (by rw [idx_of_get h.nodup s1]; simp)
end
end Go.Proofs.YtldgmcghdohmeaaGreat.Ab
