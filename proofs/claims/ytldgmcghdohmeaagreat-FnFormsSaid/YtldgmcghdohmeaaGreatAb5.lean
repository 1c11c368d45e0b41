/- Own library, part 5: the rules for calls, and rows of operations whose order Go leaves open and that only read. No conditions. -/
import Derived.Test.YtldgmcghdohmeaaGreatAb4
set_option linter.unusedVariables false
set_option linter.unusedSimpArgs false
namespace Go.Proofs.YtldgmcghdohmeaaGreat.Ab
open Go Go.RowKit

def evalL (E : Env) : List Operand → Option (List AV)
 | [] => some []
 | x :: xs => match evalO E x, evalL E xs with
  | some v, some vs => some (v :: vs)
  | _, _ => none

def calleeOf : AV → Option (FuncId × List AV)
 | .d (.clo f cap) => some (f, cap.map .d)
 | .clo f cap => some (f, cap)
 | _ => none

def viewA (bw : Md) (H : List AObj) (sel : List Nat) : List AV → Option (List AV)
 | [] => some []
 | v :: vs => match view bw H sel v, viewA bw H sel vs with
  | some u, some us => some (u :: us)
  | _, _ => none

/-- A slice of which it isn't told whether it is nil. -/
def dropA : AV → AV
 | .d (.sl _ cs) => .d (.sl none cs)
 | v => v

def resAV : List AV → AV
 | [v] => v
 | vs => .tup vs

section
variable {F F' : Nat → Prop} {w : World} {H Hs : List AObj} {r sel : List Nat} {bw : Md}

theorem freeSel0 (hh : HRel F w H r) (hs : selHeap bw H sel sel = some Hs) {b : Nat} (hb : free w H r b) : free w Hs (selBlocks r sel) b := by
 refine ⟨hb.1, fun k y h1 h2 => ?_⟩
 have hg := selHeap_get hs
 have hk : k < sel.length := by rw [← hg.1]; exact (List.getElem?_eq_some_iff.1 h1).1
 obtain ⟨x, y', e1, e2, e3⟩ := hg.2 k sel[k] (List.getElem?_eq_getElem hk)
 rw [h1] at e3; cases e3
 obtain ⟨b', hb'⟩ := hh.blk e1
 rw [selBlocks_get (List.getElem?_eq_getElem hk)]
 have := hb.2 sel[k] x e1 (by rw [← viewO_live e2]; exact h2)
 rw [hb'] at this
 simp [List.getD_eq_getElem?_getD, hb']
 intro e; exact this (by rw [e])

theorem unsel0 (hh : HRel F w H r) (hs : selHeap bw H sel sel = some Hs) {o : Nat} {x : AObj} {b : Nat} (ho : H[o]? = some x) (hl : x.live = true) (hb : r[o]? = some b) (hk : idx sel o = none) : free w Hs (selBlocks r sel) b := by
 refine ⟨(hh.obj o x b ho hb).lt hl, fun k y h1 h2 => ?_⟩
 have hg := selHeap_get hs
 have hk' : k < sel.length := by rw [← hg.1]; exact (List.getElem?_eq_some_iff.1 h1).1
 obtain ⟨x', y', e1, e2, e3⟩ := hg.2 k sel[k] (List.getElem?_eq_getElem hk')
 rw [h1] at e3; cases e3
 obtain ⟨b', hb'⟩ := hh.blk e1
 rw [selBlocks_get (List.getElem?_eq_getElem hk')]
 simp [List.getD_eq_getElem?_getD, hb']
 intro e
 subst e
 have := hh.inj o sel[k] x x' b' ho hl e1 (by rw [← viewO_live e2]; exact h2) hb hb'
 exact idx_none hk (this ▸ List.getElem_mem hk')

/-- The callee's forbidden blocks, where nothing is lent. -/
def ownF (F : Nat → Prop) (H : List AObj) (r sel : List Nat) (b : Nat) : Prop :=
 F b ∨ ∃ (o : Nat) (x : AObj), H[o]? = some x ∧ x.live = true ∧ idx sel o = none ∧ r[o]? = some b

theorem seen_own (hh : HRel F w H r) (hn : sel.Nodup) (hs : selHeap .own H sel sel = some Hs) : Seen .own F w H r sel (ownF F H r sel) Hs :=
 ⟨hh, hn, hs, fun b hb => ⟨freeSel0 hh hs hb.1, fun hF => by
  rcases hF with hF | ⟨o, x, h1, h2, _, h3⟩
  ·exact hb.2 hF
  ·exact hb.1.2 o x h1 h2 h3⟩, fun h => by cases h⟩

theorem seen_lent (hbw : bw.l = true) (hh : HRel F w H r) (hn : sel.Nodup) (hs : selHeap bw H sel sel = some Hs) : Seen bw F w H r sel F Hs :=
 ⟨hh, hn, hs, fun b hb => ⟨freeSel0 hh hs hb.1, hb.2⟩, fun _ o x b h1 h2 h3 h4 => ⟨unsel0 hh hs h1 h2 h3 h4, hh.notF o x b h1 h2 h3⟩⟩

theorem hrel_own (hh : HRel F w H r) (hn : sel.Nodup) (hs : selHeap .own H sel sel = some Hs) : HRel (ownF F H r sel) w Hs (selBlocks r sel) := by
 refine (seen_own hh hn hs).hrel ?_ ?_
 ·rintro b (hF | ⟨o, x, h1, h2, _, h3⟩)
  ·exact hh.fin b hF
  ·exact (hh.obj o x b h1 h3).lt h2
 ·rintro o x b h1 h2 h3 h4 (hF | ⟨o', x', e1, e2, e3, e4⟩)
  ·exact hh.notF o x b h1 h2 h3 hF
  ·have := hh.inj o o' x x' b h1 h2 e1 e2 h3 e4
   subst this
   exact h4 e3

theorem hrel_lent (hbw : bw.l = true) (hh : HRel F w H r) (hn : sel.Nodup) (hs : selHeap bw H sel sel = some Hs) : HRel F w Hs (selBlocks r sel) :=
 (seen_lent hbw hh hn hs).hrel hh.fin fun o x b h1 h2 h3 _ => hh.notF o x b h1 h2 h3

theorem left_own {w' : World} {H' : List AObj} {r' : List Nat} (hh : HRel F w H r) (hn : sel.Nodup) (hs : selHeap .own H sel sel = some Hs) (hst : Step w Hs (selBlocks r sel) w' H' r') (hh' : HRel (ownF F H r sel) w' H' r')
  (hok : ∀ x ∈ H', okO (fun _ => True) x) : Left .own F (ownF F H r sel) w H r sel Hs w' H' r' (fun _ => True) := by
 refine ⟨seen_own hh hn hs, hst, hh', fun b hb => .inl hb, hok, fun g => rfl, fun d x _ hd => hd.mono fun b hb => ⟨rfl, ⟨hb.1.1, fun o y hy hl hb' => ?_⟩, fun hF => hb.2 (.inl hF)⟩⟩
 rcases backHeap_get (seen_own hh hn hs) hst hh' hy hb' with ⟨_, k1, e1, e2⟩ | ⟨k, z, f0, f1, f2, f3, f4, f5⟩
 ·exact hb.2 (.inr ⟨o, y, e1, hl, k1, e2⟩)
 ·exact hb.1.2 k z f1 (by rw [f3, backO_live] at hl; exact hl) f2

theorem left_lent {w' : World} {H' : List AObj} {r' : List Nat} (hh : HRel F w H r) (hn : sel.Nodup) (hs : selHeap .lent H sel sel = some Hs) (hst : Step w Hs (selBlocks r sel) w' H' r') (hh' : HRel F w' H' r')
  (hok : ∀ x ∈ H', okO D.flat x) : Left .lent F F w H r sel Hs w' H' r' D.flat :=
 ⟨seen_lent rfl hh hn hs, hst, hh', fun b hb => hb, hok, fun g => rfl, fun d x hf hd => hf _ _ _ _ x hd⟩

theorem viewA_get {vs us : List AV} (h : viewA bw H sel vs = some us) : us.length = vs.length ∧ ∀ (i : Nat) (u : AV), us[i]? = some u → ∃ v, vs[i]? = some v ∧ view bw H sel v = some u := by
 induction vs generalizing us with
 | nil => simp [viewA] at h; subst h; simp
 | cons v vs ih =>
  unfold viewA at h
  split at h
  ·rename_i u us' h1 h2
   simp at h; subst h
   obtain ⟨hl, hi⟩ := ih h2
   refine ⟨by simp [hl], fun i u' hu => ?_⟩
   cases i with
   | zero => simp at hu; subst hu; exact ⟨v, by simp, h1⟩
   | succ i => simp at hu; simpa using hi i u' hu
  ·simp at h

theorem RepV.drop {u : AV} {x : Value} (h : RepV F w H r u x) : RepV F w H r (dropA u) x := by
 cases h with
 | d y _ hd =>
  cases hd with
  | sl isNil cs vs A cap hl hn hc hA hr => exact .d _ _ (.sl none cs vs A cap hl (by simp) hc hA hr)
  | s u => exact .d _ _ (.s x)
  | agg cs vs hl hc => exact .d _ _ (.agg cs vs hl hc)
  | pv cs off vs b base hl hI hcell hr => exact .d _ _ (.pv cs off vs b base hl hI hcell hr)
  | clo f cap vs hl hr => exact .d _ _ (.clo f cap vs hl hr)
  | se isNil A hn => exact .d _ _ (.se isNil A hn)
  | ru cs vs ty b hI hb hc hm hr => exact .d _ _ (.ru cs vs ty b hI hb hc hm hr)
 | ptr o off _ ho hp => exact .ptr o off x ho hp
 | vec o g _ ho hp => exact .vec o g x ho hp
 | eptr o g i _ ho hp => exact .eptr o g i x ho hp
 | part o g lo n _ ho hp => exact .part o g lo n x ho hp
 | clo f cap vs hl hc => exact .clo f cap vs hl hc
 | tup cs vs hl hc => exact .tup cs vs hl hc

theorem RepVs.drop {cs : List AV} {vs : Array Value} (h : RepVs F w H r cs vs) : RepVs F w H r (cs.map dropA) vs :=
 ⟨by simpa using h.1, fun i c v h1 h2 => by
  rw [List.getElem?_map] at h1
  obtain ⟨u, hu, rfl⟩ := Option.map_eq_some_iff.1 h1
  exact (h.2 i u v hu h2).drop⟩

theorem viewA_mapD (ds : List D) : viewA bw H sel (ds.map AV.d) = some (ds.map AV.d) := by
 induction ds with
 | nil => rfl
 | cons d ds ih => rw [List.map_cons, viewA, ih]; rfl

theorem Seen.viewA (h : Seen bw F w H r sel F' Hs) {vs us : List AV} {xs : Array Value} (hr : RepVs F w H r vs xs) (hv : viewA bw H sel vs = some us) : RepVs F' w Hs (selBlocks r sel) us xs := by
 obtain ⟨hl, hg⟩ := viewA_get hv
 exact ⟨by rw [hr.1, hl], fun i c v h1 h2 => let ⟨u, e1, e2⟩ := hg i c h1; h.view (hr.2 i u v e1 h2) e2⟩
end

section
variable {P : Program} {n : Nat} {G : Ctx} {E : Env} {H : List AObj} {ops : Array Oper} {rest : List Oper} {o : Oper} {K : Env → List AObj → Prop} {r : List Nat} {a : Act} {w : World}

theorem evalL_sound (hr : Rel n G E H r a w) {xs : List Operand} {vs : List AV} (h : evalL E xs = some vs) : RepVs G.F w H r vs (xs.map a.eval).toArray := by
 induction xs generalizing vs with
 | nil => simp [evalL] at h; subst h; exact ⟨by simp, by simp⟩
 | cons x xs ih =>
  unfold evalL at h
  split at h
  ·rename_i v us h1 h2
   simp at h; subst h
   obtain ⟨hl, hi⟩ := ih h2
   refine ⟨by simpa using hl, fun i c y h3 h4 => ?_⟩
   cases i with
   | zero => simp at h3 h4; subst h3; subst h4; exact evalO_sound hr h1
   | succ i =>
    refine hi i c y (by simpa using h3) ?_
    simpa using h4
  ·simp at h

theorem map_eq (xs : Array Operand) (f : Operand → Value) : xs.map f = (xs.toList.map f).toArray := by
 rw [← Array.toList_map, Array.toArray_toList]

theorem wpQuiet_mono' {C : World → Prop} {Q Q' : Act → Prop} (hq : ∀ a, Q a → Q' a) : ∀ (l : List Oper) (a : Act), wpQuiet P ops C Q l a → wpQuiet P ops C Q' l a
 | [], a, h => hq a h
 | o :: rest, a, h => by
  unfold wpQuiet at h ⊢
  split
  ·rename_i hw
   rw [if_pos hw] at h
   obtain ⟨v, h1, h2⟩ := h
   exact ⟨v, h1, wpQuiet_mono' hq rest _ h2⟩
  ·rename_i hw
   rw [if_neg hw] at h
   exact wpQuiet_mono' hq rest _ h

theorem calleeOf_sound {F : Nat → Prop} {fv : AV} {x : Value} {f : FuncId} {cap : List AV} (h : calleeOf fv = some (f, cap)) (hr : RepV F w H r fv x) : ∃ vs : Array Value, x = .func (.func f) #[] vs ∧ RepVs F w H r cap vs := by
 cases hr with
 | d y _ hd =>
  cases hd <;> simp [calleeOf] at h
  rename_i f' cap' vs hl hc
  obtain ⟨rfl, rfl⟩ := h
  refine ⟨vs, rfl, by simpa using hl, fun i c v h1 h2 => ?_⟩
  rw [List.getElem?_map] at h1
  obtain ⟨z, hz, rfl⟩ := Option.map_eq_some_iff.1 h1
  exact .d _ _ (hc i z v hz h2)
 | clo f' cap' vs hl hc => simp [calleeOf] at h; obtain ⟨rfl, rfl⟩ := h; exact ⟨vs, rfl, hl, hc⟩
 | ptr => simp [calleeOf] at h
 | vec => simp [calleeOf] at h
 | eptr => simp [calleeOf] at h
 | part => simp [calleeOf] at h
 | tup => simp [calleeOf] at h

theorem RepVs.append {F : Nat → Prop} {cs ds : List AV} {xs ys : Array Value} (h : RepVs F w H r cs xs) (k : RepVs F w H r ds ys) : RepVs F w H r (cs ++ ds) (xs ++ ys) := by
 refine ⟨by simp [h.1, k.1], fun i c v h1 h2 => ?_⟩
 rw [List.getElem?_append] at h1
 rw [Array.getElem?_append] at h2
 by_cases hi : i < cs.length
 ·rw [if_pos hi] at h1
  rw [if_pos (by rw [h.1]; exact hi)] at h2
  exact h.2 i c v h1 h2
 ·rw [if_neg hi] at h1
  rw [if_neg (by rw [h.1]; exact hi), h.1] at h2
  exact k.2 _ c v h1 h2

/-- How a call of a Go function runs: it enters. -/
theorem run_call {c : Call} {fop : Operand} (hop : o.op = .call c) (hc : c.callee = .value fop) {f : FuncId} {vs : Array Value} (hv : a.eval fop = .func (.func f) #[] vs)
  (hcall : ∀ args w, (callFunc f args).run P w = .ok (.enter f args) w) (w : World) : (execOp a.eval o).run P w = .ok (.enter f (c.args.map a.eval ++ vs)) w := by
 simp only [execOp, hop, resolve, hc, hv, Deferred.ofValue, Sem.run_bind, Sem.run_pure, Result.andThen_ok, invoke]
 rw [hcall]
 simp

theorem RepRes.toAV {F : Nat → Prop} {res : List AV} {x : Value} (h : RepRes F w H r res x) : RepV F w H r (resAV res) x := by
 match res, h with
 | [v], h => exact h
 | [], ⟨xs, e, hl, hi⟩ => subst e; exact .tup _ xs hl hi
 | u :: v :: vs, ⟨xs, e, hl, hi⟩ => subst e; exact .tup _ xs hl hi

theorem backRes {F F' : Nat → Prop} {w w' : World} {H Hs H' : List AObj} {r r' sel : List Nat} {bw : Md} {ok : D → Prop} (h : Left bw F F' w H r sel Hs w' H' r' ok) {res : List AV} {x : Value} (hok : ∀ v ∈ res, okV ok v)
  (hr : RepRes F' w' H' r' res x) : RepRes F w' (backHeap H sel H') (backBlocks r sel r') (res.map (back H sel)) x := by
 match res, hr with
 | [v], hr => exact h.repV (hok v (by simp)) hr
 | [], ⟨xs, e, hl, hi⟩ => exact ⟨xs, e, hl, fun i c v h1 => by simp at h1⟩
 | u :: v :: vs, ⟨xs, e, hl, hi⟩ =>
  refine ⟨xs, e, by simpa using hl, fun i c y h1 h2 => ?_⟩
  have h1' : (List.map (back H sel) (u :: v :: vs))[i]? = some c := h1
  rw [List.getElem?_map] at h1'
  obtain ⟨z, hz, rfl⟩ := Option.map_eq_some_iff.1 h1'
  exact h.repV (hok z (List.mem_of_getElem? hz)) (hi i z y hz h2)

/-- A call to which nothing is lent: what comes back may hold data of whatever kind. -/
theorem AOps_call (sel : List Nat) (d : Nat) (c : Call) (fop : Operand) (fv : AV) (f : FuncId) (cap avs us cs : List AV) (Hs : List AObj) (Q : List AV → List AObj → Prop)
  (hw : wantedE ops E o = some true) (hd : o.dst = some d) (hlt : Nat.ble (d + 1) n = true) (hop : o.op = .call c) (hc : c.callee = .value fop) (hf : evalO E fop = some fv) (hcl : calleeOf fv = some (f, cap))
  (hcall : ∀ args w, (callFunc f args).run P w = .ok (.enter f args) w) (ha : evalL E c.args.toList = some avs) (hn : sel.Nodup) (hs : selHeap .own H sel sel = some Hs) (hv : viewA .own H sel avs = some us) (hvc : viewA .own H sel cap = some cs)
  (hac : AC P f (us.map dropA ++ cs) Hs Q) (hk : ∀ res H', Q res H' → (∀ x ∈ H', okO (fun _ => True) x) ∧ (∀ v ∈ res, okV (fun _ => True) v) ∧ AOps P n G ops rest ((d, resAV (res.map (back H sel))) :: E) (backHeap H sel H') K) :
  AOps P n G ops (o :: rest) E H K := by
 intro r a w hr
 unfold wpList
 rw [wantedE_sound hr hw, if_pos rfl]
 left
 unfold Oper.wp
 obtain ⟨vs, hx, hvs⟩ := calleeOf_sound hcl (evalO_sound hr hf)
 rw [run_call hop hc hx hcall, Oper.upon_enter]
 have hargs : RepVs G.F w H r avs (c.args.map a.eval) := by rw [map_eq]; exact evalL_sound hr ha
 have hseen := seen_own hr.heap hn hs
 refine (hac (ownF G.F H r sel) w (selBlocks r sel) _ (hrel_own hr.heap hn hs) ((hseen.viewA hargs hv).drop.append (hseen.viewA hvs hvc))).mono ?_
 rintro e w' ⟨res, H', r', x, rfl, q, hh', hres, hst⟩
 obtain ⟨q1, q2, q3⟩ := hk res H' q
 have hleft := left_own hr.heap hn hs hst hh' q1
 exact q3 _ _ w' (hr.put hleft.toStep hleft.toHRel o.dst x _ d hd (Nat.le_of_ble_eq_true hlt) (backRes hleft q2 hres).toAV)

/-- A call to which what isn't handed on is lent: what comes back is flat. -/
theorem AOps_callL (sel : List Nat) (d : Nat) (c : Call) (fop : Operand) (fv : AV) (f : FuncId) (cap avs us cs : List AV) (Hs : List AObj) (Q : List AV → List AObj → Prop)
  (hw : wantedE ops E o = some true) (hd : o.dst = some d) (hlt : Nat.ble (d + 1) n = true) (hop : o.op = .call c) (hc : c.callee = .value fop) (hf : evalO E fop = some fv) (hcl : calleeOf fv = some (f, cap))
  (hcall : ∀ args w, (callFunc f args).run P w = .ok (.enter f args) w) (ha : evalL E c.args.toList = some avs) (hn : sel.Nodup) (hs : selHeap .lent H sel sel = some Hs) (hv : viewA .lent H sel avs = some us) (hvc : viewA .lent H sel cap = some cs)
  (hac : AC P f (us.map dropA ++ cs) Hs Q) (hk : ∀ res H', Q res H' → (∀ x ∈ H', okO D.flat x) ∧ (∀ v ∈ res, okV D.flat v) ∧ AOps P n G ops rest ((d, resAV (res.map (back H sel))) :: E) (backHeap H sel H') K) :
  AOps P n G ops (o :: rest) E H K := by
 intro r a w hr
 unfold wpList
 rw [wantedE_sound hr hw, if_pos rfl]
 left
 unfold Oper.wp
 obtain ⟨vs, hx, hvs⟩ := calleeOf_sound hcl (evalO_sound hr hf)
 rw [run_call hop hc hx hcall, Oper.upon_enter]
 have hargs : RepVs G.F w H r avs (c.args.map a.eval) := by rw [map_eq]; exact evalL_sound hr ha
 have hseen := seen_lent rfl hr.heap hn hs
 refine (hac G.F w (selBlocks r sel) _ (hrel_lent rfl hr.heap hn hs) ((hseen.viewA hargs hv).drop.append (hseen.viewA hvs hvc))).mono ?_
 rintro e w' ⟨res, H', r', x, rfl, q, hh', hres, hst⟩
 obtain ⟨q1, q2, q3⟩ := hk res H' q
 have hleft := left_lent hr.heap hn hs hst hh' q1
 exact q3 _ _ w' (hr.put hleft.toStep hleft.toHRel o.dst x _ d hd (Nat.le_of_ble_eq_true hlt) (backRes hleft q2 hres).toAV)

/-! ### Rows whose order is drawn and that only read -/
theorem free_of_below {w w' : World} (hb : Below w.heap.size w w') {b : Nat} (h : free w H r b) : free w' H r b := ⟨Nat.lt_of_lt_of_le h.1 hb.size, h.2⟩

theorem step_of_below {F : Nat → Prop} {w w' : World} (hh : HRel F w H r) (hb : Below w.heap.size w w') : Step w H r w' H r := by
 refine ⟨hb.os, hb.tape, hb.output, hb.size, fun b h => ⟨hb.block b h.1, free_of_below hb h⟩, Nat.le_refl _, fun o x' b' _ h1 h2 h3 => ⟨x', h1, h2, h3⟩, fun o g' cs' b' _ h1 h2 => ?_⟩
 refine ⟨g', cs', b', h1, h2, .inr ⟨rfl, rfl, rfl, fun vs ty h => ⟨vs, ty, ?_, rfl⟩⟩⟩
 rw [hb.block b' ((hh.obj o _ b' h1 h2).lt rfl)]; exact h

theorem hrel_of_below {F : Nat → Prop} {w w' : World} (hh : HRel F w H r) (hb : Below w.heap.size w w') : HRel F w' H r := by
 have hst := step_of_below hh hb
 refine ⟨hh.len, hh.inj, fun o x b h1 h2 => ?_, hh.notF, fun b h => Nat.lt_of_lt_of_le (hh.fin b h) hb.size⟩
 have hO := hh.obj o x b h1 h2
 have same : x.live = true → w'.heap[b]? = w.heap[b]? := fun hl => hb.block b (hO.lt hl)
 cases hO with
 | gone => exact .gone
 | mp v I c hv hb' hI0 => exact .mp v I c hv (by rw [same rfl]; exact hb') hI0
 | box cs vs ty hb' hl => exact .box cs vs ty (by rw [same rfl]; exact hb') (hl.mono hst.imm)
 | ref v z ty hb' hl => exact .ref v z ty (by rw [same rfl]; exact hb') (hl.step hst)
 | vec g cs vs ty hb' hc hm hl => exact .vec g cs vs ty (by rw [same rfl]; exact hb') hc hm (hl.mono hst.imm)

theorem Rel.below {w w' : World} (h : Rel n G E H r a w) (hb : Below w.heap.size w w') : Rel n G E H r a w' := h.go (step_of_below h.heap hb) (hrel_of_below h.heap hb)

def AQ (P : Program) (n : Nat) (G : Ctx) (ops : Array Oper) (l : List Oper) (E : Env) (H : List AObj) (K : Env → Prop) : Prop :=
 ∀ (r : List Nat) (a : Act) (w : World), Rel n G E H r a w → wpQuiet P ops (Below w.heap.size w) (fun a' => ∃ E', K E' ∧ Rel n G E' H r a' w) l a

variable {KQ : Env → Prop}

theorem AQ_nil (h : KQ E) : AQ P n G ops [] E H KQ := fun r a w hr => ⟨E, h, hr⟩

theorem AQ_q (d : Nat) (v : AV) (hw : wantedE ops E o = some true) (hd : o.dst = some d) (hlt : Nat.ble (d + 1) n = true) (hq : QOp P n G o E H v)
  (h : AQ P n G ops rest ((d, v) :: E) H KQ) : AQ P n G ops (o :: rest) E H KQ := by
 intro r a w hr
 obtain ⟨x, hx, hrun⟩ := hq r a w hr
 unfold wpQuiet
 rw [wantedE_sound hr hw, if_pos rfl]
 refine ⟨x, fun w' hw' => ?_, h r _ w (hr.put (Step.refl _ _ _) hr.heap o.dst x v d hd (Nat.le_of_ble_eq_true hlt) hx)⟩
 unfold Oper.quietAt
 rw [hrun w' hw']
 exact ⟨rfl, rfl⟩

theorem AQ_skip (d : Nat) (hd : o.dst = some d) (hlt : Nat.ble (d + 1) n = true) (hw : wantedE ops E o = some false) (h : AQ P n G ops rest ((d, .tup []) :: E) H KQ) : AQ P n G ops (o :: rest) E H KQ := by
 intro r a w hr
 unfold wpQuiet
 rw [wantedE_sound hr hw, if_neg (by simp)]
 exact h r _ w (hr.put (Step.refl _ _ _) hr.heap o.dst undef (.tup []) d hd (Nat.le_of_ble_eq_true hlt) (.tup [] #[] rfl (by simp)))

theorem Rel.caseB {d : Nat} {b : Bool} (he : E.get d = some (.d (.s (.bool b)))) {c : Bool} (hc : b = c) (hr : Rel n G E H r a w) : Rel n G ((d, .d (.s (.bool c))) :: E) H r a w := by
 refine ⟨hr.size, hr.defers, fun t u hu => ?_, hr.heap, hr.step⟩
 by_cases e : d = t
 ·subst e
  rw [Env.get_cons_self] at hu
  cases hu
  rw [← hc]
  exact hr.env d _ he
 ·rw [Env.get_cons_ne _ E e] at hu
  exact hr.env t u hu

theorem AQ_case {l : List Oper} (d : Nat) (b : Bool) (he : E.get d = some (.d (.s (.bool b)))) (ht : b = true → AQ P n G ops l ((d, .d (.s (.bool true))) :: E) H KQ)
  (hf : b = false → AQ P n G ops l ((d, .d (.s (.bool false))) :: E) H KQ) : AQ P n G ops l E H KQ := by
 intro r a w hr
 cases hb : b with
 | true => exact ht hb r a w (hr.caseB he hb)
 | false => exact hf hb r a w (hr.caseB he hb)

/-- A call in such a row: of data alone, with one value that leads nowhere. -/
theorem AQ_call (d : Nat) (c : Call) (fop : Operand) (fv : AV) (f : FuncId) (cap avs us cs : List AV) (v : Value)
  (hw : wantedE ops E o = some true) (hd : o.dst = some d) (hlt : Nat.ble (d + 1) n = true) (hop : o.op = .call c) (hc : c.callee = .value fop) (hf : evalO E fop = some fv) (hcl : calleeOf fv = some (f, cap))
  (hcall : ∀ args w, (callFunc f args).run P w = .ok (.enter f args) w) (ha : evalL E c.args.toList = some avs) (hv : viewA .lent H [] avs = some us) (hvc : viewA .lent H [] cap = some cs)
  (hac : AC P f (us.map dropA ++ cs) [] (fun res H' => res = [.d (.s v)] ∧ H' = [])) (h : AQ P n G ops rest ((d, .d (.s v)) :: E) H KQ) : AQ P n G ops (o :: rest) E H KQ := by
 intro r a w hr
 unfold wpQuiet
 rw [wantedE_sound hr hw, if_pos rfl]
 refine ⟨v, fun w' hw' => ?_, h r _ w (hr.put (Step.refl _ _ _) hr.heap o.dst v _ d hd (Nat.le_of_ble_eq_true hlt) (.d _ _ (.s v)))⟩
 have hr' := hr.below hw'
 obtain ⟨vs, hx, hvs⟩ := calleeOf_sound hcl (evalO_sound hr' hf)
 unfold Oper.quietAt
 rw [run_call hop hc hx hcall]
 refine ⟨rfl, ?_⟩
 have hargs : RepVs G.F w' H r avs (c.args.map a.eval) := by rw [map_eq]; exact evalL_sound hr' ha
 have hs : selHeap .lent H [] [] = some [] := rfl
 have hseen := seen_lent rfl hr'.heap (by simp) hs
 refine (hac G.F w' (selBlocks r []) _ (hrel_lent rfl hr'.heap (by simp) hs) ((hseen.viewA hargs hv).drop.append (hseen.viewA hvs hvc))).mono ?_
 rintro e w'' ⟨res, H', r', x, rfl, ⟨rfl, rfl⟩, hh', hres, hst⟩
 have hx' : x = v := by
  cases hres with
  | d _ _ hd => cases hd; rfl
 subst hx'
 refine ⟨rfl, hw'.trans ⟨hst.os, hst.tape, hst.output, hst.size, fun b hb => (hst.free b ⟨Nat.lt_of_lt_of_le hb hw'.size, fun o x h => by simp at h⟩).1⟩⟩

theorem ACode_quiet {Q : Exit → Env → List AObj → Prop} {id : Nat} {l : List Oper} (hm : P.follows .mixedOrders = true) (hB : Region.lexB .any l.toArray = true)
  (h : AQ P n G l.toArray l E H (fun E' => Q .normal E' H)) : ACode P n G (.region id l.toArray true) E H Q := by
 intro r a w hr
 have hb : Below w.heap.size w { w with drawn := w.drawn + 1 } := ⟨rfl, rfl, rfl, Nat.le_refl _, fun _ _ => rfl⟩
 have hr' : Rel n G E H r a { w with drawn := w.drawn + 1 } := hr.below hb
 refine wp_region_quiet (C := Below w.heap.size { w with drawn := w.drawn + 1 }) hm hB (Below.refl _ _) ?_
 have := h r a _ hr'
 refine wpQuiet_mono' ?_ _ _ this
 rintro a' ⟨E', k, hr2⟩ w' hw'
 exact ⟨E', H, r, k, hr2.below hw'⟩
end
end Go.Proofs.YtldgmcghdohmeaaGreat.Ab
