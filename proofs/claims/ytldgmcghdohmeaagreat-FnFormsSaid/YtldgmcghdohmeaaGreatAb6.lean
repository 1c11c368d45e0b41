/- Own library, part 6: a function's beginning and end; loads and addresses. No conditions. -/
import Derived.Test.YtldgmcghdohmeaaGreatAb5
set_option linter.unusedVariables false
set_option linter.unusedSimpArgs false
namespace Go.Proofs.YtldgmcghdohmeaaGreat.Ab
open Go Go.RowKit

def argEnv : Nat → List AV → Env
 | _, [] => []
 | i, v :: vs => (i, v) :: argEnv (i + 1) vs

theorem argEnv_get (vs : List AV) : ∀ (i t : Nat) (v : AV), (argEnv i vs).get t = some v → i ≤ t ∧ vs[t - i]? = some v := by
 induction vs with
 | nil => intro i t v h; simp [argEnv, Env.get] at h
 | cons u us ih =>
  intro i t v h
  unfold argEnv at h
  by_cases e : i = t
  ·subst e
   rw [Env.get_cons_self] at h
   simpa using h
  ·rw [Env.get_cons_ne u _ e] at h
   obtain ⟨h1, h2⟩ := ih (i + 1) t v h
   refine ⟨by omega, ?_⟩
   rw [show t - i = (t - (i + 1)) + 1 by omega]
   simpa using h2

/-- What a result variable yields at the end. -/
def resPiece (tmps : Array Value) : ResultVar → Sem Value
 | .tmp t => pure (tmps.getD t undef)
 | .cell a t => do loadVar t (← asAddr (tmps.getD a undef))

def ResV (P : Program) (n : Nat) (G : Ctx) (E : Env) (H : List AObj) (rv : ResultVar) (v : AV) : Prop :=
 ∀ (r : List Nat) (a : Act) (w : World), Rel n G E H r a w → ∃ x, RepV G.F w H r v x ∧ (resPiece a.tmps rv).run P w = .ok x w

inductive ResVs (P : Program) (n : Nat) (G : Ctx) (E : Env) (H : List AObj) : List ResultVar → List AV → Prop
 | nil : ResVs P n G E H [] []
 | cons {rv : ResultVar} {v : AV} {rvs : List ResultVar} {vs : List AV} (h : ResV P n G E H rv v) (t : ResVs P n G E H rvs vs) : ResVs P n G E H (rv :: rvs) (v :: vs)

def nodupB : List Nat → Bool
 | [] => true
 | x :: xs => (match idx xs x with | none => true | some _ => false) && nodupB xs

theorem nodupB_sound : ∀ (xs : List Nat), nodupB xs = true → xs.Nodup
 | [], _ => List.nodup_nil
 | x :: xs, h => by
  unfold nodupB at h
  rw [Bool.and_eq_true] at h
  refine List.nodup_cons.2 ⟨?_, nodupB_sound xs h.2⟩
  cases hi : idx xs x with
  | none => exact idx_none hi
  | some k => rw [hi] at h; simp at h

/-- The end of a function: its results and the objects that go with them. -/
def RetOK (P : Program) (n : Nat) (G : Ctx) (m : Nat) (dr : Bool) (rvs : List ResultVar) (Q : List AV → List AObj → Prop) (E : Env) (H : List AObj) : Prop :=
 ∃ vals res more H'', ResVs P n G E H rvs vals ∧ nodupB (List.range m ++ more) = true ∧
  selHeap .keep H (List.range m ++ more) (List.range m ++ more) = some H'' ∧ viewA .keep H (List.range m ++ more) vals = some res ∧ Q (bif dr then res.map dropA else res) H''

def retQ (P : Program) (n : Nat) (G : Ctx) (m : Nat) (dr : Bool) (rvs : List ResultVar) (Q : List AV → List AObj → Prop) : Exit → Env → List AObj → Prop
 | .normal, E, H => ∃ E' H', (∀ (r : List Nat) (a : Act) (w : World), Rel n G E H r a w → ∃ r0, Rel n G E' H' r0 a w) ∧ RetOK P n G m dr rvs Q E' H'
 | .ret, E, H => ∃ E' H', (∀ (r : List Nat) (a : Act) (w : World), Rel n G E H r a w → ∃ r0, Rel n G E' H' r0 a w) ∧ RetOK P n G m dr rvs Q E' H'
 | _, _, _ => False

section
variable {P : Program} {n : Nat} {G : Ctx} {E : Env} {H : List AObj} {o : Oper} {r : List Nat} {a : Act} {w : World}

theorem ResVs.run {rvs : List ResultVar} {vs : List AV} (h : ResVs P n G E H rvs vs) (hr : Rel n G E H r a w) : ∃ xs : List Value, (rvs.mapM (resPiece a.tmps)).run P w = .ok xs w ∧ xs.length = vs.length ∧
  ∀ (i : Nat) (c : AV) (v : Value), vs[i]? = some c → xs[i]? = some v → RepV G.F w H r c v := by
 induction h with
 | nil => exact ⟨[], rfl, rfl, by simp⟩
 | cons h t ih =>
  obtain ⟨x, hx, hrun⟩ := h r a w hr
  obtain ⟨xs, h1, h2, h3⟩ := ih
  refine ⟨x :: xs, ?_, by simp [h2], fun i c v hc hv => ?_⟩
  ·simp [List.mapM_cons, hrun, h1]
  ·cases i with
   | zero => simp at hc hv; subst hc; subst hv; exact hx
   | succ i => simp at hc hv; exact h3 i c v hc hv

theorem run_results {fn : Func} {rvs : List ResultVar} {vs : List AV} (hres : fn.results = rvs.toArray) (h : ResVs P n G E H rvs vs) (hr : Rel n G E H r a w) : ∃ x, (results fn a.tmps).run P w = .ok x w ∧ RepRes G.F w H r vs x := by
 obtain ⟨xs, h1, h2, h3⟩ := h.run hr
 have e : (fn.results.mapM (resPiece a.tmps)).run P w = .ok xs.toArray w := by
  rw [hres, Array.mapM_eq_mapM_toList]
  simp [h1]
 have e' : (results fn a.tmps).run P w = .ok (if h : xs.toArray.size = 1 then xs.toArray[0] else .tuple xs.toArray) w := by
  have e2 : results fn a.tmps = (do let vs ← fn.results.mapM (resPiece a.tmps); pure (if h : vs.size = 1 then vs[0] else .tuple vs)) := rfl
  rw [e2, Sem.run_bind, e]
  rfl
 refine ⟨_, e', ?_⟩
 match vs, xs, h2, h3 with
 | [v], [x], _, h3 => exact h3 0 v x rfl rfl
 | [], [], _, h3 => exact ⟨#[], by simp, rfl, by simp⟩
 | u :: v :: vs, x :: y :: ys, hl, h3 => exact ⟨(x :: y :: ys).toArray, by simp, by simpa using hl, fun i c z hc hz => h3 i c z hc (by simpa using hz)⟩

theorem RepRes.drop {F : Nat → Prop} {w : World} {H : List AObj} {r : List Nat} {res : List AV} {x : Value} (h : RepRes F w H r res x) : RepRes F w H r (res.map dropA) x := by
 match res, h with
 | [v], h => exact RepV.drop h
 | [], ⟨xs, e, k⟩ => exact ⟨xs, e, k⟩
 | u :: v :: vs, ⟨xs, e, k⟩ => exact ⟨xs, e, RepVs.drop k⟩

theorem step_select {F : Nat → Prop} {w0 : World} {H0 H'' : List AObj} {r0 more : List Nat} (hst : Step w0 H0 r0 w H r) (hh : HRel F w H r)
  (hs : selHeap .keep H (List.range H0.length ++ more) (List.range H0.length ++ more) = some H'') : Step w0 H0 r0 w H'' (selBlocks r (List.range H0.length ++ more)) := by
 have hg := selHeap_get hs
 have first : ∀ (o : Nat) (y : AObj) (b : Nat), o < H0.length → H''[o]? = some y → (selBlocks r (List.range H0.length ++ more))[o]? = some b → ∃ x, H[o]? = some x ∧ viewO .keep H (List.range H0.length ++ more) x = some y ∧ r[o]? = some b := by
  intro o y b ho h1 h2
  have hk : (List.range H0.length ++ more)[o]? = some o := by
   rw [List.getElem?_append, if_pos (by simpa using ho)]; simp [ho]
  obtain ⟨x, y', e1, e2, e3⟩ := hg.2 o o hk
  rw [h1] at e3; cases e3
  obtain ⟨b', hb'⟩ := hh.blk e1
  rw [selBlocks_get hk] at h2
  simp [List.getD_eq_getElem?_getD, hb'] at h2
  subst h2
  exact ⟨x, e1, e2, hb'⟩
 refine ⟨hst.os, hst.tape, hst.output, hst.size, fun b hb => ?_, by rw [hg.1]; simp, ?_, ?_⟩
 ·obtain ⟨h1, h2⟩ := hst.free b hb
  exact ⟨h1, freeSel0 hh hs h2⟩
 ·intro o y b ho h1 h2 h3
  obtain ⟨x, e1, e2, e3⟩ := first o y b ho h1 h2
  exact hst.fixed o x b ho e1 e3 (by rw [← viewO_fixed e2]; exact h3)
 ·intro o g' cs' b ho h1 h2
  obtain ⟨x, e1, e2, e3⟩ := first o _ b ho h1 h2
  obtain ⟨g0, rfl, rfl⟩ := viewO_vec e2
  exact hst.vec o _ cs' b ho e1 e3

/-- A function's contract out of a walk of its body. -/
theorem AC_of_body (dr : Bool) {f : FuncId} {fn : Func} {c : Code} {args : List AV} {rvs : List ResultVar} {Q : List AV → List AObj → Prop} (hf : P.funcs[f]? = some fn) (hb : fn.body = some c) (hnt : fn.ntmps = n) (hres : fn.results = rvs.toArray)
  (hn : Nat.ble args.length n = true) (h : ∀ G : Ctx, G.H = H → ACode P n G c (argEnv 0 args) H (retQ P n G H.length dr rvs Q)) : AC P f args H Q := by
 intro F w r xs hh hxs
 refine calls_of_wp hf hb ?_
 have hn' := Nat.le_of_ble_eq_true hn
 have hr : Rel n ⟨F, w, H, r⟩ (argEnv 0 args) H r { tmps := xs ++ Array.replicate (fn.ntmps - xs.size) undef, defers := [] } w := by
  refine ⟨by simp [hnt, hxs.1]; omega, rfl, fun t v hv => ?_, hh, Step.refl _ _ _⟩
  obtain ⟨_, h2⟩ := argEnv_get args 0 t v hv
  simp at h2
  obtain ⟨ht, _⟩ := List.getElem?_eq_some_iff.1 h2
  have ht' : t < xs.size := by rw [hxs.1]; exact ht
  exact ⟨xs[t], by simp [Array.getElem?_append, ht'], hxs.2 t v _ h2 (Array.getElem?_eq_getElem ht')⟩
 refine wp_mono (h ⟨F, w, H, r⟩ rfl r _ w hr) ?_
 have key : ∀ (a' : Act) (w' : World) (E' : Env) (H' : List AObj) (r' : List Nat), RetOK P n ⟨F, w, H, r⟩ H.length dr rvs Q E' H' → Rel n ⟨F, w, H, r⟩ E' H' r' a' w' →
   a'.defers = [] ∧ ∃ v, (results fn a'.tmps).run P w' = .ok v w' ∧ ∃ res H'' r'' x, Ending.returned v = .returned x ∧ Q res H'' ∧ HRel F w' H'' r'' ∧ RepRes F w' H'' r'' res x ∧ Step w H r w' H'' r'' := by
  rintro a' w' E' H' r' ⟨vals, res, more, H'', h1, h2b, h3, h4, h5⟩ hr'
  have h2 := nodupB_sound _ h2b
  obtain ⟨x, hx, hrx⟩ := run_results hres h1 hr'
  have hseen := seen_lent rfl hr'.heap h2 h3
  refine ⟨hr'.defers, x, hx, _, H'', _, x, rfl, h5, hrel_lent rfl hr'.heap h2 h3, ?_, step_select hr'.step hr'.heap h3⟩
  suffices hh : RepRes F w' H'' (selBlocks r' (List.range H.length ++ more)) res x by
   cases dr with
   | false => exact hh
   | true => exact hh.drop
  obtain ⟨hl, hg⟩ := viewA_get h4
  match vals, res, hl, hg, hrx with
  | [v], [u], _, hg, hrx =>
   obtain ⟨v', e1, e2⟩ := hg 0 u rfl
   simp at e1; subst e1
   exact hseen.view hrx e2
  | [], [], _, hg, ⟨ys, e, k1, k2⟩ => exact ⟨ys, e, k1, by simp⟩
  | v1 :: v2 :: vs, u1 :: u2 :: us, hl, hg, ⟨ys, e, k1, k2⟩ =>
   refine ⟨ys, e, by rw [k1]; exact hl.symm, fun i c z hc hz => ?_⟩
   obtain ⟨v', e1, e2⟩ := hg i c hc
   exact hseen.view (k2 i v' z e1 hz) e2
 rintro x a' w' ⟨E', H', r', q, hr'⟩
 cases x with
 | normal => obtain ⟨E2, H2, hw, q⟩ := q; obtain ⟨r2, hr2⟩ := hw r' a' w' hr'; exact key a' w' E2 H2 r2 q hr2
 | ret => obtain ⟨E2, H2, hw, q⟩ := q; obtain ⟨r2, hr2⟩ := hw r' a' w' hr'; exact key a' w' E2 H2 r2 q hr2
 | exit id => exact q.elim
 | goto l => exact q.elim
 | panic ch => exact q.elim
 | outgrown => exact q.elim

theorem ResV_tmp (t : Nat) (v : AV) (h : E.get t = some v) : ResV P n G E H (.tmp t) v := fun r a w hr => by
 obtain ⟨x, hx, hv⟩ := hr.env t v h
 exact ⟨x, hv, by simp [resPiece, Array.getD_eq_getD_getElem?, hx]⟩

/-! ### Addresses and loads -/
theorem QOp_nilCheck_pv (x : Operand) (cs : List D) (off : Nat) (h : o.op = .nilCheck x) (he : evalO E x = some (.d (.pv cs off))) : QOp P n G o E H (.d (.pv cs off)) :=
 fun r a w hr => ⟨a.eval x, evalO_sound hr he, fun w' _ => by
  have := evalO_sound hr he
  cases this with
  | d _ _ hd => generalize hv : a.eval x = v at hd; cases hd; simp [execOp, h, hv]⟩

theorem QOp_nilCheck_ptr (x : Operand) (k off : Nat) (y : AObj) (h : o.op = .nilCheck x) (he : evalO E x = some (.ptr k off)) (hy : H[k]? = some y) (hf : y.fixed = true) : QOp P n G o E H (.ptr k off) :=
 fun r a w hr => ⟨a.eval x, evalO_sound hr he, fun w' _ => by
  have := evalO_sound hr he
  cases this with
  | ptr _ _ _ ho hp =>
   obtain ⟨b, hb⟩ := hr.heap.blk hy
   have := hp y b hy hb hf
   simp [execOp, h, this]⟩

theorem QOp_fieldAddr_pv (t : TypeId) (x : Operand) (fi : Nat) (cs : List D) (off k : Nat) (fs : Array Field) (fd : Field) (h : o.op = .fieldAddr t x fi) (hu : P.underlying t = some (.struct fs)) (hfd : fs[fi]? = some fd) (sz : Nat) (hsz : ∀ w, (sizeOf fd.type).run P w = .ok (sz + 1) w)
  (hk : fd.offset = k) (he : evalO E x = some (.d (.pv cs off))) : QOp P n G o E H (.d (.pv cs (off + k))) := by
 intro r a w hr
 have hev := evalO_sound hr he
 cases hev with
 | d _ _ hd =>
  generalize hv : a.eval x = v at hd
  cases hd with
  | pv _ _ vs b base hl hI hcell hc =>
   refine ⟨.pointer (some ⟨b, base + (off + k), none⟩), .d _ _ (.pv cs (off + k) vs b base hl hI hcell hc), fun w' _ => ?_⟩
   simp [execOp, h, Instr.fieldAt, run_underlying hu, hfd, hv, Instr.sureAddr, fieldPlace, hsz, Addr.add_lit, hk, Nat.add_assoc]

theorem QOp_fieldAddr_ptr (t : TypeId) (x : Operand) (fi : Nat) (y : AObj) (j off k : Nat) (fs : Array Field) (fd : Field) (h : o.op = .fieldAddr t x fi) (hu : P.underlying t = some (.struct fs)) (hfd : fs[fi]? = some fd) (sz : Nat) (hsz : ∀ w, (sizeOf fd.type).run P w = .ok (sz + 1) w)
  (hk : fd.offset = k) (he : evalO E x = some (.ptr j off)) (hy : H[j]? = some y) (hf : y.fixed = true) : QOp P n G o E H (.ptr j (off + k)) := by
 intro r a w hr
 have hev := evalO_sound hr he
 cases hev with
 | ptr _ _ _ ho hp =>
  obtain ⟨b, hb⟩ := hr.heap.blk hy
  have hv := hp y b hy hb hf
  refine ⟨.pointer (some ⟨b, off + k, none⟩), .ptr j (off + k) _ ho fun x' b' h1 h2 _ => ?_, fun w' _ => ?_⟩
  ·rw [hb] at h2; cases h2; rfl
  ·simp [execOp, h, Instr.fieldAt, run_underlying hu, hfd, hv, Instr.sureAddr, fieldPlace, hsz, Addr.add_lit, hk]

theorem QOp_indexAddrA_pv (t e : TypeId) (x y : Operand) (m : Nat) (kd : IntKind) (cs : List D) (off : Nat) (i : Int) (h : o.op = .indexAddr t x y) (hu : P.underlying t = some (.array m e)) (hsz : ∀ w, (sizeOf e).run P w = .ok 1 w)
  (h0 : 0 ≤ i) (h1 : i < (m : Int)) (hx : evalO E x = some (.d (.pv cs off))) (hy : evalO E y = some (.d (.s (.int kd i)))) : QOp P n G o E H (.d (.pv cs (off + i.toNat))) := by
 intro r a w hr
 have hev := evalO_sound hr hx
 cases hev with
 | d _ _ hd =>
  generalize hv : a.eval x = v at hd
  cases hd with
  | pv _ _ vs b base hl hI hcell hc =>
   refine ⟨.pointer (some ⟨b, base + (off + i.toNat), none⟩), .d _ _ (.pv cs (off + i.toNat) vs b base hl hI hcell hc), fun w' _ => ?_⟩
   simp [execOp, h, Instr.indexAt, run_underlying hu, hv, evalO_s hr hy, Instr.sureAddr, asIntOf, hsz, Addr.add_lit, h0, h1, Nat.add_assoc]

theorem QOp_indexAddrA_ptr (t e : TypeId) (x y : Operand) (m : Nat) (kd : IntKind) (z : AObj) (j off : Nat) (i : Int) (h : o.op = .indexAddr t x y) (hu : P.underlying t = some (.array m e)) (hsz : ∀ w, (sizeOf e).run P w = .ok 1 w)
  (h0 : 0 ≤ i) (h1 : i < (m : Int)) (hx : evalO E x = some (.ptr j off)) (hz : H[j]? = some z) (hf : z.fixed = true) (hy : evalO E y = some (.d (.s (.int kd i)))) : QOp P n G o E H (.ptr j (off + i.toNat)) := by
 intro r a w hr
 have hev := evalO_sound hr hx
 cases hev with
 | ptr _ _ _ ho hp =>
  obtain ⟨b, hb⟩ := hr.heap.blk hz
  have hv := hp z b hz hb hf
  refine ⟨.pointer (some ⟨b, off + i.toNat, none⟩), .ptr j _ _ ho fun x' b' h1 h2 _ => ?_, fun w' _ => ?_⟩
  ·rw [hb] at h2; cases h2; rfl
  ·simp [execOp, h, Instr.indexAt, run_underlying hu, hv, evalO_s hr hy, Instr.sureAddr, asIntOf, hsz, Addr.add_lit, h0, h1]

/-- A load of one cell. -/
theorem QOp_load_pv (t : TypeId) (x : Operand) (cs : List D) (off : Nat) (c : D) (h : o.op = .load t x) (ht : ∀ w, (isAgg t).run P w = .ok false w) (he : evalO E x = some (.d (.pv cs off))) (hc : cs[off]? = some c) : QOp P n G o E H (.d c) := by
 intro r a w hr
 have hev := evalO_sound hr he
 cases hev with
 | d _ _ hd =>
  generalize hv : a.eval x = v at hd
  cases hd with
  | pv _ _ vs b base hl hI hcell hrep =>
   obtain ⟨u, hu, hru⟩ := RepL.get ⟨hl, hrep⟩ hc
   refine ⟨u, .d _ _ hru, fun w' hb => ?_⟩
   have hw : w'.cell? ⟨b, base + off, none⟩ = some u := by
    rw [World.cell?_of_block (w := w) (a := ⟨b, base + off, none⟩) (hb.block b hI.1.1)]; exact hcell off u hu
   simp [execOp, h, Instr.loadAt, hv, Instr.sureAddr, loadVar, ht, hw]

theorem QOp_load_ptr (t : TypeId) (x : Operand) (k off : Nat) (cs : List D) (c : D) (h : o.op = .load t x) (ht : ∀ w, (isAgg t).run P w = .ok false w) (he : evalO E x = some (.ptr k off)) (hk : H[k]? = some (.box cs)) (hc : cs[off]? = some c) : QOp P n G o E H (.d c) := by
 intro r a w hr
 have hev := evalO_sound hr he
 cases hev with
 | ptr _ _ _ ho hp =>
  obtain ⟨b, hb⟩ := hr.heap.blk hk
  have hv := hp _ b hk hb rfl
  have hO := hr.heap.obj k _ b hk hb
  have hlt := hO.lt rfl
  cases hO with
  | box _ vs ty hw hl =>
   obtain ⟨u, hu, hru⟩ := hl.get hc
   refine ⟨u, .d _ _ hru, fun w' hbl => ?_⟩
   have hw' : w'.cell? ⟨b, off, none⟩ = some u := by
    rw [World.cell_block (by rw [hbl.block b hlt]; exact hw)]; simpa using hu
   simp [execOp, h, Instr.loadAt, hv, Instr.sureAddr, loadVar, ht, hw']

theorem QOp_load_ref (t : TypeId) (x : Operand) (k : Nat) (u : AV) (h : o.op = .load t x) (ht : ∀ w, (isAgg t).run P w = .ok false w) (he : evalO E x = some (.ptr k 0)) (hk : H[k]? = some (.ref u)) : QOp P n G o E H u := by
 intro r a w hr
 have hev := evalO_sound hr he
 cases hev with
 | ptr _ _ _ ho hp =>
  obtain ⟨b, hb⟩ := hr.heap.blk hk
  have hv := hp _ b hk hb rfl
  have hO := hr.heap.obj k _ b hk hb
  have hlt := hO.lt rfl
  cases hO with
  | ref _ z ty hw hl =>
   refine ⟨z, hl, fun w' hbl => ?_⟩
   have hw' : w'.cell? ⟨b, 0, none⟩ = some z := by
    rw [World.cell_block (by rw [hbl.block b hlt]; exact hw)]; rfl
   simp [execOp, h, Instr.loadAt, hv, Instr.sureAddr, loadVar, ht, hw']

/-- A load of a whole struct or array. -/
theorem QOp_loadN_pv (t : TypeId) (x : Operand) (cs ds : List D) (off sz : Nat) (h : o.op = .load t x) (ht : ∀ w, (isAgg t).run P w = .ok true w) (hsz : ∀ w, (sizeOf t).run P w = .ok sz w) (he : evalO E x = some (.d (.pv cs off)))
  (hds : (cs.drop off).take sz = ds) (hl : ds.length = sz) : QOp P n G o E H (.d (.agg ds)) := by
 intro r a w hr
 have hev := evalO_sound hr he
 cases hev with
 | d _ _ hd =>
  generalize hv : a.eval x = v at hd
  cases hd with
  | pv _ _ vs b base hlen hI hcell hrep =>
   have hL : RepL w (imm G.F w H r) ds ((vs.drop off).take sz) := by rw [← hds]; exact (RepL.take (RepL.drop ⟨hlen, hrep⟩ off) sz)
   have hlen' : ((vs.drop off).take sz).length = sz := by rw [hL.1, hl]
   refine ⟨.agg ((vs.drop off).take sz).toArray, .d _ _ (.agg ds _ (by simpa using hL.1) (by simpa using hL.2)), fun w' hb => ?_⟩
   have hload := run_loadCells_list (P := P) w' ⟨b, base + off, none⟩ ((vs.drop off).take sz) (fun j u hj => by
    rw [Addr.add_lit, World.cell?_of_block (w := w) (a := ⟨b, base + off + j, none⟩) (hb.block b hI.1.1), Nat.add_assoc]
    refine hcell (off + j) u ?_
    rw [List.getElem?_take] at hj
    split at hj
    ·simpa [List.getElem?_drop] using hj
    ·simp at hj)
   rw [hlen'] at hload
   simp [execOp, h, Instr.loadAt, hv, Instr.sureAddr, loadVar, ht, hsz, hload]

theorem QOp_loadN_ptr (t : TypeId) (x : Operand) (k : Nat) (cs ds : List D) (off sz : Nat) (h : o.op = .load t x) (ht : ∀ w, (isAgg t).run P w = .ok true w) (hsz : ∀ w, (sizeOf t).run P w = .ok sz w) (he : evalO E x = some (.ptr k off)) (hk : H[k]? = some (.box cs))
  (hds : (cs.drop off).take sz = ds) (hl : ds.length = sz) : QOp P n G o E H (.d (.agg ds)) := by
 intro r a w hr
 have hev := evalO_sound hr he
 cases hev with
 | ptr _ _ _ ho hp =>
  obtain ⟨b, hb⟩ := hr.heap.blk hk
  have hv := hp _ b hk hb rfl
  have hO := hr.heap.obj k _ b hk hb
  have hlt := hO.lt rfl
  cases hO with
  | box _ vs ty hw hrep =>
   have hL : RepL w (imm G.F w H r) ds ((vs.toList.drop off).take sz) := by rw [← hds]; exact (RepL.take (RepL.drop hrep off) sz)
   have hlen' : ((vs.toList.drop off).take sz).length = sz := by rw [hL.1, hl]
   refine ⟨.agg ((vs.toList.drop off).take sz).toArray, .d _ _ (.agg ds _ (by simpa using hL.1) (by simpa using hL.2)), fun w' hbl => ?_⟩
   have hload := run_loadCells_list (P := P) w' ⟨b, off, none⟩ ((vs.toList.drop off).take sz) (fun j u hj => by
    rw [Addr.add_lit, World.cell_block (by rw [hbl.block b hlt]; exact hw)]
    rw [List.getElem?_take] at hj
    split at hj
    ·simpa [List.getElem?_drop] using hj
    ·simp at hj)
   rw [hlen'] at hload
   simp [execOp, h, Instr.loadAt, hv, Instr.sureAddr, loadVar, ht, hsz, hload]

/-- Whole numbers of another kind. -/
theorem QOp_conv (src dst : TypeId) (x : Operand) (ks k : IntKind) (p : Int) (h : o.op = .convert src dst x) (hs : (P.underlying src).isSome = true) (hd : P.underlying dst = some (.int k)) (he : evalO E x = some (.d (.s (.int ks p)))) : QOp P n G o E H (.d (.s (.int k (k.wrap p)))) :=
 fun r a w hr => ⟨_, .d _ _ (.s _), fun w' _ => by
  obtain ⟨d, hd'⟩ := Option.isSome_iff_exists.1 hs
  simp [execOp, h, evalO_s hr he, convert, run_underlying hd', run_underlying hd, Conv.intToInt]⟩
end
end Go.Proofs.YtldgmcghdohmeaaGreat.Ab
