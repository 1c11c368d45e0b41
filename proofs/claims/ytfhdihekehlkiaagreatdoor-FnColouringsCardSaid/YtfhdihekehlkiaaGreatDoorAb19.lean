/- Own library: contracts that rest on what package variables hold. No conditions. -/
import Derived.Test.YtfhdihekehlkiaaGreatDoorAb18
import Derived.Test.YtfhdihekehlkiaaGreatDoorRow
set_option linter.unusedVariables false
set_option linter.unusedSimpArgs false
namespace Go.Proofs.YtfhdihekehlkiaaGreatDoor.Ab
open Go Go.RowKit

variable {P : Program} {n : Nat} {G : Ctx} {ops : Array Oper} {o : Oper} {rest l : List Oper} {E : Env} {H : List AObj} {K : Env → List AObj → Prop} {w : World} {r : List Nat} {a : Act}

/-- A fact on blocks that nobody writes. -/
def GOK (GK : (Nat → Prop) → World → Prop) : Prop := ∀ (F F' : Nat → Prop) (w w' : World), GK F w → (∀ b, F b → F' b) → (∀ b, F b → w'.heap[b]? = w.heap[b]?) → GK F' w'
def GG (GK : (Nat → Prop) → World → Prop) (G : Ctx) : Prop := GK G.F G.w ∧ ∀ b, G.F b → free G.w G.H G.r b
/-- A contract under such a fact. -/
def ACg (GK : (Nat → Prop) → World → Prop) (P : Program) (f : FuncId) (args : List AV) (H : List AObj) (Q : List AV → List AObj → Prop) : Prop :=
  ∀ (F : Nat → Prop) (w : World) (r : List Nat) (xs : Array Value), GK F w → HRel F w H r → RepVs F w H r args xs →
    Calls P f xs w fun e w' => ∃ res H' r' x, e = .returned x ∧ Q res H' ∧ HRel F w' H' r' ∧ RepRes F w' H' r' res x ∧ Step w H r w' H' r'

/-- A call to which nothing is lent: what comes back may hold data of whatever kind. -/
theorem AOps_callG (sel : List Nat) (d : Nat) (c : Call) (fop : Operand) (fv : AV) (f : FuncId) (cap avs us cs : List AV) (Hs : List AObj) (Q : List AV → List AObj → Prop)
    (hw : wantedE ops E o = some true) (hd : o.dst = some d) (hlt : Nat.ble (d + 1) n = true) (hop : o.op = .call c) (hc : c.callee = .value fop) (hf : evalO E fop = some fv) (hcl : calleeOf fv = some (f, cap))
    (hcall : ∀ args w, (callFunc f args).run P w = .ok (.enter f args) w) (ha : evalL E c.args.toList = some avs) (hn : sel.Nodup) (hs : selHeap .own H sel sel = some Hs) (hv : viewA .own H sel avs = some us) (hvc : viewA .own H sel cap = some cs)
    {GK : (Nat → Prop) → World → Prop} (gok : GOK GK) (hgl : GG GK G) (hac : ACg GK P f (us.map dropA ++ cs) Hs Q) (hk : ∀ res H', Q res H' → (∀ x ∈ H', okO (fun _ => True) x) ∧ (∀ v ∈ res, okV (fun _ => True) v) ∧ AOps P n G ops rest ((d, resAV (res.map (back H sel))) :: E) (backHeap H sel H') K) :
    AOps P n G ops (o :: rest) E H K := by
  intro r a w hr
  unfold wpList
  rw [wantedE_sound hr hw, if_pos rfl]
  left
  unfold Oper.wp
  obtain ⟨vs, hx, hvs⟩ := calleeOf_sound hcl (evalO_sound hr hf)
  rw [run_call hop hc hx hcall, Oper.upon_enter]
  have hargs : RepVs G.F w H r avs (c.args.map a.eval) := by rw [map_eq]; exact evalL_sound hr ha
  have hseen := seen_own hr.heap hn hs
  refine (hac (ownF G.F H r sel) w (selBlocks r sel) _ (gok _ _ _ _ hgl.1 (fun b hb => .inl hb) (fun b hb => (hr.step.free b (hgl.2 b hb)).1)) (hrel_own hr.heap hn hs) ((hseen.viewA hargs hv).drop.append (hseen.viewA hvs hvc))).mono ?_
  rintro e w' ⟨res, H', r', x, rfl, q, hh', hres, hst⟩
  obtain ⟨q1, q2, q3⟩ := hk res H' q
  have hleft := left_own hr.heap hn hs hst hh' q1
  exact q3 _ _ w' (hr.put hleft.toStep hleft.toHRel o.dst x _ d hd (Nat.le_of_ble_eq_true hlt) (backRes hleft q2 hres).toAV)

/-- A function's contract out of a walk of its body. -/
theorem AC_of_bodyG {GK : (Nat → Prop) → World → Prop} (gok : GOK GK) (dr : Bool) {f : FuncId} {fn : Func} {c : Code} {args : List AV} {rvs : List ResultVar} {Q : List AV → List AObj → Prop} (hf : P.funcs[f]? = some fn) (hb : fn.body = some c) (hnt : fn.ntmps = n) (hres : fn.results = rvs.toArray)
    (hn : Nat.ble args.length n = true) (h : ∀ G : Ctx, G.H = H → GG GK G → ACode P n G c (argEnv 0 args) H (retQ P n G H.length dr rvs Q)) : ACg GK P f args H Q := by
  intro F w r xs hgk hh hxs
  refine calls_of_wp hf hb ?_
  have hn' := Nat.le_of_ble_eq_true hn
  have hr : Rel n ⟨F, w, H, r⟩ (argEnv 0 args) H r { tmps := xs ++ Array.replicate (fn.ntmps - xs.size) undef, defers := [] } w := by
    refine ⟨by simp [hnt, hxs.1]; omega, rfl, fun t v hv => ?_, hh, Step.refl _ _ _⟩
    obtain ⟨_, h2⟩ := argEnv_get args 0 t v hv
    simp at h2
    obtain ⟨ht, _⟩ := List.getElem?_eq_some_iff.1 h2
    have ht' : t < xs.size := by rw [hxs.1]; exact ht
    exact ⟨xs[t], by simp [Array.getElem?_append, ht'], hxs.2 t v _ h2 (Array.getElem?_eq_getElem ht')⟩
  refine wp_mono (h ⟨F, w, H, r⟩ rfl ⟨hgk, fun b hb => ⟨hh.fin b hb, fun o x h1 h2 h3 => hh.notF o x b h1 h2 h3 hb⟩⟩ r _ w hr) ?_
  have key : ∀ (a' : Act) (w' : World) (E' : Env) (H' : List AObj) (r' : List Nat), RetOK P n ⟨F, w, H, r⟩ H.length dr rvs Q E' H' → Rel n ⟨F, w, H, r⟩ E' H' r' a' w' →
      a'.defers = [] ∧ ∃ v, (results fn a'.tmps).run P w' = .ok v w' ∧ ∃ res H'' r'' x, Ending.returned v = .returned x ∧ Q res H'' ∧ HRel F w' H'' r'' ∧ RepRes F w' H'' r'' res x ∧ Step w H r w' H'' r'' := by
    rintro a' w' E' H' r' ⟨vals, res, more, H'', h1, h2b, h3, h4, h5⟩ hr'
    have h2 := nodupB_sound _ h2b
    obtain ⟨x, hx, hrx⟩ := run_results hres h1 hr'
    have hseen := seen_lent rfl hr'.heap h2 h3
    refine ⟨hr'.defers, x, hx, _, H'', _, x, rfl, h5, hrel_lent rfl hr'.heap h2 h3, ?_, step_select hr'.step hr'.heap h3⟩
    suffices hh : RepRes F w' H'' (selBlocks r' (List.range H.length ++ more)) res x by
      cases dr with
      | false => exact hh
      | true => exact hh.drop
    obtain ⟨hl, hg⟩ := viewA_get h4
    match vals, res, hl, hg, hrx with
    | [v], [u], _, hg, hrx =>
      obtain ⟨v', e1, e2⟩ := hg 0 u rfl
      simp at e1; subst e1
      exact hseen.view hrx e2
    | [], [], _, hg, ⟨ys, e, k1, k2⟩ => exact ⟨ys, e, k1, by simp⟩
    | v1 :: v2 :: vs, u1 :: u2 :: us, hl, hg, ⟨ys, e, k1, k2⟩ =>
      refine ⟨ys, e, by rw [k1]; exact hl.symm, fun i c z hc hz => ?_⟩
      obtain ⟨v', e1, e2⟩ := hg i c hc
      exact hseen.view (k2 i v' z e1 hz) e2
  rintro x a' w' ⟨E', H', r', q, hr'⟩
  cases x with
  | normal => obtain ⟨E2, H2, hw, q⟩ := q; obtain ⟨r2, hr2⟩ := hw r' a' w' hr'; exact key a' w' E2 H2 r2 q hr2
  | ret => obtain ⟨E2, H2, hw, q⟩ := q; obtain ⟨r2, hr2⟩ := hw r' a' w' hr'; exact key a' w' E2 H2 r2 q hr2
  | exit id => exact q.elim
  | goto l => exact q.elim
  | panic ch => exact q.elim
  | outgrown => exact q.elim

theorem hrel_none {F : Nat → Prop} {w : World} (h : ∀ b, F b → b < w.heap.size) : HRel F w [] [] :=
  ⟨rfl, fun o o' x x' b h => by simp at h, fun o x b h => by simp at h, fun o x b h => by simp at h, h⟩

end Go.Proofs.YtfhdihekehlkiaaGreatDoor.Ab
