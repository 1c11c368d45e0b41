/- Own library, part 17: variables that hold an owned slice: handed in, stored to. No conditions. -/
import Derived.Test.YtghhnpdhehjlaaaAb16
set_option linter.unusedVariables false
set_option linter.unusedSimpArgs false
namespace Go.Proofs.Ytghhnpdhehjlaaa.Ab
open Go Go.RowKit

section
variable {P : Program} {n : Nat} {G : Ctx} {E : Env} {H : List AObj}

variable {ops : Array Oper} {rest : List Oper} {o : Oper} {K : Env → List AObj → Prop}

theorem freeze_rep {F : Nat → Prop} {w : World} {r : List Nat} {o g : Nat} {cs : List D} {x : Value} (hh : HRel F w H r) (hH : H[o]? = some (.vec g cs)) (hv : RepV F w H r (.vec o g) x) : RepV F w (H.set o .gone) r (.d (.sl none cs)) x := by
  have hst : Step w H r w (H.set o .gone) r := step_gone o
  obtain ⟨b, hb⟩ := hh.blk hH
  cases hv with
  | vec _ _ _ ho hp =>
    obtain ⟨cap, vs, ty, e1, e2, e3⟩ := (hp g cs b hH hb).2 rfl
    have hO := hh.obj o _ b hH hb
    cases hO with
    | vec _ _ vs' ty' hb' hc hm hl =>
      have : vs' = vs := by rw [hb'] at e2; cases e2; rfl
      subst this
      subst e1
      have hlen : (vs'.toList.take cs.length).length = cs.length := by simp; omega
      have hI : imm F w (H.set o .gone) r b := by
        refine ⟨⟨(Array.getElem?_eq_some_iff.1 hb').1, fun o' x h1 h2 h3 => ?_⟩, hh.notF o _ b hH rfl hb⟩
        rcases get_gone h1 with rfl | ⟨hne, k1⟩
        · simp [AObj.live] at h2
        · exact hne (hh.inj o o' _ x b hH rfl k1 h2 hb h3)
      refine .d _ _ (.sl none cs (vs'.toList.take cs.length) (some ⟨b, 0, none⟩) cap hlen (fun b hb => by cases hb) (by rw [e3]; exact hc) (fun _ => ⟨b, 0, rfl, hI, fun i v hv => ?_⟩) (fun i c v hc' hv' => ?_))
      · rw [World.cell_block hb']
        rw [List.getElem?_take] at hv
        split at hv
        · simpa using hv
        · cases hv
      · obtain ⟨v2, g1, g2⟩ := (hl.mono hst.imm).get hc'
        rw [g1] at hv'
        cases hv'
        exact g2

theorem get_all (ts : List Nat) (v : AV) (E : Env) (k : Nat) (u : AV) (h : Env.get (ts.map (fun t => (t, v)) ++ E) k = some u) : (k ∈ ts ∧ u = v) ∨ Env.get E k = some u := by
  induction ts with
  | nil => exact .inr h
  | cons t ts ih =>
    rw [List.map_cons, List.cons_append] at h
    by_cases e : t = k
    · subst e
      rw [Env.get_cons_self] at h
      cases h
      exact .inl ⟨List.mem_cons_self .., rfl⟩
    · rw [Env.get_cons_ne _ _ e] at h
      rcases ih h with ⟨h1, h2⟩ | h
      · exact .inl ⟨List.mem_cons_of_mem _ h1, h2⟩
      · exact .inr h

/-- An owned slice becomes data, in all slots that hold it. -/
theorem AOps_freezeL (ts : List Nat) (o g : Nat) (cs : List D) (he : ∀ t ∈ ts, E.get t = some (.vec o g)) (hH : H[o]? = some (.vec g cs)) (h : AOps P n G ops rest (ts.map (fun t => (t, .d (.sl none cs))) ++ E) (H.set o .gone) K) : AOps P n G ops rest E H K := by
  intro r a w hr
  have hst : Step w H r w (H.set o .gone) r := step_gone o
  refine h r a w ⟨hr.size, hr.defers, fun k u hu => ?_, hrel_gone o hr.heap, hr.step.trans hst⟩
  rcases get_all ts _ E k u hu with ⟨h1, rfl⟩ | hu
  · obtain ⟨x, hx, hv⟩ := hr.env k _ (he k h1)
    exact ⟨x, hx, freeze_rep hr.heap hH hv⟩
  · obtain ⟨x, hx, hv⟩ := hr.env k u hu
    exact ⟨x, hx, hv.step hst⟩

/-- A call to which nothing is lent, in a drawn row. -/
theorem AStep_callN {f : Nat} {listed : Array Bool} (i d : Nat) (c : Call) (fop : Operand) (fv : AV) (g : FuncId) (cap avs us cs : List AV) (Q : List AV → List AObj → Prop) (hi : ops[i]? = some o)
    (hw : wantedE ops E o = some true) (hd : o.dst = some d) (hlt : Nat.ble (d + 1) n = true) (hop : o.op = .call c) (hc : c.callee = .value fop) (hf : evalO E fop = some fv) (hcl : calleeOf fv = some (g, cap))
    (hcall : ∀ args w, (callFunc g args).run P w = .ok (.enter g args) w) (ha : evalL E c.args.toList = some avs) (hv : viewA .own H [] avs = some us) (hvc : viewA .own H [] cap = some cs)
    (hac : AC P g (us.map dropA ++ cs) [] Q) (hk : ∀ res H', Q res H' → (∀ x ∈ H', okO (fun _ => True) x) ∧ (∀ v ∈ res, okV (fun _ => True) v) ∧ AAny P n G ops f (listed.setIfInBounds i true) ((d, resAV (res.map (back H []))) :: E) (backHeap H [] H') K) :
    AStep P n G ops f listed E H K i := by
  intro r a w hr
  unfold wpOp
  simp only [hi]
  rw [wantedE_sound hr hw, if_pos rfl]
  left
  unfold Oper.wp
  obtain ⟨vs, hx, hvs⟩ := calleeOf_sound hcl (evalO_sound hr hf)
  rw [run_call hop hc hx hcall, Oper.upon_enter]
  have hargs : RepVs G.F w H r avs (c.args.map a.eval) := by rw [map_eq]; exact evalL_sound hr ha
  have hn : ([] : List Nat).Nodup := by simp
  have hs : selHeap .own H [] [] = some [] := rfl
  have hseen := seen_own hr.heap hn hs
  refine (hac (ownF G.F H r []) w (selBlocks r []) _ (hrel_own hr.heap hn hs) ((hseen.viewA hargs hv).drop.append (hseen.viewA hvs hvc))).mono ?_
  rintro e w' ⟨res, H', r', x, rfl, q, hh', hres, hst⟩
  obtain ⟨q1, q2, q3⟩ := hk res H' q
  have hleft := left_own hr.heap hn hs hst hh' q1
  exact ⟨⟨hst.os, hst.tape, hst.output, hst.size, fun b hb => (hst.free b ⟨hb, fun o x h => by simp at h⟩).1⟩,
    q3 _ _ w' (hr.put hleft.toStep hleft.toHRel o.dst x _ d hd (Nat.le_of_ble_eq_true hlt) (backRes hleft q2 hres).toAV)⟩

/-- The end of a round: what holds there may be told anew. -/
def ATail (n : Nat) (G : Ctx) (E : Env) (H : List AObj) (Q : Exit → Env → List AObj → Prop) : Prop :=
  ∀ r a w, Rel n G E H r a w → ∃ E' H' r', Q .normal E' H' ∧ Rel n G E' H' r' a w

theorem ATail_end {Q : Exit → Env → List AObj → Prop} (h : Q .normal E H) : ATail n G E H Q := fun r _ _ hr => ⟨E, H, r, h, hr⟩

theorem ATail_weak {Q : Exit → Env → List AObj → Prop} {E0 : Env} {H0 : List AObj} (hw : Weak n G E H E0 H0) (h : ATail n G E0 H0 Q) : ATail n G E H Q := fun r a w hr => by
  obtain ⟨r', hr'⟩ := hw r a w hr
  exact h r' a w hr'

theorem ACode_tailJ {Q : Exit → Env → List AObj → Prop} {c : Code} (J : Env → List AObj → Prop) (h1 : ACode P n G c E H (seqQ J Q)) (h2 : ∀ E' H', J E' H' → ATail n G E' H' Q) : ACode P n G c E H Q := by
  intro r a w hr
  refine wp_mono (h1 r a w hr) ?_
  rintro x a' w' ⟨E', H', r', q, hr'⟩
  cases x <;> first | exact h2 E' H' q r' a' w' hr' | exact ⟨E', H', r', q, hr'⟩
end

end Go.Proofs.Ytghhnpdhehjlaaa.Ab

namespace Go.Proofs.Ytghhnpdhehjlaaa
open Go Go.RowKit Ab

/-- A number and a list of numbers. -/
structure Pos where
  n : Int
  l : List Int

end Go.Proofs.Ytghhnpdhehjlaaa

