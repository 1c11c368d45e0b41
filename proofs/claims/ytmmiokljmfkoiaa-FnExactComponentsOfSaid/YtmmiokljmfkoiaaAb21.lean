/- Own library, part 21: contracts whose results lead to rows that are the caller's from then on. No conditions. -/
import Derived.Test.YtmmiokljmfkoiaaTab
import Derived.Test.YtmmiokljmfkoiaaRowS
set_option linter.unusedVariables false
set_option linter.unusedSimpArgs false
namespace Go.Proofs.Ytmmiokljmfkoiaa
open Go Go.RowKit Ab
namespace Ab

section
variable {P : Program} {n : Nat} {G : Ctx} {E : Env} {H : List AObj} {w : World} {r : List Nat} {a : Act}

theorem ret_key (dr : Bool) {fn : Func} {rvs : List ResultVar} {m : Nat} {Q : List AV → List AObj → Prop} (hres : fn.results = rvs.toArray) (hm : G.H.length = m) :
    ∀ (a' : Act) (w' : World) (E' : Env) (H' : List AObj) (r' : List Nat), RetOK P n G m dr rvs Q E' H' → Rel n G E' H' r' a' w' →
      a'.defers = [] ∧ ∃ v, (results fn a'.tmps).run P w' = .ok v w' ∧ ∃ res H'' r'', Q res H'' ∧ HRel G.F w' H'' r'' ∧ RepRes G.F w' H'' r'' res v ∧ Step G.w G.H G.r w' H'' r'' := by
  subst hm
  rintro a' w' E' H' r' ⟨vals, res, more, H'', h1, h2b, h3, h4, h5⟩ hr'
  have h2 := nodupB_sound _ h2b
  obtain ⟨x, hx, hrx⟩ := run_results hres h1 hr'
  have hseen := seen_lent rfl hr'.heap h2 h3
  refine ⟨hr'.defers, x, hx, _, H'', _, h5, hrel_lent rfl hr'.heap h2 h3, ?_, step_select hr'.step hr'.heap h3⟩
  suffices hh : RepRes G.F w' H'' (selBlocks r' (List.range G.H.length ++ more)) res x by
    cases dr with
    | false => exact hh
    | true => exact hh.drop
  obtain ⟨hl, hg⟩ := viewA_get h4
  match vals, res, hl, hg, hrx with
  | [v], [u], _, hg, hrx =>
    obtain ⟨v', e1, e2⟩ := hg 0 u rfl
    simp at e1; subst e1
    exact hseen.view hrx e2
  | [], [], _, hg, ⟨ys, e, k1, k2⟩ => exact ⟨ys, e, k1, by simp⟩
  | v1 :: v2 :: vs, u1 :: u2 :: us, hl, hg, ⟨ys, e, k1, k2⟩ =>
    refine ⟨ys, e, by rw [k1]; exact hl.symm, fun i c z hc hz => ?_⟩
    obtain ⟨v', e1, e2⟩ := hg i c hc
    exact hseen.view (k2 i v' z e1 hz) e2


/-- A call that hands back rows of its own making. -/
def ACM (P : Program) (f : FuncId) (args : List AV) (Q : List AV → List AObj → Rws → Prop) : Prop :=
  ∀ (F : Nat → Prop) (w : World) (xs : Array Value), (∀ b, F b → b < w.heap.size) → RepVs F w [] [] args xs →
    Calls P f xs w fun e w' => ∃ res H' r' x M', e = .returned x ∧ Q res H' M' ∧ HRel (MF F M') w' H' r' ∧ RepRes (MF F M') w' H' r' res x ∧ Step w [] [] w' H' r' ∧
      (M'.map (·.1)).Nodup ∧ (∀ p ∈ M', w.heap.size ≤ p.1) ∧ ∀ p ∈ M', ∃ ty, w'.heap[p.1]? = some (.cells p.2 ty (0, 0))

theorem ACM_of_body (dr : Bool) {f : FuncId} {fn : Func} {c : Code} {args : List AV} {rvs : List ResultVar} {Q : List AV → List AObj → Rws → Prop} (hf : P.funcs[f]? = some fn) (hb : fn.body = some c) (hnt : fn.ntmps = n) (hres : fn.results = rvs.toArray)
    (hn : Nat.ble args.length n = true) (h : ∀ G : Ctx, G.H = [] → (∀ b, G.F b → b < G.w.heap.size) → MC P n G c (argEnv 0 args) [] [] (fun x E' H' M' => retQ P n (GM G M') 0 dr rvs (fun res H'' => Q res H'' M') x E' H')) : ACM P f args Q := by
  intro F w xs hF hxs
  refine calls_of_wp hf hb ?_
  have hn' := Nat.le_of_ble_eq_true hn
  have hh : HRel F w [] [] := ⟨rfl, fun o o' x x' b h => by simp at h, fun o x b h => by simp at h, fun o x b h => by simp at h, hF⟩
  have hr : Rel n ⟨F, w, [], []⟩ (argEnv 0 args) [] [] { tmps := xs ++ Array.replicate (fn.ntmps - xs.size) undef, defers := [] } w := by
    refine ⟨by simp [hnt, hxs.1]; omega, rfl, fun t v hv => ?_, hh, Step.refl _ _ _⟩
    obtain ⟨_, h2⟩ := argEnv_get args 0 t v hv
    simp at h2
    obtain ⟨ht, _⟩ := List.getElem?_eq_some_iff.1 h2
    have ht' : t < xs.size := by rw [hxs.1]; exact ht
    exact ⟨xs[t], by simp [Array.getElem?_append, ht'], hxs.2 t v _ h2 (Array.getElem?_eq_getElem ht')⟩
  refine wp_mono (h ⟨F, w, [], []⟩ rfl hF [] _ w hr.toM) ?_
  have fin : ∀ (a' : Act) (w' : World) (E' : Env) (H' : List AObj) (M' : Rws) (r' : List Nat), (∃ E2 H2, (∀ (r : List Nat) (a : Act) (w1 : World), Rel n (GM ⟨F, w, [], []⟩ M') E' H' r a w1 → ∃ r0, Rel n (GM ⟨F, w, [], []⟩ M') E2 H2 r0 a w1) ∧ RetOK P n (GM ⟨F, w, [], []⟩ M') 0 dr rvs (fun res H'' => Q res H'' M') E2 H2) → MRel n ⟨F, w, [], []⟩ M' E' H' r' a' w' →
      a'.defers = [] ∧ ∃ v, (results fn a'.tmps).run P w' = .ok v w' ∧ ∃ res H'' r'' x M'', Ending.returned v = .returned x ∧ Q res H'' M'' ∧ HRel (MF F M'') w' H'' r'' ∧ RepRes (MF F M'') w' H'' r'' res x ∧ Step w [] [] w' H'' r'' ∧
        (M''.map (·.1)).Nodup ∧ (∀ p ∈ M'', w.heap.size ≤ p.1) ∧ ∀ p ∈ M'', ∃ ty, w'.heap[p.1]? = some (.cells p.2 ty (0, 0)) := by
    rintro a' w' E' H' M' r' ⟨E2, H2, hw, hok⟩ hr'
    obtain ⟨r2, hr2⟩ := hw r' a' w' hr'.rel
    obtain ⟨d1, v, d2, res, H'', r'', d3, d4, d5, d6⟩ := ret_key dr (m := 0) hres rfl a' w' E2 H2 r2 hok hr2
    exact ⟨d1, v, d2, res, H'', r'', v, M', rfl, d3, d4, d5, d6, hr'.nd, hr'.new, hr'.here⟩
  rintro x a' w' ⟨E', H', M', r', q, hr'⟩
  cases x with
  | normal => exact fin a' w' E' H' M' r' q hr'
  | ret => exact fin a' w' E' H' M' r' q hr'
  | exit id => exact q.elim
  | goto l => exact q.elim
  | panic ch => exact q.elim
  | outgrown => exact q.elim

theorem MC_retn {M : Rws} {Q : Exit → Env → List AObj → Rws → Prop} (h : Q .ret E H M) : MC P n G .ret E H M Q := fun r a w hr => wp_ret ⟨E, H, M, r, h, hr⟩

/-- An owned slice is named anew: other names of it are old. -/
theorem Weak_age (t o : Nat) (cs : List D) (he : E.get t = some (.vec o 0)) (hH : H[o]? = some (.vec 0 cs)) : Weak n G E H ((t, .vec o 1) :: E) (H.set o (.vec 1 cs)) := by
  intro r a w hr
  have ho := (List.getElem?_eq_some_iff.1 hH).1
  have get : ∀ {o' : Nat} {x : AObj}, (H.set o (.vec 1 cs))[o']? = some x → (o = o' ∧ x = .vec 1 cs) ∨ (o ≠ o' ∧ H[o']? = some x) := fun h => by
    rw [List.getElem?_set] at h
    split at h
    · rename_i e; exact .inl ⟨e, by simpa using h.symm⟩
    · rename_i hne; exact .inr ⟨hne, h⟩
  have hst : Step w H r w (H.set o (.vec 1 cs)) r := by
    refine ⟨rfl, rfl, rfl, Nat.le_refl _, fun b hb => ⟨rfl, hb.1, fun o' x h1 h2 => ?_⟩, by simp, fun o' x' b' _ h1 h2 h3 => ?_, fun o' g' cs' b' _ h1 h2 => ?_⟩
    · rcases get h1 with ⟨rfl, rfl⟩ | ⟨_, h⟩
      · exact hb.2 o _ hH rfl
      · exact hb.2 o' x h h2
    · rcases get h1 with ⟨rfl, rfl⟩ | ⟨_, h⟩
      · simp [AObj.fixed] at h3
      · exact ⟨x', h, h2, h3⟩
    · rcases get h1 with ⟨rfl, e⟩ | ⟨_, h⟩
      · cases e
        exact ⟨0, cs, b', hH, h2, .inl (by omega)⟩
      · exact ⟨g', cs', b', h, h2, .inr ⟨rfl, rfl, rfl, fun vs ty hv => ⟨vs, ty, hv, rfl⟩⟩⟩
  have himm : ∀ b, imm G.F w H r b → w.heap[b]? = w.heap[b]? ∧ imm G.F w (H.set o (.vec 1 cs)) r b := fun b hb => ⟨rfl, hst.imm b hb |>.2⟩
  refine ⟨r, hr.size, hr.defers, fun k u hu => ?_, ⟨by simp [hr.heap.len], fun o1 o2 x x' b h1 l1 h2 l2 e1 e2 => ?_, fun o1 x b h1 h2 => ?_, fun o1 x b h1 h2 h3 => ?_, hr.heap.fin⟩, hr.step.trans hst⟩
  · by_cases e : t = k
    · subst e
      rw [Env.get_cons_self] at hu
      cases hu
      obtain ⟨x, hx, hv⟩ := hr.env t _ he
      refine ⟨x, hx, ?_⟩
      cases hv with
      | vec _ _ _ ho' hp =>
        refine .vec _ _ _ (by simpa using ho) fun g' cs' b h1 h2 => ?_
        rcases get h1 with ⟨_, e⟩ | ⟨hne, _⟩
        · cases e
          exact ⟨Nat.le_refl _, fun _ => (hp 0 cs b hH h2).2 rfl⟩
        · exact absurd rfl hne
    · rw [Env.get_cons_ne _ E e] at hu
      obtain ⟨y, hy, hv'⟩ := hr.env k u hu
      exact ⟨y, hy, hv'.step hst⟩
  · rcases get h1 with ⟨rfl, rfl⟩ | ⟨_, k1⟩ <;> rcases get h2 with ⟨rfl, rfl⟩ | ⟨_, k2⟩
    · rfl
    · exact hr.heap.inj o o2 _ x' b hH rfl k2 l2 e1 e2
    · exact hr.heap.inj o1 o x _ b k1 l1 hH rfl e1 e2
    · exact hr.heap.inj o1 o2 x x' b k1 l1 k2 l2 e1 e2
  · rcases get h1 with ⟨rfl, rfl⟩ | ⟨_, k1⟩
    · have hO := hr.heap.obj o _ b hH h2
      cases hO with
      | vec _ _ vs ty hb hc hm hl => exact .vec 1 cs vs ty hb hc hm (hl.mono himm)
    · have hO := hr.heap.obj o1 x b k1 h2
      cases hO with
      | gone => exact .gone
      | box cs vs ty hb hl => exact .box cs vs ty hb (hl.mono himm)
      | ref v z ty hb hl => exact .ref v z ty hb (hl.step hst)
      | vec g cs vs ty hb hc hm hl => exact .vec g cs vs ty hb hc hm (hl.mono himm)
  · rcases get h1 with ⟨rfl, rfl⟩ | ⟨_, k1⟩
    · exact hr.heap.notF o _ b hH rfl h3
    · exact hr.heap.notF o1 x b k1 h2 h3

/-- The rest of a function, where rows are only kept. -/
theorem MC_ret {M : Rws} {c : Code} {dr : Bool} {rvs : List ResultVar} {Q : List AV → List AObj → Rws → Prop} (hG : G.H = [])
    (h : ∀ G', G'.H = H → ACode P n G' c E H (fun x E' H' => ∃ E0 H0, x = .ret ∧ Weak n (GM G M) E' H' E0 H0 ∧ RetOK P n (GM G M) 0 dr rvs (fun res H'' => Q res H'' M) E0 H0)) :
    MC P n G c E H M (fun x E' H' M' => retQ P n (GM G M') 0 dr rvs (fun res H'' => Q res H'' M') x E' H') := by
  refine MC_lift fun G' hn => ACode_mono (h G' hn.2.1) ?_
  rintro x E' H' ⟨E0, H0, rfl, hw, hok⟩
  exact ⟨E0, H0, hw, hok⟩
end
end Ab
end Go.Proofs.Ytmmiokljmfkoiaa
