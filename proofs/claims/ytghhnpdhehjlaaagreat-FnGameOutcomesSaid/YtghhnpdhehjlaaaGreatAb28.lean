/- Own library, part 28: an owned slice whose header lies as a plain value in a struct: the header is named in the context, read again as the owned slice, and becomes data at the end. No conditions. -/
import Derived.Test.YtghhnpdhehjlaaaGreatAb24
import Derived.Test.YtghhnpdhehjlaaaGreatAb27
set_option linter.unusedVariables false
set_option linter.unusedSimpArgs false
namespace Go.Proofs.YtghhnpdhehjlaaaGreat.Ab
open Go Go.RowKit

section
variable {P : Program} {n : Nat} {G : Ctx} {ops : Array Oper} {o' : Oper} {rest l : List Oper} {E : Env} {H : List AObj} {K : Env → List AObj → Prop} {w : World} {r : List Nat} {a : Act} {F : Nat → Prop}

/-- A slice's header as a plain value. -/
@[reducible] def hdr (b m cap : Nat) : D := .s (.slice (some ⟨b, 0, none⟩) m cap)

structure Named (G : Ctx) (o g b cap m : Nat) : Prop where
  obj : ∃ cs, G.H[o]? = some (.vec g cs) ∧ cs.length = m
  blk : G.r[o]? = some b
  cells : ∃ vs ty, G.w.heap[b]? = some (.cells vs ty (0, 0)) ∧ vs.size = cap

theorem Named.val {o g b cap m : Nat} (hn : Named G o g b cap m) (hr : Rel n G E H r a w) : RepV G.F w H r (.vec o g) (.slice (some ⟨b, 0, none⟩) m cap) := by
  obtain ⟨⟨cs, h1, h2⟩, h3, vs, ty, h4, h5⟩ := hn
  have hlt := (List.getElem?_eq_some_iff.1 h1).1
  refine .vec o g _ (Nat.lt_of_lt_of_le hlt hr.step.len) fun g' cs' b' k1 k2 => ?_
  obtain ⟨g1, cs1, b1, a1, a2, a3⟩ := hr.step.vec o g' cs' b' hlt k1 k2
  rw [h1] at a1
  cases a1
  rw [h3] at a2
  cases a2
  rcases a3 with a3 | ⟨rfl, rfl, hl, hc⟩
  · exact ⟨by omega, fun e => by omega⟩
  · obtain ⟨vs', ty', e4, e5⟩ := hc vs ty h4
    exact ⟨Nat.le_refl _, fun _ => ⟨cap, vs', ty', by rw [← h2, hl], e4, by rw [e5, h5]⟩⟩

theorem Rel.name {t o g : Nat} {cs : List D} (hr : Rel n G E H r a w) (he : E.get t = some (.vec o g)) (hH : H[o]? = some (.vec g cs)) :
    ∃ b cap, Named ⟨G.F, w, H, r⟩ o g b cap cs.length ∧ Rel n ⟨G.F, w, H, r⟩ ((t, .d (hdr b cs.length cap)) :: E) H r a w := by
  obtain ⟨b, hb⟩ := hr.heap.blk hH
  obtain ⟨x, hx, hv⟩ := hr.env t _ he
  cases hv with
  | vec _ _ _ ho hp =>
    obtain ⟨cap, vs, ty, e1, e2, e3⟩ := (hp g cs b hH hb).2 rfl
    refine ⟨b, cap, ⟨⟨cs, hH, rfl⟩, hb, vs, ty, e2, e3.symm⟩, hr.size, hr.defers, fun k u hu => ?_, hr.heap, Step.refl _ _ _⟩
    by_cases e : t = k
    · subst e
      rw [Env.get_cons_self] at hu
      cases hu
      exact ⟨x, hx, by rw [e1]; exact .d _ _ (.s _)⟩
    · rw [Env.get_cons_ne _ E e] at hu
      exact hr.env k u hu

theorem Rel.laterG (hr : Rel n G E H r a w) {E' : Env} {H' : List AObj} {r' : List Nat} {a' : Act} {w' : World} (h' : Rel n ⟨G.F, w, H, r⟩ E' H' r' a' w') : Rel n G E' H' r' a' w' :=
  ⟨h'.size, h'.defers, h'.env, h'.heap, hr.step.trans h'.step⟩

theorem get_set {o o2 : Nat} {x y : AObj} (h : (H.set o y)[o2]? = some x) : (o2 = o ∧ x = y) ∨ (o2 ≠ o ∧ H[o2]? = some x) := by
  rw [List.getElem?_set] at h
  split at h
  · rename_i e
    split at h
    · cases h; exact .inl ⟨e.symm, rfl⟩
    · cases h
  · rename_i hne
    exact .inr ⟨fun e => hne e.symm, h⟩

theorem step_rebox {k : Nat} {cs0 cs1 : List D} (hk : H[k]? = some (.box cs0)) : Step w H r w (H.set k (.box cs1)) r := by
  refine ⟨rfl, rfl, rfl, Nat.le_refl _, fun b hb => ⟨rfl, hb.1, fun o2 x h1 h2 => ?_⟩, by simp, fun o2 x' b' _ h1 h2 h3 => ?_, fun o2 g' cs' b' _ h1 h2 => ?_⟩
  · rcases get_set h1 with ⟨rfl, rfl⟩ | ⟨_, h⟩
    · exact hb.2 o2 _ hk rfl
    · exact hb.2 o2 x h h2
  · rcases get_set h1 with ⟨rfl, rfl⟩ | ⟨_, h⟩
    · exact ⟨_, hk, h2, rfl⟩
    · exact ⟨x', h, h2, h3⟩
  · rcases get_set h1 with ⟨rfl, h⟩ | ⟨_, h⟩
    · cases h
    · exact ⟨g', cs', b', h, h2, .inr ⟨rfl, rfl, rfl, fun vs ty h => ⟨vs, ty, h, rfl⟩⟩⟩

theorem hrel_rebox {k : Nat} {cs0 cs1 : List D} (hh : HRel F w H r) (hk : H[k]? = some (.box cs0))
    (h1 : ∀ b vs ty, r[k]? = some b → w.heap[b]? = some (.cells vs ty (0, 0)) → RepL w (imm F w H r) cs0 vs.toList → RepL w (imm F w H r) cs1 vs.toList) : HRel F w (H.set k (.box cs1)) r := by
  have hst : Step w H r w (H.set k (.box cs1)) r := step_rebox hk
  refine ⟨by simp [hh.len], fun o1 o2 x x' b k1 l1 k2 l2 e1 e2 => ?_, fun o1 x b k1 k2 => ?_, fun o1 x b k1 k2 k3 => ?_, hh.fin⟩
  · rcases get_set k1 with ⟨q1, q1'⟩ | ⟨n1, q1⟩ <;> rcases get_set k2 with ⟨q2, q2'⟩ | ⟨n2, q2⟩
    · rw [q1, q2]
    · subst q1
      exact hh.inj _ _ _ _ b hk rfl q2 l2 e1 e2
    · subst q2
      exact hh.inj _ _ _ _ b q1 l1 hk rfl e1 e2
    · exact hh.inj _ _ _ _ b q1 l1 q2 l2 e1 e2
  · rcases get_set k1 with ⟨rfl, rfl⟩ | ⟨n1, k1⟩
    · have hO := hh.obj _ _ b hk k2
      cases hO with
      | box _ vs ty hb hl => exact .box _ vs ty hb ((h1 b vs ty k2 hb hl).mono hst.imm)
    · have hO := hh.obj _ _ b k1 k2
      cases hO with
      | gone => exact .gone
      | mp v I c hv hb hI0 => exact .mp v I c hv hb hI0
      | box cs vs ty hb hl => exact .box cs vs ty hb (hl.mono hst.imm)
      | ref v z ty hb hl => exact .ref v z ty hb (hl.step hst)
      | vec g cs vs ty hb hc hm hl => exact .vec g cs vs ty hb hc hm (hl.mono hst.imm)
  · rcases get_set k1 with ⟨rfl, rfl⟩ | ⟨n1, k1⟩
    · exact hh.notF _ _ b hk rfl k3
    · exact hh.notF _ _ b k1 k2 k3

/-- A named slice whose header lies in a box becomes data there. -/
theorem Weak_frzC {o g b cap : Nat} {cs cs0 : List D} (hn : Named G o g b cap cs.length) (k j : Nat) (hk : H[k]? = some (.box cs0)) (hj : cs0[j]? = some (hdr b cs.length cap)) (hH : H[o]? = some (.vec g cs)) :
    Weak n G E H E ((H.set o .gone).set k (.box (cs0.set j (.sl none cs)))) := by
  intro r a w hr
  have hst : Step w H r w (H.set o .gone) r := step_gone o
  have hd := freeze_rep hr.heap hH (hn.val hr)
  have hne : o ≠ k := fun e => by subst e; rw [hH] at hk; cases hk
  have hk2 : (H.set o .gone)[k]? = some (.box cs0) := by rw [List.getElem?_set, if_neg hne]; exact hk
  have hst2 : Step w (H.set o .gone) r w ((H.set o .gone).set k (.box (cs0.set j (.sl none cs)))) r := step_rebox hk2
  refine ⟨r, hr.size, hr.defers, fun t u hu => ?_, hrel_rebox (hrel_gone o hr.heap) hk2 (fun b1 vs ty _ _ hl => ?_), (hr.step.trans hst).trans hst2⟩
  · obtain ⟨x, hx, hv⟩ := hr.env t u hu
    exact ⟨x, hx, (hv.step hst).step hst2⟩
  · cases hd with
    | d _ _ hd =>
      refine ⟨by rw [List.length_set]; exact hl.1, fun i c v hc hv => ?_⟩
      rw [List.getElem?_set] at hc
      by_cases e : j = i
      · subst e
        rw [if_pos rfl] at hc
        split at hc
        · cases hc
          have := hl.2 _ _ _ hj hv
          cases this with
          | s v => exact hd
        · cases hc
      · rw [if_neg e] at hc
        exact hl.2 i c v hc hv

/-! ### Drawn rows in which a slice is named -/
def AAnyP (P : Program) (n : Nat) (G : Ctx) (ops : Array Oper) (f : Nat) (listed : Array Bool) (E : Env) (H : List AObj) (Φ : Act → World → Prop) : Prop :=
  ∀ (r : List Nat) (a : Act) (w : World), Rel n G E H r a w → anyB P ops (fun x a w => x = .normal ∧ Φ a w) f listed a w

section
variable {f : Nat} {listed : Array Bool} {Φ : Act → World → Prop} {o : Oper}
theorem AAnyP_q (i d : Nat) (v : AV) (hi : ops[i]? = some o) (hc : (Region.noSelect ops && (Region.free .any ops listed i && (Region.ready .any ops listed).contains i)) = true) (hw : wantedE ops E o = some true) (hd : o.dst = some d) (hlt : Nat.ble (d + 1) n = true) (hq : QOp P n G o E H v)
    (h : AAnyP P n G ops f (listed.setIfInBounds i true) ((d, v) :: E) H Φ) : AAnyP P n G ops (f + 1) listed E H Φ := by
  intro r a w hr
  obtain ⟨x, hx, hrun⟩ := hq r a w hr
  simp only [Bool.and_eq_true] at hc
  refine anyB_first (v := x) hi (Region.noSelect_spec hc.1) (fun _ _ _ h => by cases h.1) f listed a w (Region.free_spec hi hc.2.1) (by simpa using hc.2.2) (.inl ⟨wantedE_sound hr hw, fun w' hw' => ?_⟩) ?_
  · unfold Oper.quietAt
    rw [hrun w' hw']
    exact ⟨rfl, rfl⟩
  · exact h r _ w (hr.put (Step.refl _ _ _) hr.heap o.dst x v d hd (Nat.le_of_ble_eq_true hlt) hx)

def AStepP (P : Program) (n : Nat) (G : Ctx) (ops : Array Oper) (f : Nat) (listed : Array Bool) (E : Env) (H : List AObj) (Φ : Act → World → Prop) (i : Nat) : Prop :=
  ∀ (r : List Nat) (a : Act) (w : World), Rel n G E H r a w → wpOp P ops (fun x a w => x = .normal ∧ Φ a w) i (fun a' w' => Below w.heap.size w w' ∧ anyB P ops (fun x a w => x = .normal ∧ Φ a w) f (listed.setIfInBounds i true) a' w') a w

theorem AAnyP_all (rs : List Nat) (hr : Region.ready .any ops listed = rs) (hne : rs.isEmpty = false) (h : ∀ i ∈ rs, AStepP P n G ops f listed E H Φ i) : AAnyP P n G ops (f + 1) listed E H Φ := by
  intro r a w hrel w1 hw1
  refine ⟨fun h0 => ?_, fun i hi => ?_⟩
  · rw [h0] at hr; subst hr; simp at hne
  · rw [hr] at hi
    exact h i hi r a w1 (hrel.below hw1)

theorem AStepP_of (i : Nat) (hi : ops[i]? = some o) (hw : wantedE ops E o = some true) (hb : ∀ (r : List Nat) (a : Act) (w : World), Rel n G E H r a w → ∃ x w', (execOp a.eval o).run P w = .ok (.value x) w' ∧ Below w.heap.size w w')
    (h : AOps P n G ops [o] E H (fun E' H' => AAnyP P n G ops f (listed.setIfInBounds i true) E' H' Φ)) : AStepP P n G ops f listed E H Φ i := by
  intro r a w hr
  obtain ⟨x, w', e, hbw⟩ := hb r a w hr
  have h1 := h r a w hr
  unfold wpList at h1
  rw [wantedE_sound hr hw, if_pos rfl] at h1
  unfold wpOp
  simp only [hi]
  rw [wantedE_sound hr hw, if_pos rfl]
  left
  unfold Oper.wp at h1 ⊢
  rw [e, Oper.upon_value] at h1 ⊢
  rcases h1 with h1 | ⟨_, a', w2, h2, _⟩
  · obtain ⟨_, E', H', r', k, hr'⟩ := h1
    exact ⟨hbw, k r' _ w' hr'⟩
  · cases h2

theorem AStepP_call (i d : Nat) (c : Call) (fop : Operand) (fv : AV) (g : FuncId) (cap avs us cs : List AV) (Q : List AV → List AObj → Prop) (hi : ops[i]? = some o)
    (hw : wantedE ops E o = some true) (hd : o.dst = some d) (hlt : Nat.ble (d + 1) n = true) (hop : o.op = .call c) (hc : c.callee = .value fop) (hf : evalO E fop = some fv) (hcl : calleeOf fv = some (g, cap))
    (hcall : ∀ args w, (callFunc g args).run P w = .ok (.enter g args) w) (ha : evalL E c.args.toList = some avs) (hv : viewA .lent H [] avs = some us) (hvc : viewA .lent H [] cap = some cs)
    (hac : AC P g (us.map dropA ++ cs) [] Q) (hk : ∀ res H', Q res H' → (∀ x ∈ H', okO D.flat x) ∧ (∀ v ∈ res, okV D.flat v) ∧ AAnyP P n G ops f (listed.setIfInBounds i true) ((d, resAV (res.map (back H []))) :: E) (backHeap H [] H') Φ) :
    AStepP P n G ops f listed E H Φ i := by
  intro r a w hr
  unfold wpOp
  simp only [hi]
  rw [wantedE_sound hr hw, if_pos rfl]
  left
  unfold Oper.wp
  obtain ⟨vs, hx, hvs⟩ := calleeOf_sound hcl (evalO_sound hr hf)
  rw [run_call hop hc hx hcall, Oper.upon_enter]
  have hargs : RepVs G.F w H r avs (c.args.map a.eval) := by rw [map_eq]; exact evalL_sound hr ha
  have hn : ([] : List Nat).Nodup := by simp
  have hs : selHeap .lent H [] [] = some [] := rfl
  have hseen := seen_lent rfl hr.heap hn hs
  refine (hac G.F w (selBlocks r []) _ (hrel_lent rfl hr.heap hn hs) ((hseen.viewA hargs hv).drop.append (hseen.viewA hvs hvc))).mono ?_
  rintro e w' ⟨res, H', r', x, rfl, q, hh', hres, hst⟩
  obtain ⟨q1, q2, q3⟩ := hk res H' q
  have hleft := left_lent hr.heap hn hs hst hh' q1
  exact ⟨⟨hst.os, hst.tape, hst.output, hst.size, fun b hb => (hst.free b ⟨hb, fun o x h => by simp at h⟩).1⟩,
    q3 _ _ w' (hr.put hleft.toStep hleft.toHRel o.dst x _ d hd (Nat.le_of_ble_eq_true hlt) (backRes hleft q2 hres).toAV)⟩

theorem AAnyP_as (d : Nat) {v v' : AV} {H' : List AObj} (hv : v = v') (hH : H = H') (h : AAnyP P n G ops f listed ((d, v') :: E) H' Φ) : AAnyP P n G ops f listed ((d, v) :: E) H Φ := by
  subst hv hH; exact h

theorem AAnyP_weak {E0 : Env} {H0 : List AObj} (hw : Weak n G E H E0 H0) (h : AAnyP P n G ops f listed E0 H0 Φ) : AAnyP P n G ops f listed E H Φ := fun r a w hr =>
  let ⟨r0, hr0⟩ := hw r a w hr; h r0 a w hr0

/-- What is told of a context holds of the one before. -/
def Back (n : Nat) (G' G : Ctx) : Prop := ∀ E2 H2 r2 a2 w2, Rel n G' E2 H2 r2 a2 w2 → Rel n G E2 H2 r2 a2 w2

theorem AAnyP_name (t o g : Nat) (cs : List D) (he : E.get t = some (.vec o g)) (hH : H[o]? = some (.vec g cs))
    (h : ∀ G' b cap, G'.H = H → Back n G' G → Named G' o g b cap cs.length → AAnyP P n G' ops f listed ((t, .d (hdr b cs.length cap)) :: E) H Φ) : AAnyP P n G ops f listed E H Φ := fun r a w hr => by
  obtain ⟨b, cap, h1, h2⟩ := hr.name he hH
  exact h _ b cap rfl (fun _ _ _ _ _ hr' => hr.laterG hr') h1 r a w h2

theorem AAnyP_done (hr : Region.ready .any ops listed = []) (h : ∀ (r : List Nat) (a : Act) (w : World), Rel n G E H r a w → Φ a w) : AAnyP P n G ops f listed E H Φ := by
  intro r a w hrel
  cases f with
  | zero => exact ⟨hr, fun w1 h1 => ⟨rfl, h r a w1 (hrel.below h1)⟩⟩
  | succ f => exact fun w1 h1 => ⟨fun _ => ⟨rfl, h r a w1 (hrel.below h1)⟩, by rw [hr]; simp⟩
end

def PhiN (P : Program) (n : Nat) (G : Ctx) (ops : Array Oper) (o : Oper) (d : Code) (Q : Exit → Env → List AObj → Prop) : Act → World → Prop := fun a' w' =>
  ∃ G' E' H' r', Back n G' G ∧ Rel n G' E' H' r' a' w' ∧ AOps P n G' ops [o] E' H' (fun E'' H'' => ACode P n G' d E'' H'' Q)

theorem ACode_anyLastN {id : Nat} {l : List Oper} {o : Oper} {d : Code} {Q : Exit → Env → List AObj → Prop} (hm : P.follows .mixedOrders = true) (hB : lastB l o = true)
    (h : AAnyP P n G l.toArray l.length (Array.replicate l.length false) E H (PhiN P n G (l ++ [o]).toArray o d Q)) : ACode P n G (.seq (.region id (l ++ [o]).toArray true) d) E H Q := by
  intro r a w hr
  have hb : Below w.heap.size w { w with drawn := w.drawn + 1 } := ⟨rfl, rfl, rfl, Nat.le_refl _, fun _ _ => rfl⟩
  have h1 := wpAny_of_anyB _ _ _ _ (h r a _ (hr.below hb))
  obtain ⟨Post2, hP2⟩ : ∃ Post2 : Exit → Act → World → Prop, Post2 = fun x a' w' => x = .normal ∧ d.wp P (fun x a w => ∃ E' H' r', Q x E' H' ∧ Rel n G E' H' r' a w) a' w' := ⟨_, rfl⟩
  refine wp_seq (wp_mono (Q := Post2) (wp_region_any hm ?_) ?_)
  · have hK : ∀ x a' w', (x = Exit.normal ∧ PhiN P n G (l ++ [o]).toArray o d Q a' w') → Exit.then (wpOp P (l ++ [o]).toArray Post2 l.length (fun a' w' => Post2 .normal a' w')) Post2 x a' w' := by
      rintro x a' w' ⟨rfl, G', E', H', r', hback, hr2, k⟩
      have h2 := k r' a' w' hr2
      have e : (l ++ [o]).toArray[l.length]? = some o := by simp
      have hmap : ∀ x a w, (x = Exit.normal ∧ ∃ E'' H'' r'', ACode P n G' d E'' H'' Q ∧ Rel n G' E'' H'' r'' a w) → Post2 x a w := by
        rintro x a w ⟨rfl, E'', H'', r'', k2, hr3⟩
        rw [hP2]
        exact ⟨rfl, wp_mono (k2 r'' a w hr3) fun x a w ⟨E3, H3, r3, q, hr4⟩ => ⟨E3, H3, r3, q, hback _ _ _ _ _ hr4⟩⟩
      have goal1 : wpOp P (l ++ [o]).toArray (fun x a w => x = Exit.normal ∧ ∃ E'' H'' r'', ACode P n G' d E'' H'' Q ∧ Rel n G' E'' H'' r'' a w) l.length (fun a' w' => Exit.normal = Exit.normal ∧ ∃ E'' H'' r'', ACode P n G' d E'' H'' Q ∧ Rel n G' E'' H'' r'' a' w') a' w' := by
        unfold wpOp
        rw [e]
        exact h2
      exact wpOp_imp hmap (wpOp_mono (fun a w h => hmap .normal a w h) goal1)
    have h3 := any_push (P := P) (Q := Post2) hB l.length (Array.replicate l.length false) a { w with drawn := w.drawn + 1 } (by simp) (fun i x _ ht => by
      simp [Array.getD_eq_getD_getElem?, Array.getElem?_replicate] at ht
      split at ht <;> simp_all) (wpAny_imp hK _ _ _ _ h1)
    have e : (Array.replicate l.length false).push false = Array.replicate (l ++ [o]).toArray.size false := by simp [← Array.replicate_succ]
    rw [e] at h3
    simpa using h3
  · rw [hP2]
    rintro x a' w' ⟨rfl, h⟩
    exact h

/-- What follows a row, once for all orders of the row. -/
theorem ACode_cutN (R : Ctx → Nat → Nat → Prop) (E0 : Nat → Nat → Env) (H0 : Nat → Nat → List AObj) {c d : Code} {Q : Exit → Env → List AObj → Prop} (h1 : ∀ G' b cap, R G' b cap → ACode P n G' d (E0 b cap) (H0 b cap) Q)
    (h2 : (∀ G' b cap, R G' b cap → ACode P n G' d (E0 b cap) (H0 b cap) Q) → ACode P n G (.seq c d) E H Q) : ACode P n G (.seq c d) E H Q := h2 h1

theorem AQ_weak {KQ : Env → Prop} {E0 : Env} (hw : ∀ (r : List Nat) (a : Act) (w : World), Rel n G E H r a w → Rel n G E0 H r a w) (h : AQ P n G ops rest E0 H KQ) : AQ P n G ops rest E H KQ := fun r a w hr => h r a w (hw r a w hr)

theorem Rel_unname {o g b cap m : Nat} (hn : Named G o g b cap m) (t : Nat) (he : E.get t = some (.d (hdr b m cap))) (r : List Nat) (a : Act) (w : World) (hr : Rel n G E H r a w) : Rel n G ((t, .vec o g) :: E) H r a w := by
  refine ⟨hr.size, hr.defers, fun k u hu => ?_, hr.heap, hr.step⟩
  by_cases e : t = k
  · subst e
    rw [Env.get_cons_self] at hu
    cases hu
    obtain ⟨x, hx, hv⟩ := hr.env t _ he
    cases hv with
    | d _ _ hd =>
      cases hd with
      | s v => exact ⟨_, hx, hn.val hr⟩
  · rw [Env.get_cons_ne _ E e] at hu
    exact hr.env k u hu

/-- The value of a map is one cell. -/
theorem AOps_mpOne {l : List Oper} {ops : Array Oper} (k : Nat) (v : Value) (I : Obj → Prop) (hk : H[k]? = some (.mp v I)) (h : v.oneCell' = true → AOps P n G ops l E H K) : AOps P n G ops l E H K := by
  intro r a w hr
  have hkl := (List.getElem?_eq_some_iff.1 hk).1
  have hrl : k < r.length := by rw [hr.heap.len]; exact hkl
  have ho := hr.heap.obj k _ r[k] hk (List.getElem?_eq_getElem hrl)
  have hv : v = .map (some r[k]) := by
    cases ho with | mp _ _ _ hv _ _ => exact hv
  exact h (by rw [hv]; rfl) r a w hr

theorem posD_whole (x y : Pos) : (posD x).take 0 ++ posD y ++ (posD x).drop (0 + (posD y).length) = posD y := rfl

end
end Go.Proofs.YtghhnpdhehjlaaaGreat.Ab
