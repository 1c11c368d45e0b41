/- Own library, part 25: short rules for printed walks: rows of copies, calls, tests, sequences, orders that come together again. No conditions. -/
import Derived.Test.YtldgmcghdohmeaaGreatMg24
set_option linter.unusedVariables false
set_option linter.unusedSimpArgs false
namespace Go.Proofs.YtldgmcghdohmeaaGreat.Ab
open Go Go.RowKit

section
variable {P : Program} {n : Nat} {G : Ctx} {E : Env} {H : List AObj} {ops : Array Oper} {f : Nat} {listed : Array Bool} {K : Env → List AObj → Prop} {o : Oper} {l : List Oper}

/-! ### Orders that come together -/
theorem AU_cut (f' : Nat) (listed' : Array Bool) (E' : Env) (H' : List AObj) (hS : AU P n G ops f' listed' E' H' K) (h : AU P n G ops f' listed' E' H' K → AU P n G ops f listed E H K) : AU P n G ops f listed E H K := h hS
theorem AU_to {listed' : Array Bool} {E' : Env} {H' : List AObj} (hl : listed = listed') (hS : AU P n G ops f listed' E' H' K) (hw : Weak n G E H E' H') : AU P n G ops f listed E H K := by
 subst hl
 intro r a w hr
 obtain ⟨r', hr'⟩ := hw r a w hr
 exact hS r' a w hr'
theorem AU_one (i : Nat) (hr : Region.ready .any ops listed = [i]) (hi : ops[i]? = some o) (hw : wantedE ops E o = some true) (h : AOps P n G ops [o] E H (fun E' H' => AU P n G ops f (listed.setIfInBounds i true) E' H' K)) : AU P n G ops (f + 1) listed E H K :=
 AU_all [i] hr rfl fun j hj => by
  rw [List.mem_singleton] at hj
  subst hj
  exact US_of j hi hw h
/-! ### Rows of copies -/
def qv (E : Env) (o : Oper) : Option AV := match o.op with
 | .move x => evalO E x
 | .assign x => evalO E x
 | .pick c x y => match evalO E c with
  | some (.d (.s (.bool b))) => bif b then evalO E x else evalO E y
  | _ => none
 | .extract x i => match evalO E x with
  | some (.tup cs) => cs[i]?
  | _ => none
 | _ => none

theorem qv_sound {v : AV} (h : qv E o = some v) : QOp P n G o E H v := by
 unfold qv at h
 split at h
 ·rename_i x e; exact QOp_move x v e h
 ·rename_i x e; exact QOp_assign x v e h
 ·rename_i c x y e
  split at h
  ·rename_i b hc
   cases b with
   | true => exact QOp_pick_t c x y v e hc h
   | false => exact QOp_pick_f c x y v e hc h
  ·cases h
 ·rename_i x i e
  split at h
  ·rename_i cs hx; exact QOp_extract x i cs v e hx h
  ·cases h
 ·cases h

def runQ (n : Nat) (ops : Array Oper) : Nat → Env → List Oper → Option (Env × List Oper)
 | 0, E, l => some (E, l)
 | _ + 1, _, [] => none
 | k + 1, E, o :: l => match wantedE ops E o with
  | some true => match o.dst with
   | some d => match qv E o with
    | some v => bif Nat.ble (d + 1) n then runQ n ops k ((d, v) :: E) l else none
    | none => none
   | none => none
  | _ => none

theorem kM (k : Nat) {E' : Env} {l' : List Oper} (h : runQ n ops k E l = some (E', l')) (hk : AOps P n G ops l' E' H K) : AOps P n G ops l E H K := by
 induction k generalizing E l with
 | zero => simp only [runQ, Option.some.injEq, Prod.mk.injEq] at h; obtain ⟨rfl, rfl⟩ := h; exact hk
 | succ k ih =>
  cases l with
  | nil => simp [runQ] at h
  | cons o l =>
   simp only [runQ] at h
   split at h
   ·rename_i hw
    split at h
    ·rename_i d hd
     split at h
     ·rename_i v hv
      cases hb : Nat.ble (d + 1) n with
      | false => rw [hb] at h; simp at h
      | true =>
       rw [hb, cond_true] at h
       exact AOps_q d v hw hd hb (qv_sound hv) (ih h)
     ·cases h
    ·cases h
   ·cases h
theorem kN (k : Nat) {E' : Env} (h : runQ n ops k E l = some (E', [])) (hk : K E' H) : AOps P n G ops l E H K := kM k h (AOps_nil hk)

theorem kQ {KQ : Env → Prop} (k : Nat) {E' : Env} {l' : List Oper} (h : runQ n ops k E l = some (E', l')) (hk : AQ P n G ops l' E' H KQ) : AQ P n G ops l E H KQ := by
 induction k generalizing E l with
 | zero => simp only [runQ, Option.some.injEq, Prod.mk.injEq] at h; obtain ⟨rfl, rfl⟩ := h; exact hk
 | succ k ih =>
  cases l with
  | nil => simp [runQ] at h
  | cons o l =>
   simp only [runQ] at h
   split at h
   ·rename_i hw
    split at h
    ·rename_i d hd
     split at h
     ·rename_i v hv
      cases hb : Nat.ble (d + 1) n with
      | false => rw [hb] at h; simp at h
      | true =>
       rw [hb, cond_true] at h
       exact AQ_q d v hw hd hb (qv_sound hv) (ih h)
     ·cases h
    ·cases h
   ·cases h

theorem kR {c : Code} {id : Nat} {Q : Exit → Env → List AObj → Prop} (h : AOps P n G l.toArray l E H (fun E' H' => ACode P n G c E' H' Q)) : ACode P n G (.seq (.region id l.toArray false) c) E H Q := ACode_seq (ACode_region h)

/-! ### Calls -/
def okRes : List AV → Bool
 | [] => true
 | .d _ :: vs => okRes vs
 | .ptr _ _ :: vs => okRes vs
 | .vec _ _ :: vs => okRes vs
 | .part _ _ _ _ :: vs => okRes vs
 | _ :: _ => false
theorem okRes_sound : ∀ {vs : List AV}, okRes vs = true → ∀ v ∈ vs, okV (fun _ => True) v
 | [], _, _, h => by cases h
 | u :: vs, h, v, hv => by
  rcases List.mem_cons.1 hv with rfl | hv
  ·cases v <;> simp [okRes] at h <;> trivial
  ·refine okRes_sound (vs := vs) ?_ v hv
   cases u <;> simp [okRes] at h <;> exact h
def okObjs : List AObj → Bool
 | [] => true
 | .ref v :: xs => okRes [v] && okObjs xs
 | _ :: xs => okObjs xs
theorem okObjs_sound : ∀ {xs : List AObj}, okObjs xs = true → ∀ x ∈ xs, okO (fun _ => True) x
 | [], _, _, h => by cases h
 | u :: xs, h, x, hx => by
  have ht : okObjs xs = true := by
   cases u <;> simp [okObjs] at h <;> first | exact h | exact h.2
  rcases List.mem_cons.1 hx with rfl | hx
  ·cases x with
   | box cs => exact fun _ _ => trivial
   | vec g cs => exact fun _ _ => trivial
   | gone => trivial
   | mp _ _ => trivial
   | ref v =>
    simp only [okObjs, Bool.and_eq_true] at h
    exact okRes_sound h.1 v (List.mem_singleton.2 rfl)
  ·exact okObjs_sound ht x hx

/-- A call whose contract tells results and objects. -/
theorem kC (sel : List Nat) (d : Nat) {c : Call} {fop : Operand} {fv : AV} {g : FuncId} {cap avs us cs : List AV} {Hs : List AObj} {R : List AV} {H2 : List AObj} (v' : AV) (H' : List AObj)
  (h1 : (wantedE ops E o, o.dst, Nat.ble (d + 1) n, o.op, c.callee, evalO E fop, calleeOf fv) = (some true, some d, true, .call c, .value fop, some fv, some (g, cap)))
  (hcall : ∀ args w, (callFunc g args).run P w = .ok (.enter g args) w)
  (h2 : (evalL E c.args.toList, nodupB sel, selHeap .own H sel sel, viewA .own H sel avs) = (some avs, true, some Hs, some us)) (hvc : viewA .own H sel cap = some cs)
  (hac : AC P g (us.map dropA ++ cs) Hs (fun res H' => res = R ∧ H' = H2))
  (h3 : (okRes R && okObjs H2, resAV (R.map (back H sel)), backHeap H sel H2) = (true, v', H'))
  (h : AOps P n G ops l ((d, v') :: E) H' K) : AOps P n G ops (o :: l) E H K := by
 simp only [Prod.mk.injEq] at h1 h2 h3
 obtain ⟨a1, a2, a3, a4, a5, a6, a7⟩ := h1
 obtain ⟨b1, b2, b3, b4⟩ := h2
 obtain ⟨c1, c2, c3⟩ := h3
 rw [Bool.and_eq_true] at c1
 refine AOps_call sel d c fop fv g cap avs us cs Hs _ a1 a2 a3 a4 a5 a6 a7 hcall b1 (nodupB_sound _ b2) b3 b4 hvc hac ?_
 rintro res H'' ⟨rfl, rfl⟩
 rw [c2, c3]
 exact ⟨okObjs_sound c1.2, okRes_sound c1.1, h⟩

/-! ### Tests and sequences -/
theorem kI {α : Type} {c : Operand} {x y : Code} {b : Bool} {u v z : α} {Q : Exit → Env → List AObj → Prop} (hk : (if b = true then u else v) = z) (hc : evalO E c = some (.d (.s (.bool b)))) (ht : u = z → b = true → ACode P n G x E H Q) (hf : v = z → b = false → ACode P n G y E H Q) :
  ACode P n G (.cond c x y) E H Q := by
 refine ACode_cond b hc (fun hb => ht ?_ hb) (fun hb => hf ?_ hb)
 ·rw [if_pos hb] at hk; exact hk
 ·rw [if_neg (by simp [hb])] at hk; exact hk

theorem kB {σ β : Type} {c d : Code} {Q : Exit → Env → List AObj → Prop} {x : Option σ} {g : σ → Option β} {z : β} (E0 : σ → Env) (H0 : σ → List AObj) (h : x.bind g = some z)
  (h1 : ∀ s, x = some s → ACode P n G c E H (seqQ (fun E' H' => Weak n G E' H' (E0 s) (H0 s)) Q)) (h2 : ∀ s, g s = some z → ACode P n G d (E0 s) (H0 s) Q) : ACode P n G (.seq c d) E H Q := by
 obtain ⟨s, hs, hk⟩ := bindO h
 exact ACode_seqJ _ (h1 s hs) fun E' H' hw => ACode_weak hw (h2 s hk)
theorem kL {σ β : Type} {c d : Code} {Q : Exit → Env → List AObj → Prop} {x : σ} {g : σ → β} {z : β} (E0 : σ → Env) (H0 : σ → List AObj) (h : letO x g = z)
  (h1 : ∀ s, x = s → ACode P n G c E H (seqQ (fun E' H' => Weak n G E' H' (E0 s) (H0 s)) Q)) (h2 : ∀ s, g s = z → ACode P n G d (E0 s) (H0 s) Q) : ACode P n G (.seq c d) E H Q :=
 ACode_seqJ _ (h1 x rfl) fun E' H' hw => ACode_weak hw (h2 x h)
theorem kO {σ ρ β : Type} {c d : Code} {Q : Exit → Env → List AObj → Prop} {x : Option (Sum σ ρ)} {g : Sum σ ρ → Option β} {z : β} (E0 : σ → Env) (H0 : σ → List AObj) (h : x.bind g = some z)
  (h1 : ∀ s, x = some s → g s = some z → ACode P n G c E H (seqQ (fun E' H' => ∃ t, s = .inl t ∧ Weak n G E' H' (E0 t) (H0 t)) Q)) (h2 : ∀ t, g (.inl t) = some z → ACode P n G d (E0 t) (H0 t) Q) : ACode P n G (.seq c d) E H Q := by
 obtain ⟨s, hs, hk⟩ := bindO h
 refine ACode_seqJ _ (h1 s hs hk) ?_
 rintro E' H' ⟨t, rfl, hw⟩
 exact ACode_weak hw (h2 t hk)
end
end Go.Proofs.YtldgmcghdohmeaaGreat.Ab
