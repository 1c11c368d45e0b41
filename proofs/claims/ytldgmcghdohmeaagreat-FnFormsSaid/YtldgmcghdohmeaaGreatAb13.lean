/- Own library, part 13: rows whose order Go leaves open and in which several operations make new memory: one walk for each order of these; what only reads is taken first. No conditions. -/
import Derived.Test.YtldgmcghdohmeaaGreatAb12
set_option linter.unusedVariables false
set_option linter.unusedSimpArgs false
namespace Go.Proofs.YtldgmcghdohmeaaGreat.Ab
open Go Go.RowKit

section
variable {P : Program} {ops : Array Oper} {Q : Exit → Act → World → Prop}

/-- All orders; each step leaves what is there as it is; from each later world. -/
def anyB (P : Program) (ops : Array Oper) (Q : Exit → Act → World → Prop) : Nat → Array Bool → Act → World → Prop
 | 0, listed, a, w => Region.ready .any ops listed = [] ∧ ∀ w1, Below w.heap.size w w1 → Q .normal a w1
 | f + 1, listed, a, w => ∀ w1, Below w.heap.size w w1 → (Region.ready .any ops listed = [] → Q .normal a w1) ∧
   ∀ i ∈ Region.ready .any ops listed, wpOp P ops Q i (fun a' w' => Below w1.heap.size w1 w' ∧ anyB P ops Q f (listed.setIfInBounds i true) a' w') a w1

theorem Oper.wp_imp {o : Oper} {a : Act} {w : World} {K : Act → World → Prop} {Q' : Exit → Act → World → Prop} (hQ : ∀ x a w, Q x a w → Q' x a w) (h : o.wp P a w K Q) : o.wp P a w K Q' := by
 unfold Oper.wp at *
 generalize (execOp a.eval o).run P w = r at *
 cases r with
 | ok n w' =>
  cases n <;> simp only [Oper.upon] at h ⊢
  case value => exact h
  case skip => exact h
  case defer => exact h
  case enter f args =>
   refine Calls.mono h fun e w'' he => ?_
   cases e with
   | returned u => exact he
   | panicked c => exact hQ _ _ _ he
   | outgrown => obtain ⟨a', w', h'⟩ := he; exact ⟨a', w', hQ _ _ _ h'⟩
  case row row args => exact Rows.mono h fun u w'' he => he
 | halt x w' =>
  cases x <;> simp only [Oper.upon] at h ⊢
  case panic u => exact hQ _ _ _ h
theorem wpOp_imp {i : Nat} {a : Act} {w : World} {K : Act → World → Prop} {Q' : Exit → Act → World → Prop} (hQ : ∀ x a w, Q x a w → Q' x a w) (h : wpOp P ops Q i K a w) : wpOp P ops Q' i K a w := by
 unfold wpOp at *
 split
 ·simp_all
 ·rename_i o ho
  rw [ho] at h
  simp only at h
  split
  ·rename_i hw
   rw [if_pos hw] at h
   rcases h with h | ⟨h1, a', w', h2⟩
   ·exact .inl (Oper.wp_imp hQ h)
   ·exact .inr ⟨h1, a', w', hQ _ _ _ h2⟩
  ·rename_i hw
   rwa [if_neg hw] at h
theorem wpAny_imp {Q' : Exit → Act → World → Prop} (hQ : ∀ x a w, Q x a w → Q' x a w) : ∀ (f : Nat) (listed : Array Bool) (a : Act) (w : World), wpAny P .any ops Q f listed a w → wpAny P .any ops Q' f listed a w
 | 0, _, _, _, h => ⟨h.1, hQ _ _ _ h.2⟩
 | f + 1, _, _, _, h => ⟨fun h0 => hQ _ _ _ (h.1 h0), fun i hi => wpOp_imp hQ (wpOp_mono (fun a' w' h' => wpAny_imp hQ f _ a' w' h') (h.2 i hi))⟩

theorem below_trans {w w' w'' : World} (h : Below w.heap.size w w') (k : Below w'.heap.size w' w'') : Below w.heap.size w w'' := h.trans (k.mono h.size)

theorem anyB_up : ∀ {f : Nat} {listed : Array Bool} {a : Act} {w w' : World}, Below w.heap.size w w' → anyB P ops Q f listed a w → anyB P ops Q f listed a w'
 | 0, _, _, _, _, hb, h => ⟨h.1, fun w1 h1 => h.2 w1 (below_trans hb h1)⟩
 | _ + 1, _, _, _, _, hb, h => fun w1 h1 => h w1 (below_trans hb h1)

theorem wpAny_of_anyB : ∀ (f : Nat) (listed : Array Bool) (a : Act) (w : World), anyB P ops Q f listed a w → wpAny P .any ops Q f listed a w
 | 0, _, _, w, h => ⟨h.1, h.2 w (Below.refl _ _)⟩
 | f + 1, _, _, w, h => ⟨(h w (Below.refl _ _)).1, fun i hi => wpOp_mono (fun a' w' h' => wpAny_of_anyB f _ a' w' h'.2) ((h w (Below.refl _ _)).2 i hi)⟩

/-- An operation that yields v in every later world and leaves what is there as it is. -/
def YB (P : Program) (ops : Array Oper) (o : Oper) (v : Value) (a : Act) (w : World) : Prop :=
 (Region.wanted o (yielded ops a.tmps) = true ∧ ∀ w', Below w.heap.size w w' → o.quietAt P a (Below w'.heap.size w') w' v) ∨
 (Region.wanted o (yielded ops a.tmps) = false ∧ v = undef)

theorem YB.up {o : Oper} {v : Value} {a : Act} {w w' : World} (h : YB P ops o v a w) (hb : Below w.heap.size w w') : YB P ops o v a w' := by
 rcases h with ⟨h1, h2⟩ | h
 ·exact .inl ⟨h1, fun w1 h => h2 w1 (below_trans hb h)⟩
 ·exact .inr h

theorem YB.of_same {o : Oper} {v : Value} {a a' : Act} {w : World} (hy : YB P ops o v a w) (he : execOp a'.eval o = execOp a.eval o)
  (hw : Region.wanted o (yielded ops a'.tmps) = Region.wanted o (yielded ops a.tmps)) : YB P ops o v a' w := by
 unfold YB Oper.quietAt at *
 rw [he, hw]
 exact hy

theorem YB.wpOp {i : Nat} {o : Oper} {v : Value} {a : Act} {w : World} (hi : ops[i]? = some o) (hy : YB P ops o v a w)
  {K : Act → World → Prop} (h : ∀ w', Below w.heap.size w w' → K (a.put o.dst v) w') : wpOp P ops Q i K a w := by
 unfold Go.wpOp
 simp only [hi]
 rcases hy with ⟨hw, hv⟩ | ⟨hw, rfl⟩
 ·simp only [hw, if_true]
  left
  have h3 := hv w (Below.refl _ _)
  unfold Oper.quietAt at h3
  unfold Oper.wp
  generalize (execOp a.eval o).run P w = r at *
  cases r with
  | ok n w' =>
   cases n <;> simp only [Oper.quietUpon] at h3 <;> simp only [Oper.upon]
   case value u =>
    obtain ⟨rfl, rfl⟩ := h3
    exact h _ (Below.refl _ _)
   case skip =>
    obtain ⟨rfl, rfl⟩ := h3
    exact h _ (Below.refl _ _)
   case enter f args =>
    obtain ⟨rfl, h4⟩ := h3
    refine Calls.mono h4 ?_
    rintro e w'' ⟨rfl, hb⟩
    exact h _ hb
  | halt x w' => exact h3.elim
 ·simp only [hw, Bool.false_eq_true, if_false]; exact h _ (Below.refl _ _)

theorem wpOp_putB {j : Nat} {oi oj : Oper} {v : Value} (hj : ops[j]? = some oj) (hap : oi.apart ops oj = true)
  (hsi : ∀ cs b, oi.op ≠ .select cs b) (hsj : ∀ cs b, oj.op ≠ .select cs b)
  (hQ : ∀ c a w, ¬ Q (.panic c) a w) {K : Act → World → Prop} {a : Act} {w : World}
  (hy : YB P ops oi v a w) (h : wpOp P ops Q j (fun a' w' => Below w.heap.size w w' ∧ K a' w') (a.put oi.dst v) w) :
  wpOp P ops Q j (fun a' w' => Below w.heap.size w w' ∧ YB P ops oi v a' w' ∧ K (a'.put oi.dst v) w') a w := by
 obtain ⟨h1, h2, h3⟩ := Oper.apart_spec hap
 have keep : ∀ (a : Act) w w', Below w.heap.size w w' → YB P ops oi v a w → ∀ u, YB P ops oi v (a.put oj.dst u) w' := fun a w w' hb hy u =>
  (hy.of_same (execOp_put oi hsi a oj.dst u h3) (wanted_put oi a oj.dst u h3)).up hb
 have keepD : ∀ d, YB P ops oi v { a with defers := d :: a.defers } w := fun d => hy.of_same rfl rfl
 unfold wpOp at *
 simp only [hj] at *
 rw [wanted_put oj a oi.dst v h1] at h
 split
 ·rename_i hw
  simp only [hw, if_true] at h
  rcases h with h | ⟨hasks, hlets⟩
  case inr => exact .inr ⟨by unfold Oper.asks at *; rw [execOp_put oj hsj a oi.dst v h1] at hasks; exact hasks, hlets⟩
  refine .inl ?_
  unfold Oper.wp at *
  rw [execOp_put oj hsj a oi.dst v h1] at h
  generalize (execOp a.eval oj).run P w = r at *
  cases r with
  | ok n w' =>
   cases n <;> simp only [Oper.upon] at h ⊢
   case value u => exact ⟨h.1, keep a w w' h.1 hy u, by rw [← Act.put_comm a v u h2]; exact h.2⟩
   case skip => exact ⟨h.1, keep a w w' h.1 hy _, by rw [← Act.put_comm a v undef h2]; exact h.2⟩
   case defer d =>
    refine ⟨h.1, keep _ w w' h.1 (keepD d) _, ?_⟩
    rw [← Act.put_comm _ v undef h2, ← Act.put_defers]
    exact h.2
   case enter f args =>
    refine Calls.mono h fun e w'' he => ?_
    cases e with
    | returned u => exact ⟨he.1, keep a w w'' he.1 hy u, by rw [← Act.put_comm a v u h2]; exact he.2⟩
    | panicked c => exact absurd he (hQ _ _ _)
    | outgrown => exact he
   case row row args => exact Rows.mono h fun u w'' he => ⟨he.1, keep a w w'' he.1 hy u, by rw [← Act.put_comm a v u h2]; exact he.2⟩
  | halt x w' =>
   cases x <;> simp only [Oper.upon] at h ⊢
   case panic u => exact absurd h (hQ _ _ _)
 ·rename_i hw
  simp only [hw] at h
  exact ⟨h.1, keep a w w h.1 hy _, by rw [← Act.put_comm a v undef h2]; exact h.2⟩

theorem anyB_first {i : Nat} {oi : Oper} {v : Value} (hi : ops[i]? = some oi) (hsel : ∀ (j : Nat) (o : Oper) cs b, ops[j]? = some o → o.op ≠ .select cs b)
  (hQ : ∀ c a w, ¬ Q (.panic c) a w) :
  ∀ (fuel : Nat) (listed : Array Bool) (a : Act) (w : World),
   (∀ j oj, ops[j]? = some oj → j ≠ i → listed.getD j true = false → (∀ e ∈ oj.after, Region.binds .any e = true → e.on ≠ i) → oi.apart ops oj = true) →
   i ∈ Region.ready .any ops listed → YB P ops oi v a w →
   anyB P ops Q fuel (listed.setIfInBounds i true) (a.put oi.dst v) w → anyB P ops Q (fuel + 1) listed a w := by
 intro fuel
 induction fuel with
 | zero =>
  intro listed a w _ hr hy H w1 hw1
  refine ⟨fun h => (by rw [h] at hr; cases hr), fun j hj => ?_⟩
  by_cases hji : j = i
  ·subst hji; exact (hy.up hw1).wpOp hi fun w' hb => ⟨hb, anyB_up (below_trans hw1 hb) H⟩
  ·have := ready_mono hj hji
   rw [H.1] at this
   cases this
 | succ fuel ih =>
  intro listed a w hfree hr hy H w1 hw1
  refine ⟨fun h => (by rw [h] at hr; cases hr), fun j hj => ?_⟩
  by_cases hji : j = i
  ·subst hji; exact (hy.up hw1).wpOp hi fun w' hb => ⟨hb, anyB_up (below_trans hw1 hb) H⟩
  ·have h1 := (H w1 hw1).2 j (ready_mono hj hji)
   obtain ⟨hjun, oj, hoj, hall⟩ := mem_ready.1 hj
   have hnot : ∀ e ∈ oj.after, Region.binds .any e = true → e.on ≠ i := fun e he hb heq => by
    have h1 := hall e he hb
    have h0 := (mem_ready.1 hr).1
    rw [heq] at h1
    rcases Nat.lt_or_ge i listed.size with h' | h'
    ·simp [h'] at h0 h1; rw [h0] at h1; cases h1
    ·simp [Array.getElem?_eq_none h'] at h1
   have h2 := wpOp_putB hoj (hfree j oj hoj hji hjun hnot) (fun cs b => hsel i oi cs b hi) (fun cs b => hsel j oj cs b hoj) hQ (hy.up hw1) h1
   have hfree' : ∀ k ok, ops[k]? = some ok → k ≠ i → (listed.setIfInBounds j true).getD k true = false →
     (∀ e ∈ ok.after, Region.binds .any e = true → e.on ≠ i) → oi.apart ops ok = true := fun k ok hk hki hun hno => by
    refine hfree k ok hk hki ?_ hno
    by_cases hjk : j = k
    ·subst hjk; exact hjun
    ·rw [getD_set_ne true hjk] at hun; exact hun
   refine wpOp_mono (fun a' w' h3 => ⟨h3.1, ih (listed.setIfInBounds j true) a' w' hfree' (ready_mono hr (Ne.symm hji)) h3.2.1 ?_⟩) h2
   rw [Array.setIfInBounds_comm _ _ hji]
   exact h3.2.2
end

section
variable {P : Program} {n : Nat} {G : Ctx} {ops : Array Oper} {f : Nat} {listed : Array Bool} {E : Env} {H : List AObj} {K : Env → List AObj → Prop} {o : Oper}

def postQ (n : Nat) (G : Ctx) (K : Env → List AObj → Prop) : Exit → Act → World → Prop := fun x a' w' => x = .normal ∧ ∃ E' H' r', K E' H' ∧ Rel n G E' H' r' a' w'
theorem postQ_panic (n : Nat) (G : Ctx) (K : Env → List AObj → Prop) (c) (a : Act) (w : World) : ¬ postQ n G K (.panic c) a w := fun h => by cases h.1

def AAny (P : Program) (n : Nat) (G : Ctx) (ops : Array Oper) (f : Nat) (listed : Array Bool) (E : Env) (H : List AObj) (K : Env → List AObj → Prop) : Prop :=
 ∀ (r : List Nat) (a : Act) (w : World), Rel n G E H r a w → anyB P ops (postQ n G K) f listed a w

theorem AAny_done (hr : Region.ready .any ops listed = []) (h : K E H) : AAny P n G ops f listed E H K := by
 intro r a w hrel
 cases f with
 | zero => exact ⟨hr, fun w1 h1 => ⟨rfl, E, H, r, h, hrel.below h1⟩⟩
 | succ f => exact fun w1 h1 => ⟨fun _ => ⟨rfl, E, H, r, h, hrel.below h1⟩, by rw [hr]; simp⟩

theorem AAny_q (i d : Nat) (v : AV) (hi : ops[i]? = some o) (hc : (Region.noSelect ops && (Region.free .any ops listed i && (Region.ready .any ops listed).contains i)) = true) (hw : wantedE ops E o = some true) (hd : o.dst = some d) (hlt : Nat.ble (d + 1) n = true) (hq : QOp P n G o E H v)
  (h : AAny P n G ops f (listed.setIfInBounds i true) ((d, v) :: E) H K) : AAny P n G ops (f + 1) listed E H K := by
 intro r a w hr
 obtain ⟨x, hx, hrun⟩ := hq r a w hr
 simp only [Bool.and_eq_true] at hc
 refine anyB_first (v := x) hi (Region.noSelect_spec hc.1) (postQ_panic n G K) f listed a w (Region.free_spec hi hc.2.1) (by simpa using hc.2.2) (.inl ⟨wantedE_sound hr hw, fun w' hw' => ?_⟩) ?_
 ·unfold Oper.quietAt
  rw [hrun w' hw']
  exact ⟨rfl, rfl⟩
 ·exact h r _ w (hr.put (Step.refl _ _ _) hr.heap o.dst x v d hd (Nat.le_of_ble_eq_true hlt) hx)

/-- One step of an order. -/
def AStep (P : Program) (n : Nat) (G : Ctx) (ops : Array Oper) (f : Nat) (listed : Array Bool) (E : Env) (H : List AObj) (K : Env → List AObj → Prop) (i : Nat) : Prop :=
 ∀ (r : List Nat) (a : Act) (w : World), Rel n G E H r a w → wpOp P ops (postQ n G K) i (fun a' w' => Below w.heap.size w w' ∧ anyB P ops (postQ n G K) f (listed.setIfInBounds i true) a' w') a w

theorem AAny_all (rs : List Nat) (hr : Region.ready .any ops listed = rs) (hne : rs.isEmpty = false) (h : ∀ i ∈ rs, AStep P n G ops f listed E H K i) : AAny P n G ops (f + 1) listed E H K := by
 intro r a w hrel w1 hw1
 refine ⟨fun h0 => ?_, fun i hi => ?_⟩
 ·rw [h0] at hr; subst hr; simp at hne
 ·rw [hr] at hi
  exact h i hi r a w1 (hrel.below hw1)

theorem AStep_of (i : Nat) (hi : ops[i]? = some o) (hw : wantedE ops E o = some true) (hb : ∀ (r : List Nat) (a : Act) (w : World), Rel n G E H r a w → ∃ x w', (execOp a.eval o).run P w = .ok (.value x) w' ∧ Below w.heap.size w w')
  (h : AOps P n G ops [o] E H (fun E' H' => AAny P n G ops f (listed.setIfInBounds i true) E' H' K)) : AStep P n G ops f listed E H K i := by
 intro r a w hr
 obtain ⟨x, w', e, hbw⟩ := hb r a w hr
 have h1 := h r a w hr
 unfold wpList at h1
 rw [wantedE_sound hr hw, if_pos rfl] at h1
 unfold wpOp
 simp only [hi]
 rw [wantedE_sound hr hw, if_pos rfl]
 left
 unfold Oper.wp at h1 ⊢
 rw [e, Oper.upon_value] at h1 ⊢
 rcases h1 with h1 | ⟨_, a', w2, h2, _⟩
 ·obtain ⟨_, E', H', r', k, hr'⟩ := h1
  exact ⟨hbw, k r' _ w' hr'⟩
 ·cases h2

theorem Bl_box (t : TypeId) (x : Operand) (hop : o.op = .box t x) (r : List Nat) (a : Act) (w : World) (hr : Rel n G E H r a w) : ∃ x w', (execOp a.eval o).run P w = .ok (.value x) w' ∧ Below w.heap.size w w' :=
 ⟨.pointer (some ⟨w.heap.size, 0, none⟩), w.alloc (.cells (a.eval x).cells t), by simp [execOp, hop, run_box], below_alloc' _ _⟩

theorem Bl_alloc (t : TypeId) (z : Value) (hz : ∀ w, (zeroValue t).run P w = .ok z w) (hop : o.op = .alloc t) (r : List Nat) (a : Act) (w : World) (hr : Rel n G E H r a w) : ∃ x w', (execOp a.eval o).run P w = .ok (.value x) w' ∧ Below w.heap.size w w' :=
 ⟨.pointer (some ⟨w.heap.size, 0, none⟩), w.alloc (.cells z.cells t), by simp [execOp, hop, Instr.alloc, hz, newVar, newRow], below_alloc' _ _⟩

theorem AAny_as (d : Nat) {v v' : AV} {H' : List AObj} (hv : v = v') (hH : H = H') (h : AAny P n G ops f listed ((d, v') :: E) H' K) : AAny P n G ops f listed ((d, v) :: E) H K := by
 subst hv hH; exact h

/-- Such a row, whole. -/
theorem ACode_any {id : Nat} {l : Array Oper} {Q : Exit → Env → List AObj → Prop} (hm : P.follows .mixedOrders = true) (h : AAny P n G l l.size (Array.replicate l.size false) E H (fun E' H' => Q .normal E' H')) : ACode P n G (.region id l true) E H Q := by
 intro r a w hr
 have hb : Below w.heap.size w { w with drawn := w.drawn + 1 } := ⟨rfl, rfl, rfl, Nat.le_refl _, fun _ _ => rfl⟩
 refine wp_mono (wp_region_any hm (wpAny_of_anyB _ _ _ _ (h r a _ (hr.below hb)))) ?_
 rintro x a' w' ⟨rfl, E', H', r', q, hr2⟩
 exact ⟨E', H', r', q, hr2⟩

/-- Such a row of which the last operation comes last in every order. -/
theorem ACode_anyLast {id : Nat} {l : List Oper} {o : Oper} {Q : Exit → Env → List AObj → Prop} (hm : P.follows .mixedOrders = true) (hB : lastB l o = true)
  (h : AAny P n G l.toArray l.length (Array.replicate l.length false) E H (fun E' H' => AOps P n G (l ++ [o]).toArray [o] E' H' (fun E'' H'' => Q .normal E'' H''))) : ACode P n G (.region id (l ++ [o]).toArray true) E H Q := by
 intro r a w hr
 have hb : Below w.heap.size w { w with drawn := w.drawn + 1 } := ⟨rfl, rfl, rfl, Nat.le_refl _, fun _ _ => rfl⟩
 have h1 := wpAny_of_anyB _ _ _ _ (h r a _ (hr.below hb))
 refine wp_mono (Q := fun x a' w' => x = .normal ∧ ∃ E' H' r', Q .normal E' H' ∧ Rel n G E' H' r' a' w') (wp_region_any hm ?_) ?_
 ·have hK : ∀ x a' w', postQ n G (fun E' H' => AOps P n G (l ++ [o]).toArray [o] E' H' (fun E'' H'' => Q .normal E'' H'')) x a' w' → Exit.then (wpOp P (l ++ [o]).toArray (fun x a' w' => x = .normal ∧ ∃ E' H' r', Q .normal E' H' ∧ Rel n G E' H' r' a' w') l.length (fun a' w' => Exit.normal = Exit.normal ∧ ∃ E' H' r', Q .normal E' H' ∧ Rel n G E' H' r' a' w')) (fun x a' w' => x = .normal ∧ ∃ E' H' r', Q .normal E' H' ∧ Rel n G E' H' r' a' w') x a' w' := by
   rintro x a' w' ⟨rfl, E', H', r', k, hr2⟩
   have h2 := k r' a' w' hr2
   have e : (l ++ [o]).toArray[l.length]? = some o := by simp
   have goal : wpOp P (l ++ [o]).toArray (fun x a' w' => x = .normal ∧ ∃ E' H' r', Q .normal E' H' ∧ Rel n G E' H' r' a' w') l.length (fun a' w' => Exit.normal = Exit.normal ∧ ∃ E' H' r', Q .normal E' H' ∧ Rel n G E' H' r' a' w') a' w' := by
    unfold wpOp
    rw [e]
    exact h2
   exact goal
  have h3 := any_push (P := P) (Q := fun x a' w' => x = .normal ∧ ∃ E' H' r', Q .normal E' H' ∧ Rel n G E' H' r' a' w') hB l.length (Array.replicate l.length false) a { w with drawn := w.drawn + 1 } (by simp) (fun i x _ ht => by
   simp [Array.getD_eq_getD_getElem?, Array.getElem?_replicate] at ht
   split at ht <;> simp_all) (wpAny_imp hK _ _ _ _ h1)
  have e : (Array.replicate l.length false).push false = Array.replicate (l ++ [o]).toArray.size false := by simp [← Array.replicate_succ]
  rw [e] at h3
  simpa using h3
 ·rintro x a' w' ⟨rfl, E', H', r', q, hr2⟩
  exact ⟨E', H', r', q, hr2⟩
end
end Go.Proofs.YtldgmcghdohmeaaGreat.Ab
