/- Own library, part 16: rows whose order Go leaves open and in which memory is written: every order of what touches memory is walked; what reads no memory is taken first. No conditions. (The second part is printed by the own tool mku.py out of the rules of the other parts.) -/
import Derived.Test.YtldgmcghdohmeaaGreatAb15
import Derived.Test.YtldgmcghdohmeaaGreatColEq
set_option linter.unusedVariables false
set_option linter.unusedSimpArgs false
namespace Go.Proofs.YtldgmcghdohmeaaGreat.Ab
open Go Go.RowKit

section
variable {P : Program} {ops : Array Oper} {Q : Exit → Act → World → Prop}

theorem Oper.wp_swap {o : Oper} {a : Act} {w : World} {K K' : Act → World → Prop} {Q' : Exit → Act → World → Prop} (hK : ∀ a w, K a w → K' a w) (hQ : ∀ x a w, Q x a w → x = .normal) (h : o.wp P a w K Q) : o.wp P a w K' Q' := by
 unfold Oper.wp at *
 generalize (execOp a.eval o).run P w = r at *
 cases r with
 | ok n w' =>
  cases n <;> simp only [Oper.upon] at h ⊢
  case value => exact hK _ _ h
  case skip => exact hK _ _ h
  case defer => exact hK _ _ h
  case enter f args =>
   refine Calls.mono h fun e w'' he => ?_
   cases e with
   | returned u => exact hK _ _ he
   | panicked c => exact absurd (hQ _ _ _ he) (by simp)
   | outgrown => obtain ⟨a', w', h'⟩ := he; exact absurd (hQ _ _ _ h') (by simp)
  case row row args => exact Rows.mono h fun u w'' he => hK _ _ he
 | halt x w' =>
  cases x <;> simp only [Oper.upon] at h ⊢
  case panic u => exact absurd (hQ _ _ _ h) (by simp)

/-- An operation that yields v in every world. -/
def UY (P : Program) (ops : Array Oper) (o : Oper) (v : Value) (a : Act) : Prop :=
 (Region.wanted o (yielded ops a.tmps) = true ∧ ∀ w, (execOp a.eval o).run P w = .ok (.value v) w) ∨ (Region.wanted o (yielded ops a.tmps) = false ∧ v = undef)

theorem UY.of_same {o : Oper} {v : Value} {a a' : Act} (hy : UY P ops o v a) (he : execOp a'.eval o = execOp a.eval o) (hw : Region.wanted o (yielded ops a'.tmps) = Region.wanted o (yielded ops a.tmps)) : UY P ops o v a' := by
 unfold UY at *
 rw [he, hw]; exact hy

theorem UY.wpOp {i : Nat} {o : Oper} {v : Value} {a : Act} {w : World} (hi : ops[i]? = some o) (hy : UY P ops o v a) {K : Act → World → Prop} (h : K (a.put o.dst v) w) : wpOp P ops Q i K a w := by
 unfold Go.wpOp
 simp only [hi]
 rcases hy with ⟨hw, hv⟩ | ⟨hw, rfl⟩
 ·simp only [hw, if_true]
  left
  unfold Oper.wp
  rw [hv w, Oper.upon_value]; exact h
 ·simp only [hw, Bool.false_eq_true, if_false]; exact h

theorem wpOp_putU {j : Nat} {oi oj : Oper} {v : Value} (hj : ops[j]? = some oj) (hap : oi.apart ops oj = true) (hsi : ∀ cs b, oi.op ≠ .select cs b) (hsj : ∀ cs b, oj.op ≠ .select cs b)
  (hQ : ∀ c a w, ¬ Q (.panic c) a w) {K : Act → World → Prop} {a : Act} {w : World} (hy : UY P ops oi v a) (h : wpOp P ops Q j K (a.put oi.dst v) w) :
  wpOp P ops Q j (fun a' w' => UY P ops oi v a' ∧ K (a'.put oi.dst v) w') a w := by
 obtain ⟨h1, h2, h3⟩ := Oper.apart_spec hap
 have keep : ∀ (a : Act), UY P ops oi v a → ∀ u, UY P ops oi v (a.put oj.dst u) := fun a hy u => hy.of_same (execOp_put oi hsi a oj.dst u h3) (wanted_put oi a oj.dst u h3)
 have keepD : ∀ d, UY P ops oi v { a with defers := d :: a.defers } := fun d => hy.of_same rfl rfl
 unfold wpOp at *
 simp only [hj] at *
 rw [wanted_put oj a oi.dst v h1] at h
 split
 ·rename_i hw
  simp only [hw, if_true] at h
  rcases h with h | ⟨hasks, hlets⟩
  case inr => exact .inr ⟨by unfold Oper.asks at *; rw [execOp_put oj hsj a oi.dst v h1] at hasks; exact hasks, hlets⟩
  refine .inl ?_
  unfold Oper.wp at *
  rw [execOp_put oj hsj a oi.dst v h1] at h
  generalize (execOp a.eval oj).run P w = r at *
  cases r with
  | ok n w' =>
   cases n <;> simp only [Oper.upon] at h ⊢
   case value u => exact ⟨keep a hy u, by rw [← Act.put_comm a v u h2]; exact h⟩
   case skip => exact ⟨keep a hy _, by rw [← Act.put_comm a v undef h2]; exact h⟩
   case defer d =>
    refine ⟨keep _ (keepD d) _, ?_⟩
    rw [← Act.put_comm _ v undef h2, ← Act.put_defers]
    exact h
   case enter f args =>
    refine Calls.mono h fun e w'' he => ?_
    cases e with
    | returned u => exact ⟨keep a hy u, by rw [← Act.put_comm a v u h2]; exact he⟩
    | panicked c => exact absurd he (hQ _ _ _)
    | outgrown => exact he
   case row row args => exact Rows.mono h fun u w'' he => ⟨keep a hy u, by rw [← Act.put_comm a v u h2]; exact he⟩
  | halt x w' =>
   cases x <;> simp only [Oper.upon] at h ⊢
   case panic u => exact absurd h (hQ _ _ _)
 ·rename_i hw
  simp only [hw] at h
  exact ⟨keep a hy _, by rw [← Act.put_comm a v undef h2]; exact h⟩

theorem wpAny_firstU {i : Nat} {oi : Oper} {v : Value} (hi : ops[i]? = some oi) (hsel : ∀ (j : Nat) (o : Oper) cs b, ops[j]? = some o → o.op ≠ .select cs b) (hQ : ∀ c a w, ¬ Q (.panic c) a w) :
  ∀ (fuel : Nat) (listed : Array Bool) (a : Act) (w : World),
   (∀ j oj, ops[j]? = some oj → j ≠ i → listed.getD j true = false → (∀ e ∈ oj.after, Region.binds .any e = true → e.on ≠ i) → oi.apart ops oj = true) →
   i ∈ Region.ready .any ops listed → UY P ops oi v a →
   wpAny P .any ops Q fuel (listed.setIfInBounds i true) (a.put oi.dst v) w → wpAny P .any ops Q (fuel + 1) listed a w := by
 intro fuel
 induction fuel with
 | zero =>
  intro listed a w _ hr hy H
  refine ⟨fun h => (by rw [h] at hr; cases hr), fun j hj => ?_⟩
  by_cases hji : j = i
  ·subst hji; exact hy.wpOp hi H
  ·have := ready_mono hj hji
   rw [H.1] at this
   cases this
 | succ fuel ih =>
  intro listed a w hfree hr hy H
  refine ⟨fun h => (by rw [h] at hr; cases hr), fun j hj => ?_⟩
  by_cases hji : j = i
  ·subst hji; exact hy.wpOp hi H
  ·have h1 := H.2 j (ready_mono hj hji)
   obtain ⟨hjun, oj, hoj, hall⟩ := mem_ready.1 hj
   have hnot : ∀ e ∈ oj.after, Region.binds .any e = true → e.on ≠ i := fun e he hb heq => by
    have h1 := hall e he hb
    have h0 := (mem_ready.1 hr).1
    rw [heq] at h1
    rcases Nat.lt_or_ge i listed.size with h' | h'
    ·simp [h'] at h0 h1; rw [h0] at h1; cases h1
    ·simp [Array.getElem?_eq_none h'] at h1
   have h2 := wpOp_putU hoj (hfree j oj hoj hji hjun hnot) (fun cs b => hsel i oi cs b hi) (fun cs b => hsel j oj cs b hoj) hQ hy h1
   have hfree' : ∀ k ok, ops[k]? = some ok → k ≠ i → (listed.setIfInBounds j true).getD k true = false →
     (∀ e ∈ ok.after, Region.binds .any e = true → e.on ≠ i) → oi.apart ops ok = true := fun k ok hk hki hun hno => by
    refine hfree k ok hk hki ?_ hno
    by_cases hjk : j = k
    ·subst hjk; exact hjun
    ·rw [getD_set_ne true hjk] at hun; exact hun
   refine wpOp_mono (fun a' w' h3 => ih (listed.setIfInBounds j true) a' w' hfree' (ready_mono hr (Ne.symm hji)) h3.1 ?_) h2
   rw [Array.setIfInBounds_comm _ _ hji]
   exact h3.2
end

section
variable {P : Program} {n : Nat} {G : Ctx} {ops : Array Oper} {f : Nat} {listed : Array Bool} {E : Env} {H : List AObj} {K : Env → List AObj → Prop} {o : Oper}

/-- An operation that reads no memory. -/
def UOp (P : Program) (n : Nat) (G : Ctx) (o : Oper) (E : Env) (H : List AObj) (v : AV) : Prop :=
 ∀ (r : List Nat) (a : Act) (w : World), Rel n G E H r a w → ∃ x, RepV G.F w H r v x ∧ ∀ w' : World, True → (execOp a.eval o).run P w' = .ok (.value x) w'

def AU (P : Program) (n : Nat) (G : Ctx) (ops : Array Oper) (f : Nat) (listed : Array Bool) (E : Env) (H : List AObj) (K : Env → List AObj → Prop) : Prop :=
 ∀ (r : List Nat) (a : Act) (w : World), Rel n G E H r a w → wpAny P .any ops (postQ n G K) f listed a w

theorem AU_done (hr : Region.ready .any ops listed = []) (h : K E H) : AU P n G ops f listed E H K := by
 intro r a w hrel
 cases f with
 | zero => exact ⟨hr, rfl, E, H, r, h, hrel⟩
 | succ f => exact ⟨fun _ => ⟨rfl, E, H, r, h, hrel⟩, by rw [hr]; simp⟩

theorem AU_u (i d : Nat) (v : AV) (hi : ops[i]? = some o) (hc : (Region.noSelect ops && (Region.free .any ops listed i && (Region.ready .any ops listed).contains i)) = true) (hw : wantedE ops E o = some true) (hd : o.dst = some d) (hlt : Nat.ble (d + 1) n = true) (hq : UOp P n G o E H v)
  (h : AU P n G ops f (listed.setIfInBounds i true) ((d, v) :: E) H K) : AU P n G ops (f + 1) listed E H K := by
 intro r a w hr
 obtain ⟨x, hx, hrun⟩ := hq r a w hr
 simp only [Bool.and_eq_true] at hc
 refine wpAny_firstU (v := x) hi (Region.noSelect_spec hc.1) (postQ_panic n G K) f listed a w (Region.free_spec hi hc.2.1) (by simpa using hc.2.2) (.inl ⟨wantedE_sound hr hw, fun w' => hrun w' trivial⟩) ?_
 exact h r _ w (hr.put (Step.refl _ _ _) hr.heap o.dst x v d hd (Nat.le_of_ble_eq_true hlt) hx)

def US (P : Program) (n : Nat) (G : Ctx) (ops : Array Oper) (f : Nat) (listed : Array Bool) (E : Env) (H : List AObj) (K : Env → List AObj → Prop) (i : Nat) : Prop :=
 ∀ (r : List Nat) (a : Act) (w : World), Rel n G E H r a w → wpOp P ops (postQ n G K) i (wpAny P .any ops (postQ n G K) f (listed.setIfInBounds i true)) a w

theorem AU_all (rs : List Nat) (hr : Region.ready .any ops listed = rs) (hne : rs.isEmpty = false) (h : ∀ i ∈ rs, US P n G ops f listed E H K i) : AU P n G ops (f + 1) listed E H K := by
 intro r a w hrel
 refine ⟨fun h0 => ?_, fun i hi => ?_⟩
 ·rw [h0] at hr; subst hr; simp at hne
 ·rw [hr] at hi
  exact h i hi r a w hrel

/-- A step of an order: by the rules for rows in order. -/
theorem US_of (i : Nat) (hi : ops[i]? = some o) (hw : wantedE ops E o = some true) (h : AOps P n G ops [o] E H (fun E' H' => AU P n G ops f (listed.setIfInBounds i true) E' H' K)) : US P n G ops f listed E H K i := by
 intro r a w hr
 have h1 := h r a w hr
 unfold wpList at h1
 rw [wantedE_sound hr hw, if_pos rfl] at h1
 unfold wpOp
 simp only [hi]
 rw [wantedE_sound hr hw, if_pos rfl]
 rcases h1 with h1 | ⟨_, a', w2, h2, _⟩
 ·left
  refine Oper.wp_swap (fun a w hk => ?_) (fun x a w hx => hx.1) h1
  obtain ⟨_, E', H', r', k, hr'⟩ := hk
  exact k r' a w hr'
 ·cases h2

/-- Such a row, whole. -/
theorem ACode_anyU {id : Nat} {l : Array Oper} {Q : Exit → Env → List AObj → Prop} (hm : P.follows .mixedOrders = true) (h : AU P n G l l.size (Array.replicate l.size false) E H (fun E' H' => Q .normal E' H')) : ACode P n G (.region id l true) E H Q := by
 intro r a w hr
 have hb : Below w.heap.size w { w with drawn := w.drawn + 1 } := ⟨rfl, rfl, rfl, Nat.le_refl _, fun _ _ => rfl⟩
 refine wp_mono (wp_region_any hm (h r a _ (hr.below hb))) ?_
 rintro x a' w' ⟨rfl, E', H', r', q, hr2⟩
 exact ⟨E', H', r', q, hr2⟩

/-- The ends of a row, as one state that tells less. -/
theorem ACode_reg {c : Code} {Q : Exit → Env → List AObj → Prop} (E0 : Env) (H0 : List AObj) (h : ACode P n G c E H (fun x E' H' => x = .normal ∧ Weak n G E' H' E0 H0)) (k : Q .normal E0 H0) : ACode P n G c E H Q := by
 intro r a w hr
 refine wp_mono (h r a w hr) ?_
 rintro x a' w' ⟨E', H', r', ⟨rfl, hw⟩, hr'⟩
 obtain ⟨r2, hr2⟩ := hw r' a' w' hr'
 exact ⟨E0, H0, r2, k, hr2⟩
end

/-! ### Lists -/
theorem intsD_spl (l : List Int) (lo m : Nat) (ds : List Int) : spliced (intsD l) lo m (intsD ds) = intsD (splicedL l lo m ds) := spliced_map iD l lo m ds
theorem intsD_dt (l : List Int) (a b : Nat) : intsD ((l.drop a).take b) = ((intsD l).drop a).take b := (dt_map iD l a b).symm
/-! ### Rules of operations that read no memory -/
section
variable {P : Program} {n : Nat} {G : Ctx} {E : Env} {H : List AObj} {ops : Array Oper} {rest : List Oper} {o : Oper}
variable (t t' : TypeId) (x y : Operand) (k : IntKind) (p q : Int)
theorem UOp_move (x : Operand) (v : AV) (h : o.op = .move x) (he : evalO E x = some v) : UOp P n G o E H v :=
 fun r a w hr => ⟨a.eval x, evalO_sound hr he, fun w' _ => by simp [execOp, h]⟩
theorem UOp_assign (x : Operand) (v : AV) (h : o.op = .assign x) (he : evalO E x = some v) : UOp P n G o E H v :=
 fun r a w hr => ⟨a.eval x, evalO_sound hr he, fun w' _ => by simp [execOp, h]⟩
end
section
variable {P : Program} {n : Nat} {G : Ctx} {E : Env} {H : List AObj} {ops : Array Oper} {rest : List Oper} {o : Oper}
theorem UOp_nilCheck_ptr (x : Operand) (k off : Nat) (y : AObj) (h : o.op = .nilCheck x) (he : evalO E x = some (.ptr k off)) (hy : H[k]? = some y) (hf : y.fixed = true) : UOp P n G o E H (.ptr k off) :=
 fun r a w hr => ⟨a.eval x, evalO_sound hr he, fun w' _ => by
  have := evalO_sound hr he
  cases this with
  | ptr _ _ _ ho hp =>
   obtain ⟨b, hb⟩ := hr.heap.blk hy
   have := hp y b hy hb hf
   simp [execOp, h, this]⟩
theorem UOp_fieldAddr_pv (t : TypeId) (x : Operand) (fi : Nat) (cs : List D) (off k : Nat) (fs : Array Field) (fd : Field) (h : o.op = .fieldAddr t x fi) (hu : P.underlying t = some (.struct fs)) (hfd : fs[fi]? = some fd) (sz : Nat) (hsz : ∀ w, (sizeOf fd.type).run P w = .ok (sz + 1) w)
  (hk : fd.offset = k) (he : evalO E x = some (.d (.pv cs off))) : UOp P n G o E H (.d (.pv cs (off + k))) := by
 intro r a w hr
 have hev := evalO_sound hr he
 cases hev with
 | d _ _ hd =>
  generalize hv : a.eval x = v at hd
  cases hd with
  | pv _ _ vs b base hl hI hcell hc =>
   refine ⟨.pointer (some ⟨b, base + (off + k), none⟩), .d _ _ (.pv cs (off + k) vs b base hl hI hcell hc), fun w' _ => ?_⟩
   simp [execOp, h, Instr.fieldAt, run_underlying hu, hfd, hv, Instr.sureAddr, fieldPlace, hsz, Addr.add_lit, hk, Nat.add_assoc]
theorem UOp_fieldAddr_ptr (t : TypeId) (x : Operand) (fi : Nat) (y : AObj) (j off k : Nat) (fs : Array Field) (fd : Field) (h : o.op = .fieldAddr t x fi) (hu : P.underlying t = some (.struct fs)) (hfd : fs[fi]? = some fd) (sz : Nat) (hsz : ∀ w, (sizeOf fd.type).run P w = .ok (sz + 1) w)
  (hk : fd.offset = k) (he : evalO E x = some (.ptr j off)) (hy : H[j]? = some y) (hf : y.fixed = true) : UOp P n G o E H (.ptr j (off + k)) := by
 intro r a w hr
 have hev := evalO_sound hr he
 cases hev with
 | ptr _ _ _ ho hp =>
  obtain ⟨b, hb⟩ := hr.heap.blk hy
  have hv := hp y b hy hb hf
  refine ⟨.pointer (some ⟨b, off + k, none⟩), .ptr j (off + k) _ ho fun x' b' h1 h2 _ => ?_, fun w' _ => ?_⟩
  ·rw [hb] at h2; cases h2; rfl
  ·simp [execOp, h, Instr.fieldAt, run_underlying hu, hfd, hv, Instr.sureAddr, fieldPlace, hsz, Addr.add_lit, hk]
theorem UOp_indexAddrA_ptr (t e : TypeId) (x y : Operand) (m : Nat) (kd : IntKind) (z : AObj) (j off : Nat) (i : Int) (h : o.op = .indexAddr t x y) (hu : P.underlying t = some (.array m e)) (hsz : ∀ w, (sizeOf e).run P w = .ok 1 w)
  (h0 : 0 ≤ i) (h1 : i < (m : Int)) (hx : evalO E x = some (.ptr j off)) (hz : H[j]? = some z) (hf : z.fixed = true) (hy : evalO E y = some (.d (.s (.int kd i)))) : UOp P n G o E H (.ptr j (off + i.toNat)) := by
 intro r a w hr
 have hev := evalO_sound hr hx
 cases hev with
 | ptr _ _ _ ho hp =>
  obtain ⟨b, hb⟩ := hr.heap.blk hz
  have hv := hp z b hz hb hf
  refine ⟨.pointer (some ⟨b, off + i.toNat, none⟩), .ptr j _ _ ho fun x' b' h1 h2 _ => ?_, fun w' _ => ?_⟩
  ·rw [hb] at h2; cases h2; rfl
  ·simp [execOp, h, Instr.indexAt, run_underlying hu, hv, evalO_s hr hy, Instr.sureAddr, asIntOf, hsz, Addr.add_lit, h0, h1]
end
section
variable {P : Program} {n : Nat} {G : Ctx} {E : Env} {H : List AObj} {ops : Array Oper} {rest : List Oper} {o : Oper}
theorem UOp_indexAddr_vec (t e : TypeId) (x y : Operand) (kd : IntKind) (k g : Nat) (cs : List D) (i : Int) (h : o.op = .indexAddr t x y) (hu : P.underlying t = some (.slice e)) (hsz : ∀ w, (sizeOf e).run P w = .ok 1 w)
  (h0 : 0 ≤ i) (h1 : i < (cs.length : Int)) (hx : evalO E x = some (.vec k g)) (hk : H[k]? = some (.vec g cs)) (hy : evalO E y = some (.d (.s (.int kd i)))) : UOp P n G o E H (.eptr k g i.toNat) := by
 intro r a w hr
 have hev := evalO_sound hr hx
 cases hev with
 | vec _ _ _ ho hp =>
  obtain ⟨b, hb⟩ := hr.heap.blk hk
  obtain ⟨cap, vs, ty, e1, e2, e3⟩ := (hp g cs b hk hb).2 rfl
  refine ⟨.pointer (some ⟨b, i.toNat, none⟩), .eptr k g _ _ ho fun g' cs' b' h2 h3 => ?_, fun w' _ => ?_⟩
  ·rw [hk] at h2; cases h2
   rw [hb] at h3; cases h3
   exact ⟨Nat.le_refl _, fun _ => rfl⟩
  ·simp [execOp, h, Instr.indexAt, run_underlying hu, e1, evalO_s hr hy, asIntOf, hsz, Addr.add_lit, h0, h1]
theorem UOp_makeFuncD (f : FuncId) (caps : Array Operand) (cs : List AV) (ds : List D) (h : o.op = .makeFunc (.func f) #[] caps) (hc : evalL E caps.toList = some cs) (hd : allD cs = some ds) : UOp P n G o E H (.d (.clo f ds)) := by
 intro r a w hr
 have hs := evalL_sound hr hc
 refine ⟨.func (.func f) #[] (caps.map a.eval), ?_, fun w' _ => by simp [execOp, h, Instr.makeFunc]⟩
 rw [map_eq]
 have := allD_get hd
 subst this
 refine .d _ _ (.clo f ds _ (by simpa using hs.1) fun i c v h1 h2 => ?_)
 have := hs.2 i (.d c) v (by simp [h1]) h2
 cases this with | d _ _ hd => exact hd
end
section
variable {P : Program} {n : Nat} {G : Ctx} {E : Env} {H : List AObj} {ops : Array Oper} {rest : List Oper} {o : Oper}
end
section
variable {P : Program} {n : Nat} {G : Ctx} {E : Env} {H : List AObj} {ops : Array Oper} {rest : List Oper} {o : Oper}
end
section
variable {P : Program} {n : Nat} {G : Ctx} {E : Env} {H : List AObj} {ops : Array Oper} {rest : List Oper} {o : Oper}
theorem UOp_cut (t e : TypeId) (x : Operand) (lo hi : Option Operand) (v : AV) (k g lo0 m0 : Nat) (cs : List D) (l m : Nat) (h : o.op = .slice t x lo hi none) (hu : P.underlying t = some (.slice e)) (hsz : ∀ w, (sizeOf e).run P w = .ok 1 w)
  (hx : evalO E x = some v) (hd : dstOf H v = some (k, g, lo0, m0)) (hk : H[k]? = some (.vec g cs)) (hlo : match lo with | none => l = 0 | some y => ∃ k, evalO E y = some (.d (.s (.int k (l : Int)))))
  (hhi : match hi with | none => m = m0 | some y => ∃ k, evalO E y = some (.d (.s (.int k (m : Int))))) (hlm : l ≤ m) (hm : m ≤ m0) (a1 : Nat) (ha1 : lo0 + l = a1) (a2 : Nat) (ha2 : m - l = a2) : UOp P n G o E H (.part k g a1 a2) := by
 subst ha1; subst ha2
 intro r a w hr
 have hev := evalO_sound hr hx
 obtain ⟨ho, e0, b, vs, ty, l0, c0, hb, e1, e2, e3⟩ := dstOf_sound hr.heap hd hk hev
 have hO := hr.heap.obj k _ b hk hb
 cases hO with
 | vec _ _ vs' ty' hw hc hmx hl =>
 rw [hw] at e2
 cases e2
 have hmc : m ≤ c0 := by
  by_cases e : lo0 = vs.size
  ·omega
  ·have := e3 e; omega
 have hbnd : ∀ w', (Instr.sliceBounds true m0 c0 (lo.map a.eval) (hi.map a.eval) none).run P w' = .ok (l, m, c0) w' := by
  intro w'
  cases lo with
  | none =>
   simp only at hlo; subst hlo
   cases hi with
   | none => simp only at hhi; subst hhi; simp [Instr.sliceBounds]
   | some y =>
    obtain ⟨k, hy⟩ := hhi
    simp [Instr.sliceBounds, evalO_s hr hy, Instr.sliceBound, asIntOf, hmc]
  | some z =>
   obtain ⟨k', hz⟩ := hlo
   cases hi with
   | none => simp only at hhi; subst hhi; simp [Instr.sliceBounds, evalO_s hr hz, Instr.sliceBound, asIntOf, hlm]
   | some y =>
    obtain ⟨k, hy⟩ := hhi
    simp [Instr.sliceBounds, evalO_s hr hy, evalO_s hr hz, Instr.sliceBound, asIntOf, hmc, hlm]
 refine ⟨.slice (if c0 = l then some ⟨b, l0, none⟩ else (some ⟨b, l0, none⟩ : Option Addr).map (·.add (l * 1))) (m - l) (c0 - l), .part k g (lo0 + l) (m - l) _ ho fun g' cs' b' h1 h2 => ?_, fun w' _ => ?_⟩
 ·rw [hk] at h1; cases h1
  rw [hb] at h2; cases h2
  refine ⟨Nat.le_refl _, fun _ => ⟨by omega, vs, ty, if c0 = l then l0 else l0 + l, c0 - l, ?_, hw, fun hne => ?_⟩⟩
  ·split
   ·rfl
   ·simp [Addr.add_lit]
  ·by_cases e : lo0 = vs.size
   ·have : l = 0 := by omega
    omega
   ·obtain ⟨rfl, rfl⟩ := e3 e
    rw [if_neg (by omega)]
    exact ⟨rfl, by omega⟩
 ·simp [execOp, h, Instr.sliceAt, Instr.slice, run_underlying hu, e1, hbnd, hsz]
end
section
variable {P : Program} {n : Nat} {G : Ctx} {E : Env} {H : List AObj} {ops : Array Oper} {rest : List Oper} {o : Oper}
end
end Go.Proofs.YtldgmcghdohmeaaGreat.Ab
