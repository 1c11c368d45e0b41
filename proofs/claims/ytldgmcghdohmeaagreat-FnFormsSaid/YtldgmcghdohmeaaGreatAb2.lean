/- Own library, part 2: what an operation, a row of operations and a code do to a state of data and references; the rules for operations that only reckon. No conditions. -/
import Derived.Test.YtldgmcghdohmeaaGreatAb1
set_option linter.unusedVariables false
set_option linter.unusedSimpArgs false
namespace Go.Proofs.YtldgmcghdohmeaaGreat.Ab
open Go Go.RowKit

def constAV : Value → Option AV
 | .int k n => some (.d (.s (.int k n)))
 | .bool b => some (.d (.s (.bool b)))
 | .string s => some (.d (.s (.string s)))
 | .pointer none => some (.d (.s (.pointer none)))
 | .slice none 0 0 => some (.d (.sl (some true) []))
 | .nilIface => some (.d (.s .nilIface))
 | .nilFunc => some (.d (.s .nilFunc))
 | .map none => some (.d (.s (.map none)))
 | _ => none

def evalO (E : Env) : Operand → Option AV
 | .tmp t => E.get t
 | .const v => constAV v
 | .func f => some (.d (.clo f []))
 | .global _ => none

section
variable {P : Program} {n : Nat} {G : Ctx} {E : Env} {H : List AObj} {r : List Nat} {a : Act} {w : World}

theorem const_sound {F : Nat → Prop} {v : Value} {x : AV} (h : constAV v = some x) : RepV F w H r x v := by
 unfold constAV at h
 split at h <;> simp at h <;> subst h
 case h_5 => exact .d _ _ (.sl (some true) [] [] none 0 rfl (by simp) (by simp) (by simp) (by simp))
 all_goals exact .d _ _ (.s _)

theorem evalO_sound (hr : Rel n G E H r a w) {x : Operand} {v : AV} (h : evalO E x = some v) : RepV G.F w H r v (a.eval x) := by
 cases x with
 | tmp t =>
  obtain ⟨y, hy, hv⟩ := hr.env t v h
  have : a.eval (.tmp t) = y := by simp [Act.eval, Array.getD_eq_getD_getElem?, hy]
  rw [this]; exact hv
 | const c => exact const_sound h
 | func f => simp [evalO] at h; subst h; exact .d _ _ (.clo f [] #[] rfl (by simp))
 | global g => simp [evalO] at h

theorem evalO_s (hr : Rel n G E H r a w) {x : Operand} {v : Value} (h : evalO E x = some (.d (.s v))) : a.eval x = v := by
 have := evalO_sound hr h
 cases this with
 | d _ _ h => cases h; rfl
end

/-- An operation that yields a value and leaves the world as it is, in whatever world that has only grown. -/
def QOp (P : Program) (n : Nat) (G : Ctx) (o : Oper) (E : Env) (H : List AObj) (v : AV) : Prop :=
 ∀ (r : List Nat) (a : Act) (w : World), Rel n G E H r a w → ∃ x, RepV G.F w H r v x ∧ ∀ w', Below w.heap.size w w' → (execOp a.eval o).run P w' = .ok (.value x) w'

/-- A row of operations, one behind the other. -/
def AOps (P : Program) (n : Nat) (G : Ctx) (ops : Array Oper) (l : List Oper) (E : Env) (H : List AObj) (K : Env → List AObj → Prop) : Prop :=
 ∀ (r : List Nat) (a : Act) (w : World), Rel n G E H r a w →
  wpList P ops (fun x a' w' => x = .normal ∧ ∃ E' H' r', K E' H' ∧ Rel n G E' H' r' a' w') l a w

def ACode (P : Program) (n : Nat) (G : Ctx) (c : Code) (E : Env) (H : List AObj) (Q : Exit → Env → List AObj → Prop) : Prop :=
 ∀ (r : List Nat) (a : Act) (w : World), Rel n G E H r a w → c.wp P (fun x a' w' => ∃ E' H' r', Q x E' H' ∧ Rel n G E' H' r' a' w') a w

section
variable {P : Program} {n : Nat} {G : Ctx} {E : Env} {H : List AObj} {ops : Array Oper} {rest : List Oper} {o : Oper} {K : Env → List AObj → Prop}

theorem AOps_nil (h : K E H) : AOps P n G ops [] E H K := fun r a w hr => ⟨rfl, E, H, r, h, hr⟩

def wantedE (ops : Array Oper) (E : Env) (o : Oper) : Option Bool :=
 match o.guard with
 | none => some true
 | some (j, b) =>
  match (ops[j]?).bind (·.dst) with
  | some d => match E.get d with
   | some (.d (.s (.bool c))) => some (c == b)
   | some (.tup _) => some false
   | _ => none
  | none => none

theorem wantedE_sound {r : List Nat} {a : Act} {w : World} (hr : Rel n G E H r a w) {b : Bool} (h : wantedE ops E o = some b) : Region.wanted o (yielded ops a.tmps) = b := by
 unfold wantedE at h
 unfold Region.wanted
 split at h
 ·rename_i hg; simp at h; subst h; simp [hg]
 ·rename_i j c hg
  split at h
  ·rename_i d hd
   split at h
   ·rename_i c' he
    obtain ⟨y, hy, hv⟩ := hr.env d _ he
    cases hv with
    | d _ _ hv =>
     cases hv
     simp at h; subst h
     simp [hg, yielded, hd, hy]
   ·rename_i cs he
    obtain ⟨y, hy, hv⟩ := hr.env d _ he
    cases hv with
    | tup _ vs hl hc =>
     simp at h; subst h
     simp [hg, yielded, hd, hy]
   ·simp at h
  ·simp at h

theorem AOps_q (d : Nat) (v : AV) (hw : wantedE ops E o = some true) (hd : o.dst = some d) (hlt : Nat.ble (d + 1) n = true) (hq : QOp P n G o E H v)
  (h : AOps P n G ops rest ((d, v) :: E) H K) : AOps P n G ops (o :: rest) E H K := by
 intro r a w hr
 obtain ⟨x, hx, hrun⟩ := hq r a w hr
 unfold wpList
 rw [wantedE_sound hr hw, if_pos rfl]
 left
 unfold Oper.wp
 rw [hrun w (Below.refl _ _), Oper.upon_value]
 exact h r _ w (hr.put (Step.refl _ _ _) hr.heap o.dst x v d hd (Nat.le_of_ble_eq_true hlt) hx)

/-- A guarded operation that isn't wanted. -/
theorem AOps_skip (d : Nat) (hd : o.dst = some d) (hlt : Nat.ble (d + 1) n = true) (hw : wantedE ops E o = some false) (h : AOps P n G ops rest ((d, .tup []) :: E) H K) : AOps P n G ops (o :: rest) E H K := by
 intro r a w hr
 unfold wpList
 rw [wantedE_sound hr hw, if_neg (by simp)]
 exact h r _ w (hr.put (Step.refl _ _ _) hr.heap o.dst undef (.tup []) d hd (Nat.le_of_ble_eq_true hlt) (.tup [] #[] rfl (by simp)))

/-- Two cases of a slot that holds a bool. -/
theorem AOps_case {l : List Oper} (d : Nat) (b : Bool) (he : E.get d = some (.d (.s (.bool b)))) (ht : b = true → AOps P n G ops l ((d, .d (.s (.bool true))) :: E) H K)
  (hf : b = false → AOps P n G ops l ((d, .d (.s (.bool false))) :: E) H K) : AOps P n G ops l E H K := by
 have key : ∀ c : Bool, b = c → ∀ (r : List Nat) (a : Act) (w : World), Rel n G E H r a w → Rel n G ((d, .d (.s (.bool c))) :: E) H r a w := by
  intro c hc r a w hr
  refine ⟨hr.size, hr.defers, fun t u hu => ?_, hr.heap, hr.step⟩
  by_cases e : d = t
  ·subst e
   rw [Env.get_cons_self] at hu
   cases hu
   rw [← hc]
   exact hr.env d _ he
  ·rw [Env.get_cons_ne _ E e] at hu
   exact hr.env t u hu
 intro r a w hr
 cases hb : b with
 | true => exact ht hb r a w (key true hb r a w hr)
 | false => exact hf hb r a w (key false hb r a w hr)

/-! ### Operations that reckon -/
theorem QOp_move (x : Operand) (v : AV) (h : o.op = .move x) (he : evalO E x = some v) : QOp P n G o E H v :=
 fun r a w hr => ⟨a.eval x, evalO_sound hr he, fun w' _ => by simp [execOp, h]⟩
theorem QOp_assign (x : Operand) (v : AV) (h : o.op = .assign x) (he : evalO E x = some v) : QOp P n G o E H v :=
 fun r a w hr => ⟨a.eval x, evalO_sound hr he, fun w' _ => by simp [execOp, h]⟩
theorem QOp_pick_t (c x y : Operand) (v : AV) (h : o.op = .pick c x y) (hc : evalO E c = some (.d (.s (.bool true)))) (he : evalO E x = some v) : QOp P n G o E H v :=
 fun r a w hr => ⟨a.eval x, evalO_sound hr he, fun w' _ => by simp [execOp, h, evalO_s hr hc, asBool]⟩
theorem QOp_pick_f (c x y : Operand) (v : AV) (h : o.op = .pick c x y) (hc : evalO E c = some (.d (.s (.bool false)))) (he : evalO E y = some v) : QOp P n G o E H v :=
 fun r a w hr => ⟨a.eval y, evalO_sound hr he, fun w' _ => by simp [execOp, h, evalO_s hr hc, asBool]⟩

theorem QOp_bin (b : BinOp) (t t' : TypeId) (x y : Operand) (u v z : Value) (h : o.op = .binOp b t x y t') (hx : evalO E x = some (.d (.s u))) (hy : evalO E y = some (.d (.s v)))
  (hrun : ∀ w, ((do eqGuard b t x y u v; binOp b t u v : Sem Value)).run P w = .ok z w) : QOp P n G o E H (.d (.s z)) :=
 fun r a w hr => ⟨z, .d _ _ (.s z), fun w' _ => by
  have e : execOp a.eval o = (do pure (.value (← (do eqGuard b t x y u v; binOp b t u v : Sem Value)))) := by
   simp only [execOp, h, evalO_s hr hx, evalO_s hr hy]
  rw [e, Sem.run_bind, hrun w']; rfl⟩

section
variable (t t' : TypeId) (x y : Operand) (k : IntKind) (p q : Int)
theorem QOp_add (h : o.op = .binOp .add t x y t') (hx : evalO E x = some (.d (.s (.int k p)))) (hy : evalO E y = some (.d (.s (.int k q)))) : QOp P n G o E H (.d (.s (.int k (k.wrap (p + q))))) :=
 QOp_bin .add t t' x y _ _ _ h hx hy fun w => by simp [eqGuard_add, binOp_add, Op.intArith]
theorem QOp_sub (h : o.op = .binOp .sub t x y t') (hx : evalO E x = some (.d (.s (.int k p)))) (hy : evalO E y = some (.d (.s (.int k q)))) : QOp P n G o E H (.d (.s (.int k (k.wrap (p - q))))) :=
 QOp_bin .sub t t' x y _ _ _ h hx hy fun w => by simp [eqGuard_sub, binOp_sub, Op.intArith]
theorem QOp_mul (h : o.op = .binOp .mul t x y t') (hx : evalO E x = some (.d (.s (.int k p)))) (hy : evalO E y = some (.d (.s (.int k q)))) : QOp P n G o E H (.d (.s (.int k (k.wrap (p * q))))) :=
 QOp_bin .mul t t' x y _ _ _ h hx hy fun w => by simp [eqGuard_mul, binOp_mul, Op.intArith]
theorem QOp_quo (hq : q ≠ 0) (h : o.op = .binOp .quo t x y t') (hx : evalO E x = some (.d (.s (.int k p)))) (hy : evalO E y = some (.d (.s (.int k q)))) : QOp P n G o E H (.d (.s (.int k (k.wrap (p.tdiv q))))) :=
 QOp_bin .quo t t' x y _ _ _ h hx hy fun w => by simp [eqGuard_quo, binOp_quo, Op.intDiv, hq]
theorem QOp_rem (hq : q ≠ 0) (h : o.op = .binOp .rem t x y t') (hx : evalO E x = some (.d (.s (.int k p)))) (hy : evalO E y = some (.d (.s (.int k q)))) : QOp P n G o E H (.d (.s (.int k (p.tmod q)))) :=
 QOp_bin .rem t t' x y _ _ _ h hx hy fun w => by simp [eqGuard_rem, binOp_rem, Op.intDiv, hq]
def bAnd (k : IntKind) (p q : Int) : Int := k.wrap (BitVec.ofInt k.bits p &&& BitVec.ofInt k.bits q).toNat
def bOr (k : IntKind) (p q : Int) : Int := k.wrap (BitVec.ofInt k.bits p ||| BitVec.ofInt k.bits q).toNat
def bXor (k : IntKind) (p q : Int) : Int := k.wrap (BitVec.ofInt k.bits p ^^^ BitVec.ofInt k.bits q).toNat
def bShl (k : IntKind) (p q : Int) : Int := k.wrap (p * 2 ^ (min q.toNat k.bits))
def bShr (k : IntKind) (p q : Int) : Int := p.fdiv (2 ^ (min q.toNat k.bits))
theorem QOp_and (h : o.op = .binOp .and t x y t') (hx : evalO E x = some (.d (.s (.int k p)))) (hy : evalO E y = some (.d (.s (.int k q)))) : QOp P n G o E H (.d (.s (.int k (bAnd k p q)))) :=
 QOp_bin .and t t' x y _ _ _ h hx hy fun w => by simp [eqGuard_and, binOp_and, Op.intBits, bAnd]
theorem QOp_or (h : o.op = .binOp .or t x y t') (hx : evalO E x = some (.d (.s (.int k p)))) (hy : evalO E y = some (.d (.s (.int k q)))) : QOp P n G o E H (.d (.s (.int k (bOr k p q)))) :=
 QOp_bin .or t t' x y _ _ _ h hx hy fun w => by simp [eqGuard_or, binOp_or, Op.intBits, bOr]
theorem QOp_xor (h : o.op = .binOp .xor t x y t') (hx : evalO E x = some (.d (.s (.int k p)))) (hy : evalO E y = some (.d (.s (.int k q)))) : QOp P n G o E H (.d (.s (.int k (bXor k p q)))) :=
 QOp_bin .xor t t' x y _ _ _ h hx hy fun w => by simp [eqGuard_xor, binOp_xor, Op.intBits, bXor]
theorem QOp_shl (yk : IntKind) (hq : 0 ≤ q) (h : o.op = .binOp .shl t x y t') (hx : evalO E x = some (.d (.s (.int k p)))) (hy : evalO E y = some (.d (.s (.int yk q)))) : QOp P n G o E H (.d (.s (.int k (bShl k p q)))) :=
 QOp_bin .shl t t' x y _ _ _ h hx hy fun w => by simp [eqGuard_shl, binOp_shl, Op.shift, bShl, Int.not_lt.2 hq]
theorem QOp_shr (yk : IntKind) (hq : 0 ≤ q) (h : o.op = .binOp .shr t x y t') (hx : evalO E x = some (.d (.s (.int k p)))) (hy : evalO E y = some (.d (.s (.int yk q)))) : QOp P n G o E H (.d (.s (.int k (bShr k p q)))) :=
 QOp_bin .shr t t' x y _ _ _ h hx hy fun w => by simp [eqGuard_shr, binOp_shr, Op.shift, bShr, Int.not_lt.2 hq]
theorem QOp_eql (h : o.op = .binOp .eql t x y t') (hx : evalO E x = some (.d (.s (.int k p)))) (hy : evalO E y = some (.d (.s (.int k q)))) : QOp P n G o E H (.d (.s (.bool (decide (p = q))))) :=
 QOp_bin .eql t t' x y _ _ _ h hx hy fun w => by simp [eqGuard_at_int, binOp_eql]; rfl
theorem QOp_neq (h : o.op = .binOp .neq t x y t') (hx : evalO E x = some (.d (.s (.int k p)))) (hy : evalO E y = some (.d (.s (.int k q)))) : QOp P n G o E H (.d (.s (.bool (!decide (p = q))))) :=
 QOp_bin .neq t t' x y _ _ _ h hx hy fun w => by simp [eqGuard_at_int, binOp_neq, bne]; rfl
theorem QOp_lss (h : o.op = .binOp .lss t x y t') (hx : evalO E x = some (.d (.s (.int k p)))) (hy : evalO E y = some (.d (.s (.int k q)))) : QOp P n G o E H (.d (.s (.bool (decide (p < q))))) :=
 QOp_bin .lss t t' x y _ _ _ h hx hy fun w => by simp [eqGuard_lss, binOp_lss]
theorem QOp_leq (h : o.op = .binOp .leq t x y t') (hx : evalO E x = some (.d (.s (.int k p)))) (hy : evalO E y = some (.d (.s (.int k q)))) : QOp P n G o E H (.d (.s (.bool (decide (p ≤ q))))) :=
 QOp_bin .leq t t' x y _ _ _ h hx hy fun w => by simp [eqGuard_leq, binOp_leq]
theorem QOp_gtr (h : o.op = .binOp .gtr t x y t') (hx : evalO E x = some (.d (.s (.int k p)))) (hy : evalO E y = some (.d (.s (.int k q)))) : QOp P n G o E H (.d (.s (.bool (decide (q < p))))) :=
 QOp_bin .gtr t t' x y _ _ _ h hx hy fun w => by simp [eqGuard_gtr, binOp_gtr]
theorem QOp_geq (h : o.op = .binOp .geq t x y t') (hx : evalO E x = some (.d (.s (.int k p)))) (hy : evalO E y = some (.d (.s (.int k q)))) : QOp P n G o E H (.d (.s (.bool (decide (q ≤ p))))) :=
 QOp_bin .geq t t' x y _ _ _ h hx hy fun w => by simp [eqGuard_geq, binOp_geq]
end

theorem QOp_not (t : TypeId) (x : Operand) (b : Bool) (h : o.op = .unOp .not t x) (hx : evalO E x = some (.d (.s (.bool b)))) : QOp P n G o E H (.d (.s (.bool !b))) :=
 fun r a w hr => ⟨_, .d _ _ (.s _), fun w' _ => by simp [execOp, h, evalO_s hr hx, Op.unary]⟩
end
end Go.Proofs.YtldgmcghdohmeaaGreat.Ab
