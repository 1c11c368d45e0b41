/- Own library, part 14: strings and slices that are compared. No conditions. -/
import Derived.Test.YtjkanhdklfgghaaAb13
import Derived.Lib.SliceRun
import Derived.Laws.StructEq
set_option linter.unusedVariables false
set_option linter.unusedSimpArgs false
namespace Go.Proofs.Ytjkanhdklfgghaa.Ab
open Go Go.RowKit

section
variable {P : Program} {n : Nat} {G : Ctx} {E : Env} {H : List AObj} {o : Oper}

theorem equal_string (t : TypeId) (p q : ByteArray) (hu : P.underlying t = some .string) (w : World) : (Op.equal t (.string p) (.string q)).run P w = .ok (p == q) w := by
  have e : Op.maxDepth = 9999 + 1 := rfl
  unfold Op.equal
  rw [e, Op.equalIn]
  simp [run_underlying hu]
theorem QOp_seq (t t' : TypeId) (x y : Operand) (p q : ByteArray) (h : o.op = .binOp .eql t x y t') (hx : evalO E x = some (.d (.s (.string p)))) (hy : evalO E y = some (.d (.s (.string q)))) (hu : P.underlying t = some .string) : QOp P n G o E H (.d (.s (.bool (p == q)))) :=
  QOp_bin .eql t t' x y _ _ _ h hx hy fun w => by simp [eqGuard_at_string, binOp, Op.stringOp, beq_toListBytes]
theorem QOp_sneq (t t' : TypeId) (x y : Operand) (p q : ByteArray) (h : o.op = .binOp .neq t x y t') (hx : evalO E x = some (.d (.s (.string p)))) (hy : evalO E y = some (.d (.s (.string q)))) (hu : P.underlying t = some .string) : QOp P n G o E H (.d (.s (.bool (!(p == q))))) :=
  QOp_bin .neq t t' x y _ _ _ h hx hy fun w => by simp [eqGuard_at_string, binOp, Op.stringOp, beq_toListBytes]
theorem QOp_sadd (t t' : TypeId) (x y : Operand) (p q : ByteArray) (h : o.op = .binOp .add t x y t') (hx : evalO E x = some (.d (.s (.string p)))) (hy : evalO E y = some (.d (.s (.string q)))) (hs : p.size + q.size ≤ 1099511627776) : QOp P n G o E H (.d (.s (.string (p ++ q)))) :=
  QOp_bin .add t t' x y _ _ _ h hx hy fun w => by
    have : ¬ (((p.size + q.size : Nat) : Int) > IntKind.i64.max) := by simp [IntKind.max, IntKind.signed, IntKind.bits]; omega
    simp only [eqGuard_at_string, binOp, Op.stringOp, pure_bind]
    rw [if_neg this]; rfl

/-- A slice of which it is known whether it is nil, held against nil. -/
theorem QOp_isnil (t e t' : TypeId) (x y : Operand) (b : Bool) (cs : List D) (h : o.op = .binOp .eql t x y t') (hx : evalO E x = some (.d (.sl (some b) cs))) (hy : y = .const (.slice none 0 0)) (hu : P.underlying t = some (.slice e)) : QOp P n G o E H (.d (.s (.bool b))) := by
  intro r a w hr
  refine ⟨.bool b, .d _ _ (.s _), fun w' _ => ?_⟩
  have hev := evalO_sound hr hx
  cases hev with
  | d _ _ hd =>
    generalize hv : a.eval x = v at hd
    cases hd with
    | sl _ _ vs A cap hl hn hc hA hrep =>
      have hb := hn b rfl
      have hy2 : a.eval y = .slice none 0 0 := by rw [hy]; rfl
      simp only [execOp, h, hv, hy2]
      have h1 := Go.Lib.run_eql_slice_nil (P := P) w' t e A cs.length cap 0 0 hu
      rw [hb] at h1
      simp [eqGuard_at_slice, h1]
theorem QOp_vecnil (t e t' : TypeId) (x y : Operand) (k g : Nat) (cs : List D) (h : o.op = .binOp .eql t x y t') (hx : evalO E x = some (.vec k g)) (hk : H[k]? = some (.vec g cs)) (hy : y = .const (.slice none 0 0)) (hu : P.underlying t = some (.slice e)) : QOp P n G o E H (.d (.s (.bool false))) := by
  intro r a w hr
  refine ⟨.bool false, .d _ _ (.s _), fun w' _ => ?_⟩
  have hev := evalO_sound hr hx
  obtain ⟨b, hb⟩ := hr.heap.blk hk
  cases hev with
  | vec _ _ _ ho hp =>
    obtain ⟨cap, vs, ty, e1, _, _⟩ := (hp g cs b hk hb).2 rfl
    have hy2 : a.eval y = .slice none 0 0 := by rw [hy]; rfl
    simp only [execOp, h, e1, hy2]
    have h1 := Go.Lib.run_eql_slice_nil (P := P) w' t e (some ⟨b, 0, none⟩) cs.length cap 0 0 hu
    simp [eqGuard_at_slice, h1]
end
end Go.Proofs.Ytjkanhdklfgghaa.Ab
