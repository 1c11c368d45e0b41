/- Own library, part 12: cuts, decided tests, elements of arrays by value. Conditions stand in each rule. -/
import Derived.Test.YtldgmcghdohmeaaGreatAb11
set_option linter.unusedVariables false
set_option linter.unusedSimpArgs false
namespace Go.Proofs.YtldgmcghdohmeaaGreat.Ab
open Go Go.RowKit

section
variable {P : Program} {n : Nat} {G : Ctx} {E : Env} {H : List AObj} {Q : Exit → Env → List AObj → Prop} {o : Oper}

theorem ACode_seqJ {c d : Code} (J : Env → List AObj → Prop) (h1 : ACode P n G c E H (seqQ J Q)) (h2 : ∀ E' H', J E' H' → ACode P n G d E' H' Q) : ACode P n G (.seq c d) E H Q := by
 refine ACode_seq (ACode_mono h1 fun x E' H' q => ?_)
 cases x <;> first | exact h2 E' H' q | exact q

theorem ACode_condF {c : Operand} {x y : Code} (hc : evalO E c = some (.d (.s (.bool false)))) (h : ACode P n G y E H Q) : ACode P n G (.cond c x y) E H Q :=
 ACode_cond false hc (fun h => by cases h) (fun _ => h)

/-- An element of an array by value. -/
theorem QOp_index_agg (t e : TypeId) (x y : Operand) (m : Nat) (kd : IntKind) (cs : List D) (i : Int) (c : D) (h : o.op = .index t x y) (hu : P.underlying t = some (.array m e)) (hsz : ∀ w, (sizeOf e).run P w = .ok 1 w) (ha : ∀ w, (isAgg e).run P w = .ok false w)
  (h0 : 0 ≤ i) (h1 : i < (m : Int)) (hx : evalO E x = some (.d (.agg cs))) (hy : evalO E y = some (.d (.s (.int kd i)))) (hc : cs[i.toNat]? = some c) : QOp P n G o E H (.d c) := by
 intro r a w hr
 have hev := evalO_sound hr hx
 cases hev with
 | d _ _ hd =>
  generalize hv : a.eval x = v at hd
  cases hd with
  | agg _ vs hl hrep =>
   have hlt : i.toNat < vs.size := by rw [hl]; exact (List.getElem?_eq_some_iff.1 hc).1
   have e2 : vs[i.toNat]? = some vs[i.toNat] := Array.getElem?_eq_getElem hlt
   refine ⟨vs[i.toNat], .d _ _ (hrep i.toNat c _ hc e2), fun w' _ => ?_⟩
   simp [execOp, h, Instr.index, hv, evalO_s hr hy, asIntOf, run_underlying hu, h0, h1, hsz, part, ha, e2]

def letO {α β : Type} (x : α) (f : α → β) : β := f x
end

section
variable {P : Program} {n : Nat} {G : Ctx} {E : Env} {ops : Array Oper} {l : List Oper} {H : List AObj} {K : Env → List AObj → Prop}
/-- A state under another name. -/
theorem AOps_as (d : Nat) {v v' : AV} {H' : List AObj} (hv : v = v') (hH : H = H') (h : AOps P n G ops l ((d, v') :: E) H' K) : AOps P n G ops l ((d, v) :: E) H K := by
 subst hv hH; exact h
end
end Go.Proofs.YtldgmcghdohmeaaGreat.Ab
