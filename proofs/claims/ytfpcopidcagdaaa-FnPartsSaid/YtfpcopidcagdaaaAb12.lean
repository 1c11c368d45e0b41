/- Own library, part 12: cuts, decided tests, elements of arrays by value. Conditions stand in each rule. -/
import Derived.Test.YtfpcopidcagdaaaAb11
set_option linter.unusedVariables false
set_option linter.unusedSimpArgs false
namespace Go.Proofs.Ytfpcopidcagdaaa.Ab
open Go Go.RowKit

section
variable {P : Program} {n : Nat} {G : Ctx} {E : Env} {H : List AObj} {Q : Exit → Env → List AObj → Prop} {o : Oper}

theorem ACode_seqJ {c d : Code} (J : Env → List AObj → Prop) (h1 : ACode P n G c E H (seqQ J Q)) (h2 : ∀ E' H', J E' H' → ACode P n G d E' H' Q) : ACode P n G (.seq c d) E H Q := by
  refine ACode_seq (ACode_mono h1 fun x E' H' q => ?_)
  cases x <;> first | exact h2 E' H' q | exact q

theorem ACode_condT {c : Operand} {x y : Code} (hc : evalO E c = some (.d (.s (.bool true)))) (h : ACode P n G x E H Q) : ACode P n G (.cond c x y) E H Q :=
  ACode_cond true hc (fun _ => h) (fun h => by cases h)
theorem ACode_condF {c : Operand} {x y : Code} (hc : evalO E c = some (.d (.s (.bool false)))) (h : ACode P n G y E H Q) : ACode P n G (.cond c x y) E H Q :=
  ACode_cond false hc (fun h => by cases h) (fun _ => h)

/-- An element of an array by value. -/
theorem QOp_index_agg (t e : TypeId) (x y : Operand) (m : Nat) (kd : IntKind) (cs : List D) (i : Int) (c : D) (h : o.op = .index t x y) (hu : P.underlying t = some (.array m e)) (hsz : ∀ w, (sizeOf e).run P w = .ok 1 w) (ha : ∀ w, (isAgg e).run P w = .ok false w)
    (h0 : 0 ≤ i) (h1 : i < (m : Int)) (hx : evalO E x = some (.d (.agg cs))) (hy : evalO E y = some (.d (.s (.int kd i)))) (hc : cs[i.toNat]? = some c) : QOp P n G o E H (.d c) := by
  intro r a w hr
  have hev := evalO_sound hr hx
  cases hev with
  | d _ _ hd =>
    generalize hv : a.eval x = v at hd
    cases hd with
    | agg _ vs hl hrep =>
      have hlt : i.toNat < vs.size := by rw [hl]; exact (List.getElem?_eq_some_iff.1 hc).1
      have e2 : vs[i.toNat]? = some vs[i.toNat] := Array.getElem?_eq_getElem hlt
      refine ⟨vs[i.toNat], .d _ _ (hrep i.toNat c _ hc e2), fun w' _ => ?_⟩
      simp [execOp, h, Instr.index, hv, evalO_s hr hy, asIntOf, run_underlying hu, h0, h1, hsz, part, ha, e2]

/-- A field of one cell of a struct by value. -/
theorem QOp_field_agg (t : TypeId) (x : Operand) (fi : Nat) (cs : List D) (k : Nat) (c : D) (fs : Array Field) (fd : Field) (h : o.op = .field t x fi) (hu : P.underlying t = some (.struct fs)) (hfd : fs[fi]? = some fd) (ha : ∀ w, (isAgg fd.type).run P w = .ok false w)
    (hk : fd.offset = k) (he : evalO E x = some (.d (.agg cs))) (hc : cs[k]? = some c) : QOp P n G o E H (.d c) := by
  intro r a w hr
  have hev := evalO_sound hr he
  cases hev with
  | d _ _ hd =>
    generalize hv : a.eval x = v at hd
    cases hd with
    | agg _ vs hl hrep =>
      have hlt : k < vs.size := by rw [hl]; exact (List.getElem?_eq_some_iff.1 hc).1
      have e2 : vs[k]? = some vs[k] := Array.getElem?_eq_getElem hlt
      refine ⟨vs[k], .d _ _ (hrep k c _ hc e2), fun w' _ => ?_⟩
      simp [execOp, h, Instr.field, hv, run_underlying hu, hfd, asAgg, part, ha, hk, e2]

def letO {α β : Type} (x : α) (f : α → β) : β := f x
theorem letS {α β : Type} {x : α} {f : α → β} {z : β} (h : letO x f = z) : ∃ t, x = t ∧ f t = z := ⟨x, rfl, h⟩
end


section
variable {P : Program} {n : Nat} {G : Ctx} {E : Env} {ops : Array Oper} {l : List Oper} {H : List AObj} {K : Env → List AObj → Prop}
theorem RepD.pvsub {w : World} {I : Nat → Prop} {cs cs' : List D} {off m : Nat} {v : Value} (h : RepD w I (.pv cs off) v) (hs : (cs.drop off).take m = cs') : RepD w I (.pv cs' 0) v := by
  subst hs
  cases h with
  | pv _ _ vs b base hl hI hcell hrep =>
    refine .pv _ 0 ((vs.drop off).take m) b (base + off) (by simp [hl]) hI (fun i v hv => ?_) (fun i c v hc hv => ?_)
    · rw [List.getElem?_take] at hv
      split at hv
      · rw [List.getElem?_drop] at hv
        have := hcell _ _ hv
        rwa [show base + off + i = base + (off + i) by omega]
      · cases hv
    · rw [List.getElem?_take] at hv hc
      split at hv
      · rename_i hi
        rw [if_pos hi, List.getElem?_drop] at hc
        rw [List.getElem?_drop] at hv
        exact hrep _ _ _ hc hv
      · cases hv
theorem Rel.pvsub {r : List Nat} {a : Act} {w : World} {t : Nat} {cs cs' : List D} {off m : Nat} (he : E.get t = some (.d (.pv cs off))) (hs : (cs.drop off).take m = cs') (hr : Rel n G E H r a w) : Rel n G ((t, .d (.pv cs' 0)) :: E) H r a w := by
  refine ⟨hr.size, hr.defers, fun k u hu => ?_, hr.heap, hr.step⟩
  by_cases e : t = k
  · subst e
    rw [Env.get_cons_self] at hu
    cases hu
    obtain ⟨x, hx, hv⟩ := hr.env t _ he
    refine ⟨x, hx, ?_⟩
    cases hv with
    | d _ _ hd => exact .d _ _ (hd.pvsub hs)
  · rw [Env.get_cons_ne _ E e] at hu
    exact hr.env k u hu
/-- A pointer into something that stays as it is, seen as a pointer to a part of it. -/
theorem AOps_pvsub (t : Nat) (cs : List D) (off m : Nat) (cs' : List D) (he : E.get t = some (.d (.pv cs off))) (hs : (cs.drop off).take m = cs') (h : AOps P n G ops l ((t, .d (.pv cs' 0)) :: E) H K) : AOps P n G ops l E H K :=
  fun r a w hr => h r a w (hr.pvsub he hs)
theorem AQ_pvsub {KQ : Env → Prop} (t : Nat) (cs : List D) (off m : Nat) (cs' : List D) (he : E.get t = some (.d (.pv cs off))) (hs : (cs.drop off).take m = cs') (h : AQ P n G ops l ((t, .d (.pv cs' 0)) :: E) H KQ) : AQ P n G ops l E H KQ :=
  fun r a w hr => h r a w (hr.pvsub he hs)
/-- A state under another name. -/
theorem AOps_as (d : Nat) {v v' : AV} {H' : List AObj} (hv : v = v') (hH : H = H') (h : AOps P n G ops l ((d, v') :: E) H' K) : AOps P n G ops l ((d, v) :: E) H K := by
  subst hv hH; exact h
end
end Go.Proofs.Ytfpcopidcagdaaa.Ab
