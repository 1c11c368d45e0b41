/- Own library, part 14: strings and slices that are compared. No conditions. -/
import Derived.Test.YtldgmcghdohmeaaGreatAb13
import Derived.Lib.SliceRun
import Derived.Laws.StructEq
set_option linter.unusedVariables false
set_option linter.unusedSimpArgs false
namespace Go.Proofs.YtldgmcghdohmeaaGreat.Ab
open Go Go.RowKit

section
variable {P : Program} {n : Nat} {G : Ctx} {E : Env} {H : List AObj} {o : Oper}

theorem QOp_seq (t t' : TypeId) (x y : Operand) (p q : ByteArray) (h : o.op = .binOp .eql t x y t') (hx : evalO E x = some (.d (.s (.string p)))) (hy : evalO E y = some (.d (.s (.string q)))) (hu : P.underlying t = some .string) : QOp P n G o E H (.d (.s (.bool (p == q)))) :=
 QOp_bin .eql t t' x y _ _ _ h hx hy fun w => by simp [eqGuard_at_string, binOp, Op.stringOp, beq_toListBytes]
/-- A slice of which it is known whether it is nil, held against nil. -/
theorem QOp_isnil (t e t' : TypeId) (x y : Operand) (b : Bool) (cs : List D) (h : o.op = .binOp .eql t x y t') (hx : evalO E x = some (.d (.sl (some b) cs))) (hy : y = .const (.slice none 0 0)) (hu : P.underlying t = some (.slice e)) : QOp P n G o E H (.d (.s (.bool b))) := by
 intro r a w hr
 refine ⟨.bool b, .d _ _ (.s _), fun w' _ => ?_⟩
 have hev := evalO_sound hr hx
 cases hev with
 | d _ _ hd =>
  generalize hv : a.eval x = v at hd
  cases hd with
  | sl _ _ vs A cap hl hn hc hA hrep =>
   have hb := hn b rfl
   have hy2 : a.eval y = .slice none 0 0 := by rw [hy]; rfl
   simp only [execOp, h, hv, hy2]
   have h1 := Go.Lib.run_eql_slice_nil (P := P) w' t e A cs.length cap 0 0 hu
   rw [hb] at h1
   simp [eqGuard_at_slice, h1]
end

/-! ### What is owned becomes data -/
section
variable {P : Program} {n : Nat} {G : Ctx} {E : Env} {H : List AObj} {ops : Array Oper} {l : List Oper} {K : Env → List AObj → Prop} {F : Nat → Prop} {w : World} {r : List Nat} {a : Act}

theorem get_gone {o o' : Nat} {x : AObj} (h : (H.set o .gone)[o']? = some x) : (x = .gone) ∨ (o ≠ o' ∧ H[o']? = some x) := by
 rw [List.getElem?_set] at h
 split at h
 ·split at h
  ·cases h; exact .inl rfl
  ·cases h
 ·rename_i hne
  exact .inr ⟨hne, h⟩

theorem step_gone (o : Nat) : Step w H r w (H.set o .gone) r := by
 refine ⟨rfl, rfl, rfl, Nat.le_refl _, fun b hb => ⟨rfl, hb.1, fun o' x h1 h2 => ?_⟩, by simp, fun o' x' b' _ h1 h2 h3 => ?_, fun o' g' cs' b' _ h1 h2 => ?_⟩
 ·rcases get_gone h1 with rfl | ⟨_, h⟩
  ·simp [AObj.live] at h2
  ·exact hb.2 o' x h h2
 ·rcases get_gone h1 with rfl | ⟨_, h⟩
  ·simp [AObj.fixed] at h3
  ·exact ⟨x', h, h2, h3⟩
 ·rcases get_gone h1 with h | ⟨_, h⟩
  ·cases h
  ·exact ⟨g', cs', b', h, h2, .inr ⟨rfl, rfl, rfl, fun vs ty hv => ⟨vs, ty, hv, rfl⟩⟩⟩

theorem hrel_gone (o : Nat) (hh : HRel F w H r) : HRel F w (H.set o .gone) r := by
 have hst : Step w H r w (H.set o .gone) r := step_gone o
 refine ⟨by simp [hh.len], fun o1 o2 x x' b h1 l1 h2 l2 e1 e2 => ?_, fun o1 x b h1 h2 => ?_, fun o1 x b h1 h2 h3 => ?_, hh.fin⟩
 ·rcases get_gone h1 with rfl | ⟨_, k1⟩
  ·simp [AObj.live] at l1
  ·rcases get_gone h2 with rfl | ⟨_, k2⟩
   ·simp [AObj.live] at l2
   ·exact hh.inj o1 o2 x x' b k1 l1 k2 l2 e1 e2
 ·rcases get_gone h1 with rfl | ⟨_, k1⟩
  ·exact .gone
  ·have hO := hh.obj o1 x b k1 h2
   cases hO with
   | gone => exact .gone
   | mp v I c hv hb hI0 => exact .mp v I c hv hb hI0
   | box cs vs ty hb hl => exact .box cs vs ty hb (hl.mono hst.imm)
   | ref v z ty hb hl => exact .ref v z ty hb (hl.step hst)
   | vec g cs vs ty hb hc hm hl => exact .vec g cs vs ty hb hc hm (hl.mono hst.imm)
 ·rcases get_gone h1 with rfl | ⟨_, k1⟩
  ·simp [AObj.live] at h2
  ·exact hh.notF o1 x b k1 h2 h3

/-- An owned slice becomes data; nothing may write it any more. -/
theorem AOps_freeze (t o g : Nat) (cs : List D) (he : E.get t = some (.vec o g)) (hH : H[o]? = some (.vec g cs)) (h : AOps P n G ops l ((t, .d (.sl none cs)) :: E) (H.set o .gone) K) : AOps P n G ops l E H K := by
 intro r a w hr
 have hst : Step w H r w (H.set o .gone) r := step_gone o
 refine h r a w ⟨hr.size, hr.defers, fun k u hu => ?_, hrel_gone o hr.heap, hr.step.trans hst⟩
 by_cases e : t = k
 ·subst e
  rw [Env.get_cons_self] at hu
  cases hu
  obtain ⟨x, hx, hv⟩ := hr.env t _ he
  refine ⟨x, hx, ?_⟩
  obtain ⟨b, hb⟩ := hr.heap.blk hH
  cases hv with
  | vec _ _ _ ho hp =>
   obtain ⟨cap, vs, ty, e1, e2, e3⟩ := (hp g cs b hH hb).2 rfl
   have hO := hr.heap.obj o _ b hH hb
   cases hO with
   | vec _ _ vs' ty' hb' hc hm hl =>
    have : vs' = vs := by rw [hb'] at e2; cases e2; rfl
    subst this
    subst e1
    have hlen : (vs'.toList.take cs.length).length = cs.length := by simp; omega
    have hI : imm G.F w (H.set o .gone) r b := by
     refine ⟨⟨(Array.getElem?_eq_some_iff.1 hb').1, fun o' x h1 h2 h3 => ?_⟩, hr.heap.notF o _ b hH rfl hb⟩
     rcases get_gone h1 with rfl | ⟨hne, k1⟩
     ·simp [AObj.live] at h2
     ·exact hne (hr.heap.inj o o' _ x b hH rfl k1 h2 hb h3)
    refine .d _ _ (.sl none cs (vs'.toList.take cs.length) (some ⟨b, 0, none⟩) cap hlen (fun b hb => by cases hb) (by rw [e3]; exact hc) (fun _ => ⟨b, 0, rfl, hI, fun i v hv => ?_⟩) (fun i c v hc' hv' => ?_))
    ·rw [World.cell_block hb']
     rw [List.getElem?_take] at hv
     split at hv
     ·simpa using hv
     ·cases hv
    ·obtain ⟨v2, g1, g2⟩ := (hl.mono hst.imm).get hc'
     rw [g1] at hv'
     cases hv'
     exact g2
 ·rw [Env.get_cons_ne _ E e] at hu
  obtain ⟨x, hx, hv⟩ := hr.env k u hu
  exact ⟨x, hx, hv.step hst⟩

end
end Go.Proofs.YtldgmcghdohmeaaGreat.Ab
