/- Own library, part 30: what is not nil; a buffer's list becomes an owned slice; a result that is a buffer's list or nil. No conditions. -/
import Derived.Test.YtghhnpdhehjlaaaAb29
import Derived.Test.YtghhnpdhehjlaaaAb24
import Derived.Test.YtghhnpdhehjlaaaCol
import Derived.Laws.Cover3
set_option linter.unusedVariables false
set_option linter.unusedSimpArgs false
namespace Go.Proofs.Ytghhnpdhehjlaaa.Ab
open Go Go.RowKit

theorem ints_take (xs : List Int) (n : Nat) : (intsD xs).take n = intsD (xs.take n) := by simp [intsD, List.map_take]

/-- A buffer's list, or nil. -/
def bufA (o : Nat) : Option Nat → AV
  | none => .d (.sl (some true) [])
  | some n => .part o 0 0 n

section
variable {P : Program} {n : Nat} {G : Ctx} {o : Oper} {E : Env} {H : List AObj}
theorem QOp_isnilN (t e t' : TypeId) (x y : Operand) (b : Bool) (cs : List D) (h : o.op = .binOp .neq t x y t') (hx : evalO E x = some (.d (.sl (some b) cs))) (hy : y = .const (.slice none 0 0)) (hu : P.underlying t = some (.slice e)) : QOp P n G o E H (.d (.s (.bool (!b)))) := by
  intro r a w hr
  refine ⟨.bool (!b), .d _ _ (.s _), fun w' _ => ?_⟩
  have hev := evalO_sound hr hx
  cases hev with
  | d _ _ hd =>
    generalize hv : a.eval x = v at hd
    cases hd with
    | sl _ _ vs A cap hl hn hc hA hrep =>
      have hb := hn b rfl
      have hy2 : a.eval y = .slice none 0 0 := by rw [hy]; rfl
      simp only [execOp, h, hv, hy2]
      have h1 := Go.run_neq_slice_nil (P := P) (w := w') t e A cs.length cap hu
      rw [hb] at h1
      simp [eqGuard_at_slice, h1]
theorem QOp_vecnilN (t e t' : TypeId) (x y : Operand) (k g : Nat) (cs : List D) (h : o.op = .binOp .neq t x y t') (hx : evalO E x = some (.vec k g)) (hk : H[k]? = some (.vec g cs)) (hy : y = .const (.slice none 0 0)) (hu : P.underlying t = some (.slice e)) : QOp P n G o E H (.d (.s (.bool true))) := by
  intro r a w hr
  refine ⟨.bool true, .d _ _ (.s _), fun w' _ => ?_⟩
  have hev := evalO_sound hr hx
  obtain ⟨b, hb⟩ := hr.heap.blk hk
  cases hev with
  | vec _ _ _ ho hp =>
    obtain ⟨cap, vs, ty, e1, _, _⟩ := (hp g cs b hk hb).2 rfl
    have hy2 : a.eval y = .slice none 0 0 := by rw [hy]; rfl
    simp only [execOp, h, e1, hy2]
    have h1 := Go.run_neq_slice_nil (P := P) (w := w') t e (some ⟨b, 0, none⟩) cs.length cap hu
    simp [eqGuard_at_slice, h1]
theorem QOp_partnilN (t e t' : TypeId) (x y : Operand) (k g lo m : Nat) (cs : List D) (h : o.op = .binOp .neq t x y t') (hx : evalO E x = some (.part k g lo m)) (hk : H[k]? = some (.vec g cs)) (hy : y = .const (.slice none 0 0)) (hu : P.underlying t = some (.slice e)) : QOp P n G o E H (.d (.s (.bool true))) := by
  intro r a w hr
  refine ⟨.bool true, .d _ _ (.s _), fun w' _ => ?_⟩
  have hev := evalO_sound hr hx
  obtain ⟨b, hb⟩ := hr.heap.blk hk
  cases hev with
  | part _ _ _ _ _ ho hp =>
    obtain ⟨_, vs, ty, l, c, e1, _, _⟩ := (hp g cs b hk hb).2 rfl
    have hy2 : a.eval y = .slice none 0 0 := by rw [hy]; rfl
    simp only [execOp, h, e1, hy2]
    have h1 := Go.run_neq_slice_nil (P := P) (w := w') t e (some ⟨b, l, none⟩) m c hu
    simp [eqGuard_at_slice, h1]
end

section
variable {P : Program} {n : Nat} {G : Ctx} {E : Env} {H : List AObj} {w : World} {r : List Nat} {a : Act}
/-- A buffer's list is all that there is of it. -/
theorem Weak_shrink (t o g m : Nat) (cs cs' : List D) (he : E.get t = some (.part o g 0 m)) (hH : H[o]? = some (.vec g cs)) (hm : m ≤ cs.length) (h0 : 0 < cs.length) (hcs : cs.take m = cs') : Weak n G E H ((t, .vec o (g + 1)) :: E) (H.set o (.vec (g + 1) cs')) := by
  subst hcs
  intro r a w hr
  have ho := (List.getElem?_eq_some_iff.1 hH).1
  have get : ∀ {o' : Nat} {x : AObj}, (H.set o (.vec (g + 1) (cs.take m)))[o']? = some x → (o = o' ∧ x = .vec (g + 1) (cs.take m)) ∨ (o ≠ o' ∧ H[o']? = some x) := fun h => by
    rw [List.getElem?_set] at h
    split at h
    · rename_i e; exact .inl ⟨e, by simpa using h.symm⟩
    · rename_i hne; exact .inr ⟨hne, h⟩
  have hst : Step w H r w (H.set o (.vec (g + 1) (cs.take m))) r := by
    refine ⟨rfl, rfl, rfl, Nat.le_refl _, fun b hb => ⟨rfl, hb.1, fun o' x h1 h2 => ?_⟩, by simp, fun o' x' b' _ h1 h2 h3 => ?_, fun o' g' cs' b' _ h1 h2 => ?_⟩
    · rcases get h1 with ⟨rfl, rfl⟩ | ⟨_, h⟩
      · exact hb.2 o _ hH rfl
      · exact hb.2 o' x h h2
    · rcases get h1 with ⟨rfl, rfl⟩ | ⟨_, h⟩
      · simp [AObj.fixed] at h3
      · exact ⟨x', h, h2, h3⟩
    · rcases get h1 with ⟨rfl, e⟩ | ⟨_, h⟩
      · cases e
        exact ⟨g, cs, b', hH, h2, .inl (by omega)⟩
      · exact ⟨g', cs', b', h, h2, .inr ⟨rfl, rfl, rfl, fun vs ty hv => ⟨vs, ty, hv, rfl⟩⟩⟩
  have himm : ∀ b, imm G.F w H r b → w.heap[b]? = w.heap[b]? ∧ imm G.F w (H.set o (.vec (g + 1) (cs.take m))) r b := fun b hb => ⟨rfl, hst.imm b hb |>.2⟩
  refine ⟨r, hr.size, hr.defers, fun k u hu => ?_, ⟨by simp [hr.heap.len], fun o1 o2 x x' b h1 l1 h2 l2 e1 e2 => ?_, fun o1 x b h1 h2 => ?_, fun o1 x b h1 h2 h3 => ?_, hr.heap.fin⟩, hr.step.trans hst⟩
  · by_cases e : t = k
    · subst e
      rw [Env.get_cons_self] at hu
      cases hu
      obtain ⟨x, hx, hv⟩ := hr.env t _ he
      refine ⟨x, hx, ?_⟩
      cases hv with
      | part _ _ _ _ _ ho' hp =>
        refine .vec _ _ _ (by simpa using ho) fun g' cs' b h1 h2 => ?_
        rcases get h1 with ⟨_, e⟩ | ⟨hne, _⟩
        · cases e
          obtain ⟨_, vs, ty, l, c, e1, e2, e3⟩ := (hp g cs b hH h2).2 rfl
          have hO := hr.heap.obj o _ b hH h2
          cases hO with
          | vec _ _ vs2 ty2 hb2 hc2 hm2 hl2 =>
            have : vs2 = vs := by rw [hb2] at e2; cases e2; rfl
            subst this
            obtain ⟨rfl, rfl⟩ := e3 (by omega)
            refine ⟨Nat.le_refl _, fun _ => ⟨vs2.size - 0, vs2, ty, ?_, e2, by omega⟩⟩
            rw [e1, List.length_take, Nat.min_eq_left hm]
        · exact absurd rfl hne
    · rw [Env.get_cons_ne _ E e] at hu
      obtain ⟨y, hy, hv'⟩ := hr.env k u hu
      exact ⟨y, hy, hv'.step hst⟩
  · rcases get h1 with ⟨rfl, rfl⟩ | ⟨_, k1⟩ <;> rcases get h2 with ⟨rfl, rfl⟩ | ⟨_, k2⟩
    · rfl
    · exact hr.heap.inj o o2 _ x' b hH rfl k2 l2 e1 e2
    · exact hr.heap.inj o1 o x _ b k1 l1 hH rfl e1 e2
    · exact hr.heap.inj o1 o2 x x' b k1 l1 k2 l2 e1 e2
  · rcases get h1 with ⟨rfl, rfl⟩ | ⟨_, k1⟩
    · have hO := hr.heap.obj o _ b hH h2
      cases hO with
      | vec _ _ vs ty hb hc hm' hl =>
        refine .vec (g + 1) _ vs ty hb (by simp; omega) hm' ?_
        have := (hl.take m).mono himm
        rw [List.take_take] at this
        simpa using this
    · have hO := hr.heap.obj o1 x b k1 h2
      cases hO with
      | gone => exact .gone
      | mp v I c hv hb hI0 => exact .mp v I c hv hb hI0
      | box cs vs ty hb hl => exact .box cs vs ty hb (hl.mono himm)
      | ref v z ty hb hl => exact .ref v z ty hb (hl.step hst)
      | vec g cs vs ty hb hc hm hl => exact .vec g cs vs ty hb hc hm (hl.mono himm)
  · rcases get h1 with ⟨rfl, rfl⟩ | ⟨_, k1⟩
    · exact hr.heap.notF o _ b hH rfl h3
    · exact hr.heap.notF o1 x b k1 h2 h3

end
end Go.Proofs.Ytghhnpdhehjlaaa.Ab
