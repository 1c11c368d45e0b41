/- Own library, part 13: rows whose order Go leaves open and in which several operations make new memory: one walk for each order of these; what only reads is taken first. No conditions. -/
import Derived.Test.YtldgmcghdohmeaaAb12
set_option linter.unusedVariables false
set_option linter.unusedSimpArgs false
namespace Go.Proofs.Ytldgmcghdohmeaa.Ab
open Go Go.RowKit

section
variable {P : Program} {ops : Array Oper} {Q : Exit → Act → World → Prop}

theorem below_trans {w w' w'' : World} (h : Below w.heap.size w w') (k : Below w'.heap.size w' w'') : Below w.heap.size w w'' := h.trans (k.mono h.size)

/-- An operation that yields v in every later world and leaves what is there as it is. -/
def YB (P : Program) (ops : Array Oper) (o : Oper) (v : Value) (a : Act) (w : World) : Prop :=
  (Region.wanted o (yielded ops a.tmps) = true ∧ ∀ w', Below w.heap.size w w' → o.quietAt P a (Below w'.heap.size w') w' v) ∨
  (Region.wanted o (yielded ops a.tmps) = false ∧ v = undef)

theorem YB.up {o : Oper} {v : Value} {a : Act} {w w' : World} (h : YB P ops o v a w) (hb : Below w.heap.size w w') : YB P ops o v a w' := by
  rcases h with ⟨h1, h2⟩ | h
  · exact .inl ⟨h1, fun w1 h => h2 w1 (below_trans hb h)⟩
  · exact .inr h

theorem YB.of_same {o : Oper} {v : Value} {a a' : Act} {w : World} (hy : YB P ops o v a w) (he : execOp a'.eval o = execOp a.eval o)
    (hw : Region.wanted o (yielded ops a'.tmps) = Region.wanted o (yielded ops a.tmps)) : YB P ops o v a' w := by
  unfold YB Oper.quietAt at *
  rw [he, hw]
  exact hy

theorem YB.wpOp {i : Nat} {o : Oper} {v : Value} {a : Act} {w : World} (hi : ops[i]? = some o) (hy : YB P ops o v a w)
    {K : Act → World → Prop} (h : ∀ w', Below w.heap.size w w' → K (a.put o.dst v) w') : wpOp P ops Q i K a w := by
  unfold Go.wpOp
  simp only [hi]
  rcases hy with ⟨hw, hv⟩ | ⟨hw, rfl⟩
  · simp only [hw, if_true]
    left
    have h3 := hv w (Below.refl _ _)
    unfold Oper.quietAt at h3
    unfold Oper.wp
    generalize (execOp a.eval o).run P w = r at *
    cases r with
    | ok n w' =>
      cases n <;> simp only [Oper.quietUpon] at h3 <;> simp only [Oper.upon]
      case value u =>
        obtain ⟨rfl, rfl⟩ := h3
        exact h _ (Below.refl _ _)
      case skip =>
        obtain ⟨rfl, rfl⟩ := h3
        exact h _ (Below.refl _ _)
      case enter f args =>
        obtain ⟨rfl, h4⟩ := h3
        refine Calls.mono h4 ?_
        rintro e w'' ⟨rfl, hb⟩
        exact h _ hb
    | halt x w' => exact h3.elim
  · simp only [hw, Bool.false_eq_true, if_false]; exact h _ (Below.refl _ _)

end

section
variable {P : Program} {n : Nat} {G : Ctx} {ops : Array Oper} {f : Nat} {listed : Array Bool} {E : Env} {H : List AObj} {K : Env → List AObj → Prop} {o : Oper}

def postQ (n : Nat) (G : Ctx) (K : Env → List AObj → Prop) : Exit → Act → World → Prop := fun x a' w' => x = .normal ∧ ∃ E' H' r', K E' H' ∧ Rel n G E' H' r' a' w'
theorem postQ_panic (n : Nat) (G : Ctx) (K : Env → List AObj → Prop) (c) (a : Act) (w : World) : ¬ postQ n G K (.panic c) a w := fun h => by cases h.1

end
end Go.Proofs.Ytldgmcghdohmeaa.Ab
