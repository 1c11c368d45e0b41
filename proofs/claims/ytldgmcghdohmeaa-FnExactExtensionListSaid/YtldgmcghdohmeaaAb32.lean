/- Own library, part 32: a slice that is the whole of a block from its first place on, as data: an owned slice becomes such data, and such data are slices. No conditions. -/
import Derived.Test.YtldgmcghdohmeaaAb24
set_option linter.unusedVariables false
set_option linter.unusedSimpArgs false
namespace Go.Proofs.Ytldgmcghdohmeaa.Ab
open Go Go.RowKit

theorem freeze_ru {F : Nat → Prop} {w : World} {H : List AObj} {r : List Nat} {o g : Nat} {cs : List D} {x : Value} (hh : HRel F w H r) (hH : H[o]? = some (.vec g cs)) (hv : RepV F w H r (.vec o g) x) : RepV F w (H.set o .gone) r (.d (.ru cs)) x := by
  have hst : Step w H r w (H.set o .gone) r := step_gone o
  obtain ⟨b, hb⟩ := hh.blk hH
  cases hv with
  | vec _ _ _ ho hp =>
    obtain ⟨cap, vs, ty, e1, e2, e3⟩ := (hp g cs b hH hb).2 rfl
    have hO := hh.obj o _ b hH hb
    cases hO with
    | vec _ _ vs' ty' hb' hc hm hl =>
      have : vs' = vs := by rw [hb'] at e2; cases e2; rfl
      subst this
      subst e1
      subst e3
      have hI : imm F w (H.set o .gone) r b := by
        refine ⟨⟨(Array.getElem?_eq_some_iff.1 hb').1, fun o' x h1 h2 h3 => ?_⟩, hh.notF o _ b hH rfl hb⟩
        rcases get_gone h1 with rfl | ⟨hne, k1⟩
        · simp [AObj.live] at h2
        · exact hne (hh.inj o o' _ x b hH rfl k1 h2 hb h3)
      exact .d _ _ (.ru cs vs' ty' b hI hb' hc hm (hl.mono hst.imm).2)

section
variable {P : Program} {n : Nat} {G : Ctx} {E : Env} {H : List AObj}
/-- An owned slice becomes data that is the whole of its block. -/
theorem Weak_frzU (t o g : Nat) (cs : List D) (he : E.get t = some (.vec o g)) (hH : H[o]? = some (.vec g cs)) : Weak n G E H ((t, .d (.ru cs)) :: E) (H.set o .gone) := by
  intro r a w hr
  have hst : Step w H r w (H.set o .gone) r := step_gone o
  refine ⟨r, hr.size, hr.defers, fun k u hu => ?_, hrel_gone o hr.heap, hr.step.trans hst⟩
  by_cases e : t = k
  · subst e
    rw [Env.get_cons_self] at hu
    cases hu
    obtain ⟨x, hx, hv⟩ := hr.env t _ he
    exact ⟨x, hx, freeze_ru hr.heap hH hv⟩
  · rw [Env.get_cons_ne _ E e] at hu
    obtain ⟨x, hx, hv⟩ := hr.env k u hu
    exact ⟨x, hx, hv.step hst⟩
end

def inU (l : List Int) : D := .ru (intsD l)
def rowsU (l : List (List Int)) : List D := l.map inU
theorem rowsU_length (l : List (List Int)) : (rowsU l).length = l.length := by simp [rowsU]
theorem rowsU_one (l : List (List Int)) : ∀ c ∈ rowsU l, c.one = true := by
  intro c hc
  obtain ⟨x, _, rfl⟩ := List.mem_map.1 hc
  rfl
theorem rowsU_app (l m : List (List Int)) : rowsU l ++ rowsU m = rowsU (l ++ m) := by simp [rowsU]
end Go.Proofs.Ytldgmcghdohmeaa.Ab
