/- Own library, part 18: texts out of bytes, bytes of texts. No conditions. -/
import Derived.Test.YtldgmcghdohmeaaAb17
import Derived.Laws.BytesArg
set_option linter.unusedVariables false
set_option linter.unusedSimpArgs false
namespace Go.Proofs.Ytldgmcghdohmeaa.Ab
open Go Go.RowKit

section
variable {P : Program} {n : Nat} {G : Ctx} {E : Env} {H : List AObj} {ops : Array Oper} {rest : List Oper} {o : Oper} {K : Env → List AObj → Prop}

theorem RepL.bytes {w : World} {I : Nat → Prop} {l : List UInt8} {vs : List Value} (h : RepL w I (bysD l) vs) : vs = l.map fun b => Value.int .u8 (b.toNat : Int) := by
  refine List.ext_getElem? fun i => ?_
  rw [List.getElem?_map]
  cases hc : l[i]? with
  | none =>
    have h1 : l.length ≤ i := List.getElem?_eq_none_iff.1 hc
    rw [Option.map_none, List.getElem?_eq_none_iff, h.1, bysD_length]
    exact h1
  | some b =>
    have hd : (bysD l)[i]? = some (uD b) := by unfold bysD; rw [List.getElem?_map, hc]; rfl
    obtain ⟨v, hv, hr⟩ := h.get hd
    rw [hv]
    cases hr
    rfl

end
end Go.Proofs.Ytldgmcghdohmeaa.Ab
