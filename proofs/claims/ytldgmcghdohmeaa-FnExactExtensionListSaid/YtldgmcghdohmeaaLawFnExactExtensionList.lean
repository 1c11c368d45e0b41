/- The row FnExactExtensionList, from its plain law: own tool law.py. No conditions. -/
import Derived.Test.YtldgmcghdohmeaaRows
import Derived.Test.YtldgmcghdohmeaaRow
import Derived.Test.YtldgmcghdohmeaaPureExtList
namespace Go.Proofs.Ytldgmcghdohmeaa.fnExactExtensionList
open Go Go.Proofs.Ytldgmcghdohmeaa Go.ChangeShapes Go.WideShapes Go.ChangeAt Go.RowKit Ab
open Go.ChangeMaps (open_string shut_string)
set_option linter.unusedVariables false
theorem own : ownKnob Try.prog.godebug = none := by kernel_rfl
theorem laid : laidOutB Try.prog = true := by kernel_rfl
set_option maxRecDepth 100000 in
theorem lifted (pure : ∀ (p0 : Col) (p1 : List Int), p0.wf → ((∀ n ∈ p1, (Lit.int .i64 n).wf = true) ∧ p1.length ≤ maxLen) → AC Try.prog 3 [.d (.agg (colD p0)), .d (.sl none (intsD p1))] [] (fun res H' => res = [bV true] ∧ H' = [])) (os : Os) (started : os.Started) (H : Type) (enc : TypeId × Value → H) :
    ReturnsInHanded {} Try.checked os 3 .any (Rows.fnExactExtensionListSpec.pre6 enc Try.prog Try.f3 Rows.fnExactExtensionListRow.domain false) (Rows.fnExactExtensionListSpec.post enc Try.prog Try.f3 false true false false) := by
  refine returnsInHanded_of_change_sized (C := Try.checked) own started (by kernel_rfl) Try.func3
    (ChangeSpec.witness6 (enc := enc) (C := Try.checked) false ⟨#[], #[.agg (.int .i64 0 :: .int .i64 0 :: List.replicate 136 (.int .u8 0)).toArray, .slice none 0 0], []⟩ 8 (by kernel_rfl) (by kernel_rfl) (by kernel_rfl) (by kernel_rfl)) ?_
  intro W base args ds gs before hval0 hW hcnd hsz0 _
  have hval : ∀ (j : Nat) t v, Try.f3.params[j]? = some t → args[j]? = some v → Value.okWide Try.prog W .any base t v := hval0
  have hW' := hW
  obtain ⟨p, q, hA0, hV, rfl, hfz, hnd⟩ := hW
  have hA : DataW.TrodAll enc Try.prog W 0 (fun _ => true) true Try.f3.params.toList args.toList ds p := hA0
  rw [Try.params3] at hA hval
  obtain ⟨v0, vs0, d0, ds0, q0, z0, hargs, rfl, rfl, h0, r0⟩ := trodAll_cons hA
  obtain ⟨v1, vs1, d1, ds1, q1, z1, rfl, rfl, rfl, h1, r1⟩ := trodAll_cons r0
  obtain ⟨rfl, rfl, rfl⟩ := trodAll_nil r1
  obtain rfl : args = #[v0, v1] := by cases args; simp_all
  obtain ⟨rfl, rfl⟩ := trodVars_none hV
  have hlt : ∀ x ∈ q0 ++ (q1 ++ []), x.block < W.heap.size := fun x hx => by simpa using hW'.lt x (by simpa using hx)
  have k0 := h0
  obtain ⟨a0, w0, e0⟩ := rep_col Try.underlying24 ⟨_, rfl, rfl, rfl⟩ ⟨_, rfl, rfl, rfl⟩ ⟨_, rfl, rfl, rfl⟩ Try.underlying2 Try.underlying22 Try.underlying5 (by kernel_rfl) (by kernel_rfl) (by kernel_rfl) (by kernel_rfl) (hval 0 24 v0 rfl rfl) h0
  have k1 := h1
  obtain ⟨a1, x1, y1, e1⟩ := rep_ints Try.underlying25 Try.underlying2 (by kernel_rfl) (hval 1 25 v1 rfl rfl) h1 (fun x hx => hlt x (by simp [hx]))
  have hk := pure a0 a1 w0 ⟨x1, y1⟩
  refine (calls_of_AC hk (RepL2.vs (.cons e0 (.cons e1 .nil)))).mono fun e W' ⟨he, bel⟩ => ?_
  subst he
  exact ⟨_, rfl, _, _, _, [], _, [], hW', trodAll_mk1 (shut_bool Try.underlying4 _), (trodAll_cons_mk (Below.trod laid (by kernel_rfl) (of_decide_eq_true (by kernel_rfl)) k0 bel (fun x hx => hlt x (by simp [hx]))) (trodAll_cons_mk (Below.trod laid (by kernel_rfl) (of_decide_eq_true (by kernel_rfl)) k1 bel (fun x hx => hlt x (by simp [hx]))) trodAll_mk0)), rfl, bel.frame _, fun h => by cases h⟩
theorem over (pure : ∀ (p0 : Col) (p1 : List Int), p0.wf → ((∀ n ∈ p1, (Lit.int .i64 n).wf = true) ∧ p1.length ≤ maxLen) → AC Try.prog 3 [.d (.agg (colD p0)), .d (.sl none (intsD p1))] [] (fun res H' => res = [bV true] ∧ H' = [])) : Rows.fnExactExtensionListRow.holds Try.pinned (OpenSpec.ofChange Rows.fnExactExtensionListSpec) :=
  OpenClaim.holds_of_wide 3 Try.f3 rfl rfl rfl rfl rfl rfl rfl ⟨rfl, rfl, rfl, rfl, rfl⟩ rfl rfl rfl rfl rfl (by kernel_rfl) Try.func3 (by kernel_rfl)
    (of_decide_eq_true (by kernel_rfl)) (by unfold Func.isWrapper; first | (rw [if_pos (by decide +kernel)]; kernel_rfl) | (rw [if_neg (by decide +kernel)]; exact ⟨rfl, rfl⟩))
    (fun os started H enc _ => lifted pure os started H enc)
theorem proved : Rows.FnExactExtensionListSaid := over (fun x s _ _ => extList_ac x s)
#print axioms proved
end Go.Proofs.Ytldgmcghdohmeaa.fnExactExtensionList
namespace Go.Proofs.Ytldgmcghdohmeaa
/-- The row, under a short name, for the claim. -/
theorem fnExactExtensionList_holds : Rows.FnExactExtensionListSaid := fnExactExtensionList.proved
end Go.Proofs.Ytldgmcghdohmeaa
