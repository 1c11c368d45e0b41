/- The row FnForms, from its plain law: own tool law.py. No conditions. -/
import Derived.Test.YtldgmcghdohmeaaGreatRows
import Derived.Test.YtldgmcghdohmeaaGreatMg13
import Derived.Test.YtldgmcghdohmeaaGreatPureForms
namespace Go.Proofs.YtldgmcghdohmeaaGreat.fnForms
open Go Go.Proofs.YtldgmcghdohmeaaGreat Go.ChangeShapes Go.WideShapes Go.ChangeAt Go.RowKit Ab
open Go.ChangeMaps (open_string shut_string)
set_option linter.unusedVariables false
theorem own : ownKnob Tryz.prog.godebug = none := by kernel_rfl
theorem laid : laidOutB Tryz.prog = true := by kernel_rfl
set_option maxRecDepth 100000 in
theorem lifted (pure : ∀ (p0 : List UInt8), p0.length ≤ maxLen → ∃ k, laws_FnForms k p0 = some true) (os : Os) (started : os.Started) (H : Type) (enc : TypeId × Value → H) :
  ReturnsInHanded {} Tryz.checked os 3 .any (Rows.fnFormsSpec.pre6 enc Tryz.prog Tryz.f3 Rows.fnFormsRow.domain false) (Rows.fnFormsSpec.post enc Tryz.prog Tryz.f3 false true false false) := by
 refine returnsInHanded_of_change_sized (C := Tryz.checked) own started (by kernel_rfl) Tryz.func3
  (ChangeSpec.witness6 (enc := enc) (C := Tryz.checked) false ⟨#[], #[.slice none 0 0], []⟩ 8 (by kernel_rfl) (by kernel_rfl) (by kernel_rfl) (by kernel_rfl)) ?_
 intro W base args ds gs before hval0 hW hcnd hsz0 _
 have hval : ∀ (j : Nat) t v, Tryz.f3.params[j]? = some t → args[j]? = some v → Value.okWide Tryz.prog W .any base t v := hval0
 have hW' := hW
 obtain ⟨p, q, hA0, hV, rfl, hfz, hnd⟩ := hW
 have hA : DataW.TrodAll enc Tryz.prog W 0 (fun _ => true) true Tryz.f3.params.toList args.toList ds p := hA0
 rw [Tryz.params3] at hA hval
 obtain ⟨v0, vs0, d0, ds0, q0, z0, hargs, rfl, rfl, h0, r0⟩ := trodAll_cons hA
 obtain ⟨rfl, rfl, rfl⟩ := trodAll_nil r0
 obtain rfl : args = #[v0] := by cases args; simp_all
 obtain ⟨rfl, rfl⟩ := trodVars_none hV
 have hlt : ∀ x ∈ q0 ++ [], x.block < W.heap.size := fun x hx => by simpa using hW'.lt x (by simpa using hx)
 have k0 := h0
 obtain ⟨a0, w0, e0⟩ := rep_bytes Tryz.underlying22 Tryz.underlying5 (by kernel_rfl) (hval 0 22 v0 rfl rfl) h0 (fun x hx => hlt x (by simp [hx]))
 obtain ⟨k, hk⟩ := pure a0 w0
 refine (calls_of_AC (laws_FnForms_ac k a0 true hk) (RepL2.vs (.cons e0 .nil))).mono fun e W' ⟨he, bel⟩ => ?_
 subst he
 exact ⟨_, rfl, _, _, _, [], _, [], hW', trodAll_mk1 (shut_bool Tryz.underlying4 _), (trodAll_cons_mk (Below.trod laid (by kernel_rfl) (of_decide_eq_true (by kernel_rfl)) k0 bel (fun x hx => hlt x (by simp [hx]))) trodAll_mk0), rfl, bel.frame _, fun h => by cases h⟩
theorem over (pure : ∀ (p0 : List UInt8), p0.length ≤ maxLen → ∃ k, laws_FnForms k p0 = some true) : Rows.fnFormsRow.holds Tryz.pinned (OpenSpec.ofChange Rows.fnFormsSpec) :=
 OpenClaim.holds_of_wide 3 Tryz.f3 rfl rfl rfl rfl rfl rfl rfl ⟨rfl, rfl, rfl, rfl, rfl⟩ rfl rfl rfl rfl rfl (by kernel_rfl) Tryz.func3 (by kernel_rfl)
  (of_decide_eq_true (by kernel_rfl)) (by unfold Func.isWrapper; first | (rw [if_pos (by decide +kernel)]; kernel_rfl) | (rw [if_neg (by decide +kernel)]; exact ⟨rfl, rfl⟩))
  (fun os started H enc _ => lifted pure os started H enc)
theorem proved : Rows.FnFormsSaid := over (fun x _ => forms_pure x)
#print axioms proved
end Go.Proofs.YtldgmcghdohmeaaGreat.fnForms
namespace Go.Proofs.YtldgmcghdohmeaaGreat
/-- The row, under a short name, for the claim. -/
theorem fnForms_holds : Rows.FnFormsSaid := fnForms.proved
end Go.Proofs.YtldgmcghdohmeaaGreat
