/- The row FnExactRenumberPosition, from its plain law: own tool law.py. No conditions. -/
import Derived.Test.YtfgfaffcfbhocaaRows
import Derived.Test.YtfgfaffcfbhocaaRow
import Derived.Test.YtfgfaffcfbhocaaPurePosn
namespace Go.Proofs.Ytfgfaffcfbhocaa.fnExactRenumberPosition
open Go Go.Proofs.Ytfgfaffcfbhocaa Go.ChangeShapes Go.WideShapes Go.ChangeAt Go.RowKit Ab
open Go.ChangeMaps (open_string shut_string)
set_option linter.unusedVariables false
theorem own : ownKnob Try.prog.godebug = none := by kernel_rfl
theorem laid : laidOutB Try.prog = true := by kernel_rfl
set_option maxRecDepth 100000 in
theorem lifted (pure : ∀ (p0 : Int) (p1 : List Int) (p2 : List Int), (Lit.int .i64 p0).wf = true → ((∀ n ∈ p1, (Lit.int .i64 n).wf = true) ∧ p1.length ≤ maxLen) → ((∀ n ∈ p2, (Lit.int .i64 n).wf = true) ∧ p2.length ≤ maxLen) → ∃ k, laws_FnExactRenumberPosition k p0 p1 p2 = some true) (os : Os) (started : os.Started) (H : Type) (enc : TypeId × Value → H) :
    ReturnsInHanded {} Try.checked os 5 .any (Rows.fnExactRenumberPositionSpec.pre6 enc Try.prog Try.f5 Rows.fnExactRenumberPositionRow.domain false) (Rows.fnExactRenumberPositionSpec.post enc Try.prog Try.f5 false true false false) := by
  refine returnsInHanded_of_change_sized (C := Try.checked) own started (by kernel_rfl) Try.func5
    (ChangeSpec.witness6 (enc := enc) (C := Try.checked) false ⟨#[], #[.int .i64 0, .slice none 0 0, .slice none 0 0], []⟩ 8 (by kernel_rfl) (by kernel_rfl) (by kernel_rfl) (by kernel_rfl)) ?_
  intro W base args ds gs before hval0 hW hcnd hsz0 _
  have hval : ∀ (j : Nat) t v, Try.f5.params[j]? = some t → args[j]? = some v → Value.okWide Try.prog W .any base t v := hval0
  have hW' := hW
  obtain ⟨p, q, hA0, hV, rfl, hfz, hnd⟩ := hW
  have hA : DataW.TrodAll enc Try.prog W 0 (fun _ => true) true Try.f5.params.toList args.toList ds p := hA0
  rw [Try.params5] at hA hval
  obtain ⟨v0, vs0, d0, ds0, q0, z0, hargs, rfl, rfl, h0, r0⟩ := trodAll_cons hA
  obtain ⟨v1, vs1, d1, ds1, q1, z1, rfl, rfl, rfl, h1, r1⟩ := trodAll_cons r0
  obtain ⟨v2, vs2, d2, ds2, q2, z2, rfl, rfl, rfl, h2, r2⟩ := trodAll_cons r1
  obtain ⟨rfl, rfl, rfl⟩ := trodAll_nil r2
  obtain rfl : args = #[v0, v1, v2] := by cases args; simp_all
  obtain ⟨rfl, rfl⟩ := trodVars_none hV
  have hlt : ∀ x ∈ q0 ++ (q1 ++ (q2 ++ [])), x.block < W.heap.size := fun x hx => by simpa using hW'.lt x (by simpa using hx)
  have k0 := h0
  obtain ⟨a0, rfl, _, _, w0⟩ := open_int Try.underlying2 (hval 0 2 v0 rfl rfl) h0
  have k1 := h1
  obtain ⟨a1, x1, y1, e1⟩ := rep_ints Try.underlying25 Try.underlying2 (by kernel_rfl) (hval 1 25 v1 rfl rfl) h1 (fun x hx => hlt x (by simp [hx]))
  have k2 := h2
  obtain ⟨a2, x2, y2, e2⟩ := rep_ints Try.underlying25 Try.underlying2 (by kernel_rfl) (hval 2 25 v2 rfl rfl) h2 (fun x hx => hlt x (by simp [hx]))
  obtain ⟨k, hk⟩ := pure a0 a1 a2 w0 ⟨x1, y1⟩ ⟨x2, y2⟩
  refine (calls_of_AC (laws_FnExactRenumberPosition_ac k a0 a1 a2 true hk) (RepL2.vs (.cons rep_int (.cons e1 (.cons e2 .nil))))).mono fun e W' ⟨he, bel⟩ => ?_
  subst he
  exact ⟨_, rfl, _, _, _, [], _, [], hW', trodAll_mk1 (shut_bool Try.underlying4 _), (trodAll_cons_mk (Below.trod laid (by kernel_rfl) (of_decide_eq_true (by kernel_rfl)) k0 bel (fun x hx => hlt x (by simp [hx]))) (trodAll_cons_mk (Below.trod laid (by kernel_rfl) (of_decide_eq_true (by kernel_rfl)) k1 bel (fun x hx => hlt x (by simp [hx]))) (trodAll_cons_mk (Below.trod laid (by kernel_rfl) (of_decide_eq_true (by kernel_rfl)) k2 bel (fun x hx => hlt x (by simp [hx]))) trodAll_mk0))), rfl, bel.frame _, fun h => by cases h⟩
theorem over (pure : ∀ (p0 : Int) (p1 : List Int) (p2 : List Int), (Lit.int .i64 p0).wf = true → ((∀ n ∈ p1, (Lit.int .i64 n).wf = true) ∧ p1.length ≤ maxLen) → ((∀ n ∈ p2, (Lit.int .i64 n).wf = true) ∧ p2.length ≤ maxLen) → ∃ k, laws_FnExactRenumberPosition k p0 p1 p2 = some true) : Rows.fnExactRenumberPositionRow.holds Try.pinned (OpenSpec.ofChange Rows.fnExactRenumberPositionSpec) :=
  OpenClaim.holds_of_wide 5 Try.f5 rfl rfl rfl rfl rfl rfl rfl ⟨rfl, rfl, rfl, rfl, rfl⟩ rfl rfl rfl rfl rfl (by kernel_rfl) Try.func5 (by kernel_rfl)
    (of_decide_eq_true (by kernel_rfl)) (by unfold Func.isWrapper; first | (rw [if_pos (by decide +kernel)]; kernel_rfl) | (rw [if_neg (by decide +kernel)]; exact ⟨rfl, rfl⟩))
    (fun os started H enc _ => lifted pure os started H enc)
theorem proved : Rows.FnExactRenumberPositionSaid := over (fun n l p _ _ _ => ⟨_, renumberPosition_pure n l p⟩)
#print axioms proved
end Go.Proofs.Ytfgfaffcfbhocaa.fnExactRenumberPosition
namespace Go.Proofs.Ytfgfaffcfbhocaa
/-- The row, under a short name, for the claim. -/
theorem fnExactRenumberPosition_holds : Rows.FnExactRenumberPositionSaid := fnExactRenumberPosition.proved
end Go.Proofs.Ytfgfaffcfbhocaa
