/- The row FnExactAvoidsPattern, from its plain law: own tool law.py. No conditions. -/
import Derived.Test.YtghhnpdhehjlaaaRows
import Derived.Test.YtghhnpdhehjlaaaRow
import Derived.Test.YtghhnpdhehjlaaaPureAvoidsPattern
namespace Go.Proofs.Ytghhnpdhehjlaaa.fnExactAvoidsPattern
open Go Go.Proofs.Ytghhnpdhehjlaaa Go.ChangeShapes Go.WideShapes Go.ChangeAt Go.RowKit Ab
open Go.ChangeMaps (open_string shut_string)
set_option linter.unusedVariables false
theorem own : ownKnob Try.prog.godebug = none := by kernel_rfl
theorem laid : laidOutB Try.prog = true := by kernel_rfl
set_option maxRecDepth 100000 in
theorem lifted (pure : ∀ (p0 : Col) (p1 : Int) (p2 : Int) (p3 : Int), p0.wf → (Lit.int .i64 p1).wf = true → (Lit.int .i64 p2).wf = true → (Lit.int .i64 p3).wf = true → ∃ k, laws_FnExactAvoidsPattern k p0 p1 p2 p3 = some true) (os : Os) (started : os.Started) (H : Type) (enc : TypeId × Value → H) :
    ReturnsInHanded {} Try.checked os 3 .any (Rows.fnExactAvoidsPatternSpec.pre6 enc Try.prog Try.f3 Rows.fnExactAvoidsPatternRow.domain false) (Rows.fnExactAvoidsPatternSpec.post enc Try.prog Try.f3 false true false false) := by
  refine returnsInHanded_of_change_sized (C := Try.checked) own started (by kernel_rfl) Try.func3
    (ChangeSpec.witness6 (enc := enc) (C := Try.checked) false ⟨#[], #[.agg (.int .i64 0 :: .int .i64 0 :: List.replicate 136 (.int .u8 0)).toArray, .int .i64 0, .int .i64 0, .int .i64 0], []⟩ 8 (by kernel_rfl) (by kernel_rfl) (by kernel_rfl) (by kernel_rfl)) ?_
  intro W base args ds gs before hval0 hW hcnd hsz0 _
  have hval : ∀ (j : Nat) t v, Try.f3.params[j]? = some t → args[j]? = some v → Value.okWide Try.prog W .any base t v := hval0
  have hW' := hW
  obtain ⟨p, q, hA0, hV, rfl, hfz, hnd⟩ := hW
  have hA : DataW.TrodAll enc Try.prog W 0 (fun _ => true) true Try.f3.params.toList args.toList ds p := hA0
  rw [Try.params3] at hA hval
  obtain ⟨v0, vs0, d0, ds0, q0, z0, hargs, rfl, rfl, h0, r0⟩ := trodAll_cons hA
  obtain ⟨v1, vs1, d1, ds1, q1, z1, rfl, rfl, rfl, h1, r1⟩ := trodAll_cons r0
  obtain ⟨v2, vs2, d2, ds2, q2, z2, rfl, rfl, rfl, h2, r2⟩ := trodAll_cons r1
  obtain ⟨v3, vs3, d3, ds3, q3, z3, rfl, rfl, rfl, h3, r3⟩ := trodAll_cons r2
  obtain ⟨rfl, rfl, rfl⟩ := trodAll_nil r3
  obtain rfl : args = #[v0, v1, v2, v3] := by cases args; simp_all
  obtain ⟨rfl, rfl⟩ := trodVars_none hV
  have hlt : ∀ x ∈ q0 ++ (q1 ++ (q2 ++ (q3 ++ []))), x.block < W.heap.size := fun x hx => by simpa using hW'.lt x (by simpa using hx)
  have k0 := h0
  obtain ⟨a0, w0, e0⟩ := rep_col Try.underlying24 ⟨_, rfl, rfl, rfl⟩ ⟨_, rfl, rfl, rfl⟩ ⟨_, rfl, rfl, rfl⟩ Try.underlying2 Try.underlying22 Try.underlying5 (by kernel_rfl) (by kernel_rfl) (by kernel_rfl) (by kernel_rfl) (hval 0 24 v0 rfl rfl) h0
  have k1 := h1
  obtain ⟨a1, rfl, _, _, w1⟩ := open_int Try.underlying2 (hval 1 2 v1 rfl rfl) h1
  have k2 := h2
  obtain ⟨a2, rfl, _, _, w2⟩ := open_int Try.underlying2 (hval 2 2 v2 rfl rfl) h2
  have k3 := h3
  obtain ⟨a3, rfl, _, _, w3⟩ := open_int Try.underlying2 (hval 3 2 v3 rfl rfl) h3
  obtain ⟨k, hk⟩ := pure a0 a1 a2 a3 w0 w1 w2 w3
  refine (calls_of_AC (laws_FnExactAvoidsPattern_ac k a0 a1 a2 a3 true hk) (RepL2.vs (.cons e0 (.cons rep_int (.cons rep_int (.cons rep_int .nil)))))).mono fun e W' ⟨he, bel⟩ => ?_
  subst he
  exact ⟨_, rfl, _, _, _, [], _, [], hW', trodAll_mk1 (shut_bool Try.underlying4 _), (trodAll_cons_mk (Below.trod laid (by kernel_rfl) (of_decide_eq_true (by kernel_rfl)) k0 bel (fun x hx => hlt x (by simp [hx]))) (trodAll_cons_mk (Below.trod laid (by kernel_rfl) (of_decide_eq_true (by kernel_rfl)) k1 bel (fun x hx => hlt x (by simp [hx]))) (trodAll_cons_mk (Below.trod laid (by kernel_rfl) (of_decide_eq_true (by kernel_rfl)) k2 bel (fun x hx => hlt x (by simp [hx]))) (trodAll_cons_mk (Below.trod laid (by kernel_rfl) (of_decide_eq_true (by kernel_rfl)) k3 bel (fun x hx => hlt x (by simp [hx]))) trodAll_mk0)))), rfl, bel.frame _, fun h => by cases h⟩
theorem over (pure : ∀ (p0 : Col) (p1 : Int) (p2 : Int) (p3 : Int), p0.wf → (Lit.int .i64 p1).wf = true → (Lit.int .i64 p2).wf = true → (Lit.int .i64 p3).wf = true → ∃ k, laws_FnExactAvoidsPattern k p0 p1 p2 p3 = some true) : Rows.fnExactAvoidsPatternRow.holds Try.pinned (OpenSpec.ofChange Rows.fnExactAvoidsPatternSpec) :=
  OpenClaim.holds_of_wide 3 Try.f3 rfl rfl rfl rfl rfl rfl rfl ⟨rfl, rfl, rfl, rfl, rfl⟩ rfl rfl rfl rfl rfl (by kernel_rfl) Try.func3 (by kernel_rfl)
    (of_decide_eq_true (by kernel_rfl)) (by unfold Func.isWrapper; first | (rw [if_pos (by decide +kernel)]; kernel_rfl) | (rw [if_neg (by decide +kernel)]; exact ⟨rfl, rfl⟩))
    (fun os started H enc _ => lifted pure os started H enc)
theorem proved : Rows.FnExactAvoidsPatternSaid := over (fun x c kind m _ _ _ _ => ⟨_, avoidsPattern_pure x c kind m⟩)
#print axioms proved
end Go.Proofs.Ytghhnpdhehjlaaa.fnExactAvoidsPattern
namespace Go.Proofs.Ytghhnpdhehjlaaa
/-- The row, under a short name, for the claim. -/
theorem fnExactAvoidsPattern_holds : Rows.FnExactAvoidsPatternSaid := fnExactAvoidsPattern.proved
end Go.Proofs.Ytghhnpdhehjlaaa
