/- The row FnExactParsePosition, from its plain law: own tool law.py. No conditions. -/
import Derived.Test.YtmmiokljmfkoiaaDoorCards
import Derived.Test.YtmmiokljmfkoiaaDoorTie
import Derived.Test.YtmmiokljmfkoiaaDoorRow
import Derived.Test.YtmmiokljmfkoiaaDoorPureParse
import Derived.LaidMore
import Derived.Test.YtmmiokljmfkoiaaDoorAb19
import Derived.Test.YtmmiokljmfkoiaaDoorNumV
import Derived.Lib.LaidTab
import Derived.Stop.LaidErr
import Derived.LaidLaws
import Derived.MakeChecks
namespace Go.Proofs.YtmmiokljmfkoiaaDoor.fnExactParsePosition
open Go Go.Proofs.YtmmiokljmfkoiaaDoor Go.ChangeShapes Go.WideShapes Go.ChangeAt Go.RowKit Ab
open Go.ChangeMaps (open_string shut_string)
set_option linter.unusedVariables false
theorem own : ownKnob Tryd.prog.godebug = none := by kernel_rfl
theorem laid : laidOutB Tryd.prog = true := by kernel_rfl
theorem door_met (os : Os) (args : Array Value) : laidMetH Tryd.prog Rows.fnExactParsePositionRow.laid ((World.doorLaid Tryd.prog 400 os).forCall (fun _ _ => 0) ⟨#[], args, []⟩).memory :=
  laidMetH_of_parts3 (fuel := 8) (laidMet_of_run' 8 (by kernel_rfl) (by kernel_rfl)) (by kernel_rfl) (by kernel_rfl)
theorem star : "*" ++ "errors.errorString" = "*errors.errorString" := by decide
theorem rowErr (u : TypeId) (h : Tryd.prog.typeName? 3 u = some "*errors.errorString") : u = 129 :=
  typeName_ptr_named (nm := "errors.errorString") (by rw [star]; kernel_rfl) (by kernel_rfl) (by decide) u (by rw [star]; exact h)
def FK (b : Nat) : Prop := ∃ n ∈ ["strconv.ErrSyntax", "strconv.ErrRange", "internal/strconv.uint64pow10"], Tryd.prog.globalNamed n = some b
theorem gk_of {W : World} (h : laidMetH Tryd.prog Rows.fnExactParsePositionRow.laid W) : GK FK W := by
  rw [MakeChecks.laidMetH_plain _ _ _ (by kernel_rfl)] at h
  have h2 := h.tail.tail
  have h3 := h2.tail
  have h4 := h3.tail
  obtain ⟨a1, s1, k1, _⟩ := laid_sentinel h3 (g := 3) (by kernel_rfl) (by kernel_rfl) Tryd.underlying68 rowErr Tryd.underlying129 Tryd.underlying131 rfl rfl Tryd.underlying9 (by kernel_rfl) (by kernel_rfl)
  obtain ⟨a2, s2, k2, _⟩ := laid_sentinel h4 (g := 2) (by kernel_rfl) (by kernel_rfl) Tryd.underlying68 rowErr Tryd.underlying129 Tryd.underlying131 rfl rfl Tryd.underlying9 (by kernel_rfl) (by kernel_rfl)
  exact ⟨fun n hn g hg => ⟨n, hn, hg⟩, ⟨_, _, k2⟩, ⟨_, _, k1⟩, Lib.tabIs_of_head (g := 1) (by kernel_rfl) (by kernel_rfl) Tryd.underlying116 Tryd.underlying91 (by kernel_rfl) (by kernel_rfl) h2⟩
theorem gk_lt {W : World} (h : GK FK W) : ∀ b, FK b → b < W.heap.size := by
  have key : ∀ (n : String) (cs : Array Value) (b : Nat), W.var? Tryd.prog n = some cs → Tryd.prog.globalNamed n = some b → b < W.heap.size := fun n cs b hv hg => by
    unfold World.var? at hv
    rw [hg] at hv
    rcases Nat.lt_or_ge b W.heap.size with hlt | hge
    · exact hlt
    · simp [Array.getElem?_eq_none hge] at hv
  obtain ⟨_, ⟨tp, p, k1⟩, ⟨tq, q, k2⟩, k3⟩ := h
  rintro b ⟨n, hn, hg⟩
  simp only [List.mem_cons, List.not_mem_nil, or_false] at hn
  rcases hn with rfl | rfl | rfl
  · exact key _ _ b k1 hg
  · exact key _ _ b k2 hg
  · exact key _ _ b k3 hg
set_option maxRecDepth 100000 in
theorem lifted (pure : ∀ (p0 : ByteArray), p0.size ≤ maxLen → ∃ k, laws_FnExactParsePosition k p0 = some true) (os : Os) (started : os.Started) (H : Type) (enc : TypeId × Value → H) :
    ReturnsInHanded {} Tryd.checked os 5 .any (fun w args => (Rows.fnExactParsePositionSpec.pre enc Tryd.prog Tryd.f5 [] false w args ∧ laidMetH Tryd.prog Rows.fnExactParsePositionRow.laid w) ∧ sizedMet enc Tryd.prog Tryd.f5 (OpenSpec.ofChange Rows.fnExactParsePositionSpec) false w args) (Rows.fnExactParsePositionSpec.post enc Tryd.prog Tryd.f5 false true false false) := by
  refine returnsInHanded_of_change_and (C := Tryd.checked) (X := fun w _ => laidMetH Tryd.prog Rows.fnExactParsePositionRow.laid w) (fun _ _ _ hh h => h.of_heap hh) own started (by kernel_rfl) Tryd.func5
    (ChangeSpec.witness_shaped (enc := enc) (C := Tryd.checked) (os := os) (X := fun w _ => laidMetH Tryd.prog Rows.fnExactParsePositionRow.laid w) false (World.doorLaid Tryd.prog 400 os) #[.string ByteArray.empty] 8 rfl (World.shaped_of_RefB (by kernel_rfl) (by kernel_rfl)) (by kernel_rfl) (by kernel_rfl) (by kernel_rfl) (door_met os _)) ?_
  intro W base args ds gs before hval0 hW hcnd hsz0 hL _
  have hval : ∀ (j : Nat) t v, Tryd.f5.params[j]? = some t → args[j]? = some v → Value.okWide Tryd.prog W .any base t v := hval0
  have hW' := hW
  obtain ⟨p, q, hA0, hV, rfl, hfz, hnd⟩ := hW
  have hA : DataW.TrodAll enc Tryd.prog W 0 (fun _ => true) true Tryd.f5.params.toList args.toList ds p := hA0
  rw [Tryd.params5] at hA hval
  obtain ⟨v0, vs0, d0, ds0, q0, z0, hargs, rfl, rfl, h0, r0⟩ := trodAll_cons hA
  obtain ⟨rfl, rfl, rfl⟩ := trodAll_nil r0
  obtain rfl : args = #[v0] := by cases args; simp_all
  obtain ⟨rfl, rfl⟩ := trodVars_none hV
  have hlt : ∀ x ∈ q0 ++ [], x.block < W.heap.size := fun x hx => by simpa using hW'.lt x (by simpa using hx)
  have k0 := h0
  obtain ⟨a0, rfl, _, _, w0⟩ := open_string Tryd.underlying9 (hval 0 9 v0 rfl rfl) h0
  obtain ⟨k, hk⟩ := pure a0 w0
  refine (calls_of_ACg (vs := [.string a0]) (laws_FnExactParsePosition_ac k a0 true hk) (gk_of hL) (gk_lt (gk_of hL))).mono fun e W' ⟨he, bel⟩ => ?_
  subst he
  exact ⟨_, rfl, _, _, _, [], _, [], hW', trodAll_mk1 (shut_bool Tryd.underlying4 _), (trodAll_cons_mk (Below.trod laid (by kernel_rfl) (of_decide_eq_true (by kernel_rfl)) k0 bel (fun x hx => hlt x (by simp [hx]))) trodAll_mk0), rfl, bel.frame _, fun h => by cases h⟩
theorem over (pure : ∀ (p0 : ByteArray), p0.size ≤ maxLen → ∃ k, laws_FnExactParsePosition k p0 = some true) : Rows.fnExactParsePositionRow.holds Tryd.pinned (OpenSpec.ofChange Rows.fnExactParsePositionSpec) :=
  OpenClaim.holds_of_wide 5 Tryd.f5 rfl rfl rfl rfl rfl rfl rfl ⟨rfl, rfl, rfl, rfl, rfl⟩ rfl rfl rfl rfl rfl (by kernel_rfl) Tryd.func5 (by kernel_rfl)
    (of_decide_eq_true (by kernel_rfl)) (by unfold Func.isWrapper; first | (rw [if_pos (by decide +kernel)]; kernel_rfl) | (rw [if_neg (by decide +kernel)]; exact ⟨rfl, rfl⟩))
    (fun os started H enc _ => lifted pure os started H enc)
theorem plain (f : FuncId) (fn : Func) (hf : Tryd.pinned.checked.prog.funcNamed "loop.example/g01362/laws.FnExactParsePosition" = some f) (hfn : Tryd.pinned.checked.prog.funcs[f]? = some fn) :
    true = Tryd.pinned.checked.prog.looks [] ∧ ∀ (j : Nat) t, fn.params[j]? = some t → Tryd.pinned.checked.prog.wantsStandIn t = false := by
  obtain rfl : f = 5 := Option.some.inj ((show Tryd.prog.funcNamed "loop.example/g01362/laws.FnExactParsePosition" = some 5 by kernel_rfl).symm.trans hf) |>.symm
  obtain rfl : fn = Tryd.f5 := (Option.some.inj (Tryd.func5.symm.trans hfn)).symm
  refine ⟨by kernel_rfl, fun j t ht => ?_⟩
  rw [Tryd.params5] at ht
  have hm : t ∈ [9] := by simpa using Array.mem_of_getElem? ht
  have hall : ([9].all fun u => !Tryd.prog.wantsStandIn u) = true := by kernel_rfl
  exact (show Tryd.prog.wantsStandIn t = false by simpa using List.all_eq_true.1 hall t hm)
theorem proved : Rows.FnExactParsePositionCardSaid :=
  Claim7.holds_tied_plain_at .later [] _ _ _ _ (over (fun t _ => parsePosition_pure t)) (fun _ h => by cases h) (by kernel_rfl) (fun _ h => by cases h) fnExactParsePosition_row_tie rfl ⟨rfl, rfl⟩ (by kernel_rfl) rfl plain (by kernel_rfl)
#print axioms proved
end Go.Proofs.YtmmiokljmfkoiaaDoor.fnExactParsePosition
namespace Go.Proofs.YtmmiokljmfkoiaaDoor
/-- The row, under a short name, for the claim. -/
theorem fnExactParsePosition_holds : Rows.FnExactParsePositionCardSaid := fnExactParsePosition.proved
end Go.Proofs.YtmmiokljmfkoiaaDoor
