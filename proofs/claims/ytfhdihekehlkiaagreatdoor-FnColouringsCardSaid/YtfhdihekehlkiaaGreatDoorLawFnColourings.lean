/- The row FnColourings, from its plain law: own tool law.py. No conditions. -/
import Derived.Test.YtfhdihekehlkiaaGreatDoorCards
import Derived.Test.YtfhdihekehlkiaaGreatDoorTie
import Derived.Test.YtfhdihekehlkiaaGreatDoorRow
import Derived.Test.YtfhdihekehlkiaaGreatDoorRowB
import Derived.Test.YtfhdihekehlkiaaGreatDoorPureColourings
import Derived.LaidMore
import Derived.Lay
import Derived.Test.YtfhdihekehlkiaaGreatDoorAb19
import Derived.Test.YtfhdihekehlkiaaGreatDoorNumW
import Derived.Shelf.Vars
import Derived.Lib.LaidTab
import Derived.Stop.LaidErr
import Derived.LaidLaws
import Derived.MakeChecks
namespace Go.Proofs.YtfhdihekehlkiaaGreatDoor.fnColourings
open Go Go.Proofs.YtfhdihekehlkiaaGreatDoor Go.ChangeShapes Go.WideShapes Go.ChangeAt Go.RowKit Ab
open Go.ChangeMaps (open_string shut_string)
set_option linter.unusedVariables false
theorem own : ownKnob Tryz.prog.godebug = none := by kernel_rfl
theorem laid : laidOutB Tryz.prog = true := by kernel_rfl
theorem star : "*" ++ "errors.errorString" = "*errors.errorString" := by decide
theorem rowErr (u : TypeId) (h : Tryz.prog.typeName? 3 u = some "*errors.errorString") : u = 159 :=
  typeName_ptr_named (nm := "errors.errorString") (by rw [star]; kernel_rfl) (by kernel_rfl) (by decide) u (by rw [star]; exact h)
def FK (b : Nat) : Prop := ∃ n ∈ ["strconv.ErrSyntax", "strconv.ErrRange", "internal/strconv.uint64pow10", "internal/bytealg.MaxLen"], Tryz.prog.globalNamed n = some b
theorem maxRow {W : World} (h : W.ShapedOpen Tryz.prog) : ∃ m, W.heap[0]? = some (.cells #[.int .i64 m] 3) := by
  obtain ⟨m, hm⟩ := cell_of_shapedOpen_int (P := Tryz.prog) (g := 0) (t := 3) (zero := #[.int .i64 0]) h (of_decide_eq_true (by kernel_rfl)) (by kernel_rfl) rfl (by kernel_rfl) (by kernel_rfl) Tryz.underlying3
  obtain ⟨cs, hh, hs, _⟩ := h.1 0 #[.int .i64 0] 3 (of_decide_eq_true (by kernel_rfl)) (by kernel_rfl)
  refine ⟨m, ?_⟩
  rw [hh]
  have h1 : cs.size = 1 := hs
  have h0 : 0 < cs.size := by omega
  have hc : cs[0] = .int .i64 m := by
    simp only [World.cell?, hh, Option.isSome_none, Bool.false_eq_true, if_false] at hm
    simpa [h0] using hm
  have : cs = #[.int .i64 m] := by
    refine Array.ext (by rw [h1]; rfl) fun i i1 i2 => ?_
    have : i = 0 := by omega
    subst this
    rw [hc]; rfl
  rw [this]
theorem gk_of {W : World} (h : laidMetH Tryz.prog Rows.fnColouringsRow.laid W) (hsh : W.ShapedOpen Tryz.prog) : GK FK W := by
  rw [MakeChecks.laidMetH_plain _ _ _ (by kernel_rfl)] at h
  have h2 := h.tail.tail
  have h3 := h2.tail.tail
  have h4 := h3.tail
  obtain ⟨mx, hmx⟩ := maxRow hsh
  obtain ⟨a1, s1, k1, _⟩ := laid_sentinel h3 (g := 2) (by kernel_rfl) (by kernel_rfl) Tryz.underlying93 rowErr Tryz.underlying159 Tryz.underlying161 rfl rfl Tryz.underlying9 (by kernel_rfl) (by kernel_rfl)
  obtain ⟨a2, s2, k2, _⟩ := laid_sentinel h4 (g := 1) (by kernel_rfl) (by kernel_rfl) Tryz.underlying93 rowErr Tryz.underlying159 Tryz.underlying161 rfl rfl Tryz.underlying9 (by kernel_rfl) (by kernel_rfl)
  exact ⟨fun n hn g hg => ⟨n, hn, hg⟩, ⟨_, _, k2⟩, ⟨_, _, k1⟩, Lib.tabIs_of_head (g := 5) (by kernel_rfl) (by kernel_rfl) Tryz.underlying155 Tryz.underlying97 (by kernel_rfl) (by kernel_rfl) h2, mx, by simp [World.cell?, hmx]⟩
theorem gk_lt {W : World} (h : GK FK W) : ∀ b, FK b → b < W.heap.size := by
  have key : ∀ (n : String) (cs : Array Value) (b : Nat), W.var? Tryz.prog n = some cs → Tryz.prog.globalNamed n = some b → b < W.heap.size := fun n cs b hv hg => by
    unfold World.var? at hv
    rw [hg] at hv
    rcases Nat.lt_or_ge b W.heap.size with hlt | hge
    · exact hlt
    · simp [Array.getElem?_eq_none hge] at hv
  obtain ⟨_, ⟨tp, p, k1⟩, ⟨tq, q, k2⟩, k3, mx, k4⟩ := h
  rintro b ⟨n, hn, hg⟩
  simp only [List.mem_cons, List.not_mem_nil, or_false] at hn
  rcases hn with rfl | rfl | rfl | rfl
  · exact key _ _ b k1 hg
  · exact key _ _ b k2 hg
  · exact key _ _ b k3 hg
  · obtain rfl : 0 = b := Option.some.inj (maxlen.symm.trans hg)
    exact World.block_lt_of_cell? _ _ k4
theorem upg {W : World} (h : GK FK W) (hsh : W.ShapedOpen Tryz.prog) {l : List UInt8} {v : Value} (hv : RepV (fun _ => False) W [] [] (.d (.sl none (bysD l))) v) : RepV FK W [] [] (.d (.sl none (bysD l))) v := by
  have key : ∀ (n : String) (cs : Array Value) (b : Nat), W.var? Tryz.prog n = some cs → Tryz.prog.globalNamed n = some b → ∀ i v, W.cell? ⟨b, i, none⟩ = some v → v ∈ cs.toList := fun n cs b hv hg i v hc => by
    unfold World.var? at hv
    rw [hg] at hv
    simp only [Option.bind_some] at hv
    split at hv
    · rename_i cs' x y hh
      cases hv
      simp only [World.cell?, hh, Option.isSome_none, Bool.false_eq_true, if_false] at hc
      exact Array.mem_toList_iff.2 (Array.mem_of_getElem? hc)
    · cases hv
  obtain ⟨_, ⟨tp, p, k1⟩, ⟨tq, q, k2⟩, k3, mx, k4⟩ := h
  have hno : ∀ b, FK b → ∀ i c, W.cell? ⟨b, i, none⟩ ≠ some (.int .u8 c) := by
    rintro b ⟨n, hn, hg⟩ i c hc
    simp only [List.mem_cons, List.not_mem_nil, or_false] at hn
    rcases hn with rfl | rfl | rfl | rfl
    · have := key _ _ b k1 hg i _ hc
      simp at this
    · have := key _ _ b k2 hg i _ hc
      simp at this
    · have := key _ _ b k3 hg i _ hc
      simp only [List.mem_map] at this
      obtain ⟨z, _, e⟩ := this
      cases e
    · obtain rfl : 0 = b := Option.some.inj (maxlen.symm.trans hg)
      obtain ⟨my, hmy⟩ := maxRow hsh
      simp only [World.cell?, hmy, Option.isSome_none, Bool.false_eq_true, if_false] at hc
      cases i with
      | zero => simp at hc
      | succ i => simp at hc
  cases hv with
  | d _ _ hd =>
    cases hd with
    | sl _ _ vs A cap hl hn hc hA hr =>
      refine .d _ _ (.sl none _ vs A cap hl hn hc (fun hne => ?_) (fun i c v h1 h2 => bysD_flat _ c (List.mem_of_getElem? h1) _ _ _ _ _ (hr i c v h1 h2)))
      obtain ⟨b, off, e, hI, hcell⟩ := hA hne
      refine ⟨b, off, e, ⟨hI.1, fun hb => ?_⟩, hcell⟩
      cases l with
      | nil => exact hne rfl
      | cons x l =>
        cases vs with
        | nil => simp [bysD] at hl
        | cons v0 vs =>
          have h0 := hr 0 (uD x) v0 rfl rfl
          cases h0 with
          | s _ => exact hno b hb _ _ (hcell 0 _ rfl)
theorem calls_of_ACgV {P : Program} {f : FuncId} {args : List AV} {xs : Array Value} {w : World} {F : Nat → Prop} (h : ACg GK P f args [] (fun res H' => res = [bV true] ∧ H' = [])) (hg : GK F w) (hF : ∀ b, F b → b < w.heap.size) (ha : RepVs F w [] [] args xs) :
    Calls P f xs w fun e w' => e = .returned (.bool true) ∧ Below w.heap.size w w' := by
  refine (h F w [] xs hg (hrel_none hF) ha).mono ?_
  rintro e w' ⟨res, H', r', x, rfl, ⟨rfl, rfl⟩, hh, hr, hs⟩
  refine ⟨?_, below_of_step hs⟩
  cases hr with
  | d _ _ hd => cases hd; rfl
theorem repVs_one {F : Nat → Prop} {w : World} {a : AV} {v : Value} (h : RepV F w [] [] a v) : RepVs F w [] [] [a] #[v] := ⟨rfl, fun i c u h1 h2 => by
  cases i with
  | zero => simp at h1 h2; subst h1 h2; exact h
  | succ i => simp at h1⟩
set_option maxRecDepth 100000 in
theorem lifted (pure : ∀ (p0 : List UInt8), p0.length ≤ maxLen → ∃ k, laws_FnColourings k p0 = some true) (os : Os) (started : os.Started) (H : Type) (enc : TypeId × Value → H) :
    ReturnsInHanded {} Tryz.checked os 3 .any (fun w args => (Rows.fnColouringsSpec.pre enc Tryz.prog Tryz.f3 [] false w args ∧ laidMetH Tryz.prog Rows.fnColouringsRow.laid w) ∧ sizedMet enc Tryz.prog Tryz.f3 (OpenSpec.ofChange Rows.fnColouringsSpec) false w args) (Rows.fnColouringsSpec.post enc Tryz.prog Tryz.f3 false true false false) := by
  refine returnsInHanded_of_calls (C := Tryz.checked) own started (by kernel_rfl) (ChangeSpec.witness_shaped (enc := enc) (C := Tryz.checked) (os := os) (X := fun w _ => laidMetH Tryz.prog Rows.fnColouringsRow.laid w) false (World.laidAll Tryz.prog os Rows.fnColouringsRow.laid) #[.slice none 0 0] 8 (World.laidAll_os _ _ _) (World.shaped_of_ZipB (by kernel_rfl) (by kernel_rfl)) (by kernel_rfl) (by kernel_rfl) (by kernel_rfl) (by rw [MakeChecks.laidMetH_plain _ _ _ (by kernel_rfl)]; exact laidMet_laidAll _ (by kernel_rfl) (by kernel_rfl))) ?_
  intro w0 tape inp _ hsh _ hok hpre hholds
  obtain ⟨_, _, _, fn', hfn', _, _, _, _, hval0⟩ := hok
  obtain rfl : fn' = Tryz.f3 := Option.some.inj (hfn'.symm.trans Tryz.func3)
  obtain ⟨⟨⟨ds, gs, before, hw, hcnd⟩, hL0⟩, hz⟩ := hpre
  have hW := DataW.Whole.of_heap (w' := w0.forCall tape inp) (by rfl) hw
  have hL : laidMetH Tryz.prog Rows.fnColouringsRow.laid (w0.forCall tape inp) := hL0.of_heap (by rfl)
  suffices hc : Calls Tryz.prog 3 inp.args (w0.forCall tape inp) (fun e W' => ∃ v, e = .returned v ∧ Rows.fnColouringsSpec.post enc Tryz.prog Tryz.f3 false true false false (w0.forCall tape inp) inp.args v W') from hc.mono fun E W' ⟨v, he, hp⟩ => by
    subst he
    exact ChangeSpec.post_blind hp
  clear hL0 hz hw hcnd hholds
  generalize w0.forCall tape inp = W at hval0 hW hL hsh ⊢
  generalize inp.args = args at hval0 hW ⊢
  generalize w0.heap.size = base at hval0
  have hval : ∀ (j : Nat) t v, Tryz.f3.params[j]? = some t → args[j]? = some v → Value.okWide Tryz.prog W .any base t v := hval0
  have hW' := hW
  obtain ⟨p, q, hA0, hV, rfl, hfz, hnd⟩ := hW
  have hA : DataW.TrodAll enc Tryz.prog W 0 (fun _ => true) true Tryz.f3.params.toList args.toList ds p := hA0
  rw [Tryz.params3] at hA hval
  obtain ⟨v0, vs0, d0, ds0, q0, z0, hargs, rfl, rfl, h0, r0⟩ := trodAll_cons hA
  obtain ⟨rfl, rfl, rfl⟩ := trodAll_nil r0
  obtain rfl : args = #[v0] := by cases args; simp_all
  obtain ⟨rfl, rfl⟩ := trodVars_none hV
  have hlt : ∀ x ∈ q0 ++ [], x.block < W.heap.size := fun x hx => by simpa using hW'.lt x (by simpa using hx)
  have k0 := h0
  obtain ⟨a0, w0, e0⟩ := rep_bytes Tryz.underlying22 Tryz.underlying5 (by kernel_rfl) (hval 0 22 v0 rfl rfl) h0 (fun x hx => hlt x (by simp [hx]))
  obtain ⟨k, hk⟩ := pure a0 w0
  refine (calls_of_ACgV (laws_FnColourings_ac k a0 true hk) (gk_of hL hsh) (gk_lt (gk_of hL hsh)) (repVs_one (upg (gk_of hL hsh) hsh e0))).mono fun e W' ⟨he, bel⟩ => ?_
  subst he
  exact ⟨_, rfl, _, _, _, [], _, [], hW', trodAll_mk1 (shut_bool Tryz.underlying4 _), (trodAll_cons_mk (Below.trod laid (by kernel_rfl) (of_decide_eq_true (by kernel_rfl)) k0 bel (fun x hx => hlt x (by simp [hx]))) trodAll_mk0), rfl, bel.frame _, fun h => by cases h⟩
theorem over (pure : ∀ (p0 : List UInt8), p0.length ≤ maxLen → ∃ k, laws_FnColourings k p0 = some true) : Rows.fnColouringsRow.holds Tryz.pinned (OpenSpec.ofChange Rows.fnColouringsSpec) :=
  OpenClaim.holds_of_wide 3 Tryz.f3 rfl rfl rfl rfl rfl rfl rfl ⟨rfl, rfl, rfl, rfl, rfl⟩ rfl rfl rfl rfl rfl (by kernel_rfl) Tryz.func3 (by kernel_rfl)
    (of_decide_eq_true (by kernel_rfl)) (by unfold Func.isWrapper; first | (rw [if_pos (by decide +kernel)]; kernel_rfl) | (rw [if_neg (by decide +kernel)]; exact ⟨rfl, rfl⟩))
    (fun os started H enc _ => lifted pure os started H enc)
theorem plain (f : FuncId) (fn : Func) (hf : Tryz.pinned.checked.prog.funcNamed "loop.example/g01362/laws.FnColourings" = some f) (hfn : Tryz.pinned.checked.prog.funcs[f]? = some fn) :
    true = Tryz.pinned.checked.prog.looks [] ∧ ∀ (j : Nat) t, fn.params[j]? = some t → Tryz.pinned.checked.prog.wantsStandIn t = false := by
  obtain rfl : f = 3 := Option.some.inj ((show Tryz.prog.funcNamed "loop.example/g01362/laws.FnColourings" = some 3 by kernel_rfl).symm.trans hf) |>.symm
  obtain rfl : fn = Tryz.f3 := (Option.some.inj (Tryz.func3.symm.trans hfn)).symm
  refine ⟨by kernel_rfl, fun j t ht => ?_⟩
  rw [Tryz.params3] at ht
  have hm : t ∈ [22] := by simpa using Array.mem_of_getElem? ht
  have hall : ([22].all fun u => !Tryz.prog.wantsStandIn u) = true := by kernel_rfl
  exact (show Tryz.prog.wantsStandIn t = false by simpa using List.all_eq_true.1 hall t hm)
theorem proved : Rows.FnColouringsCardSaid :=
  Claim7.holds_tied_plain_at .later [] _ _ _ _ (over (fun x _ => colourings_pure x)) (fun _ h => by cases h) (by kernel_rfl) (fun _ h => by cases h) fnColourings_row_tie rfl ⟨rfl, rfl⟩ (by kernel_rfl) rfl plain (by kernel_rfl)
#print axioms proved
end Go.Proofs.YtfhdihekehlkiaaGreatDoor.fnColourings
namespace Go.Proofs.YtfhdihekehlkiaaGreatDoor
/-- The row, under a short name, for the claim. -/
theorem fnColourings_holds : Rows.FnColouringsCardSaid := fnColourings.proved
end Go.Proofs.YtfhdihekehlkiaaGreatDoor
