/- From a contract to a row: a call whose contract says 'true' leaves what was there before as it was; arguments as data. No conditions. -/
import Derived.Test.YtghhnpdhehjlaaaGreatCol
import Derived.WalkKit
import Derived.ProofKit
import Derived.OpenShut
import Derived.ShutString
import Derived.ChangeOld
import Derived.Below
import Derived.Carry
import Derived.ChangeSlices
import Derived.SizedLaws
set_option linter.unusedVariables false
set_option linter.unusedSimpArgs false
namespace Go.Proofs.YtghhnpdhehjlaaaGreat
open Go Go.RowKit Ab Go.ChangeShapes Go.WideShapes

theorem hrel_nil (w : World) : HRel (fun _ => False) w [] [] :=
  ⟨rfl, fun _ _ _ _ _ h => by simp at h, fun _ _ _ h => by simp at h, fun _ _ _ h => by simp at h, fun _ h => h.elim⟩

theorem below_of_step {w w' : World} {H' : List AObj} {r' : List Nat} (h : Step w [] [] w' H' r') : Below w.heap.size w w' :=
  ⟨h.os, h.tape, h.output, h.size, fun k hk => (h.free k ⟨hk, fun _ _ hx => by simp at hx⟩).1⟩

theorem calls_of_AC {P : Program} {f : FuncId} {args : List AV} {xs : Array Value} {w : World} (h : AC P f args [] (fun res H' => res = [bV true] ∧ H' = [])) (ha : RepVs (fun _ => False) w [] [] args xs) :
    Calls P f xs w fun e w' => e = .returned (.bool true) ∧ Below w.heap.size w w' := by
  refine (h (fun _ => False) w [] xs (hrel_nil w) ha).mono ?_
  rintro e w' ⟨res, H', r', x, rfl, ⟨rfl, rfl⟩, hh, hr, hs⟩
  refine ⟨?_, below_of_step hs⟩
  cases hr with
  | d _ _ hd => cases hd; rfl

theorem repVs_of {w : World} {args : List AV} {xs : List Value} (h : xs.length = args.length) (k : ∀ (i : Nat) (c : AV) (v : Value), args[i]? = some c → xs[i]? = some v → RepV (fun _ => False) w [] [] c v) : RepVs (fun _ => False) w [] [] args xs.toArray :=
  ⟨by simpa using h, fun i c v h1 h2 => k i c v h1 (by simpa using h2)⟩
inductive RepL2 (w : World) : List AV → List Value → Prop
  | nil : RepL2 w [] []
  | cons {c : AV} {v : Value} {cs : List AV} {vs : List Value} (h : RepV (fun _ => False) w [] [] c v) (t : RepL2 w cs vs) : RepL2 w (c :: cs) (v :: vs)
theorem RepL2.vs {w : World} {cs : List AV} {vs : List Value} (h : RepL2 w cs vs) : RepVs (fun _ => False) w [] [] cs vs.toArray := by
  refine repVs_of ?_ ?_
  · induction h with
    | nil => rfl
    | cons _ _ ih => simp [ih]
  · induction h with
    | nil => intro i c v h; simp at h
    | cons h t ih =>
      intro i c v h1 h2
      cases i with
      | zero => simp at h1 h2; subst h1 h2; exact h
      | succ i => exact ih i c v (by simpa using h1) (by simpa using h2)

section
variable {H : Type} {enc : TypeId × Value → H} {P : Program} {W : World} {base : Nat}

/-! ### Bytes and colourings -/
def Col.wf (x : Col) : Prop := (Lit.int .i64 x.p).wf = true ∧ (Lit.int .i64 x.k).wf = true

end
end Go.Proofs.YtghhnpdhehjlaaaGreat
