/- Own library: an array of 17 rows of 17 whole numbers, as data. No conditions. -/
import Derived.Test.YtfnbhfobgimnjaaGreatAb18
import Derived.Test.YtfnbhfobgimnjaaGreatColEq
set_option linter.unusedVariables false
set_option linter.unusedSimpArgs false
namespace Go.Proofs.YtfnbhfobgimnjaaGreat
open Go Go.RowKit Ab

structure M17 where
  l : List Int
  h : l.length = 289
def M17.zero : M17 := ⟨List.replicate 289 0, List.length_replicate⟩
def M17.get (x : M17) (i : Nat) : Int := x.l.getD i 0
def M17.set (x : M17) (i : Nat) (v : Int) : M17 := ⟨x.l.set i v, by simp [x.h]⟩
section
variable {P : Program} {n : Nat} {G : Ctx} {E : Env} {H : List AObj} {o : Oper}
end
end Go.Proofs.YtfnbhfobgimnjaaGreat
