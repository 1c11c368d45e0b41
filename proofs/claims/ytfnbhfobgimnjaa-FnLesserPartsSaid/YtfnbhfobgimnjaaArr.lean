/- Own library: an array of 17 rows of 17 whole numbers, as data. No conditions. -/
import Derived.Test.YtfnbhfobgimnjaaAb18
import Derived.Test.YtfnbhfobgimnjaaColEq
set_option linter.unusedVariables false
set_option linter.unusedSimpArgs false
namespace Go.Proofs.Ytfnbhfobgimnjaa
open Go Go.RowKit Ab

structure M17 where
  l : List Int
  h : l.length = 289
def M17.zero : M17 := ⟨List.replicate 289 0, List.length_replicate⟩
def M17.get (x : M17) (i : Nat) : Int := x.l.getD i 0
def M17.set (x : M17) (i : Nat) (v : Int) : M17 := ⟨x.l.set i v, by simp [x.h]⟩
def m17D (x : M17) : List D := intsD x.l
theorem m17D_length (x : M17) : (m17D x).length = 289 := by unfold m17D; rw [intsD_length, x.h]
theorem m17D_get (x : M17) (i : Nat) (h : i < 289) : (m17D x)[i]? = some (iD (x.get i)) := intsD_get x.l i 0 (by rw [x.h]; exact h)
theorem m17D_set0 (x : M17) (a b : Nat) (v : Int) : (m17D x).set (0 + a + b) (iD v) = m17D (x.set (a + b) v) := by
  rw [Nat.zero_add]; exact intsD_set x.l (a + b) v
section
variable {P : Program} {n : Nat} {G : Ctx} {E : Env} {H : List AObj} {o : Oper}
theorem QOp_indexAddrM_ptr (t e : TypeId) (x y : Operand) (m sz : Nat) (kd : IntKind) (z : AObj) (j off : Nat) (i : Int) (h : o.op = .indexAddr t x y) (hu : P.underlying t = some (.array m e)) (hsz : ∀ w, (sizeOf e).run P w = .ok sz w)
    (h0 : 0 ≤ i) (h1 : i < (m : Int)) (hx : evalO E x = some (.ptr j off)) (hz : H[j]? = some z) (hf : z.fixed = true) (hy : evalO E y = some (.d (.s (.int kd i)))) : QOp P n G o E H (.ptr j (off + i.toNat * sz)) := by
  intro r a w hr
  have hev := evalO_sound hr hx
  cases hev with
  | ptr _ _ _ ho hp =>
    obtain ⟨b, hb⟩ := hr.heap.blk hz
    have hv := hp z b hz hb hf
    refine ⟨.pointer (some ⟨b, off + i.toNat * sz, none⟩), .ptr j _ _ ho fun x' b' h1 h2 _ => ?_, fun w' _ => ?_⟩
    · rw [hb] at h2; cases h2; rfl
    · simp [execOp, h, Instr.indexAt, run_underlying hu, hv, evalO_s hr hy, Instr.sureAddr, asIntOf, hsz, Addr.add_lit, h0, h1]
end
end Go.Proofs.Ytfnbhfobgimnjaa
