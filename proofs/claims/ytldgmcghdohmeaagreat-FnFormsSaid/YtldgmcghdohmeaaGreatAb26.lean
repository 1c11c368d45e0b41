/- Own library, part 26: a slice of an array that nobody writes. Conditions stand in each rule. -/
import Derived.Test.YtldgmcghdohmeaaGreatAb25
set_option linter.unusedVariables false
set_option linter.unusedSimpArgs false
namespace Go.Proofs.YtldgmcghdohmeaaGreat.Ab
open Go Go.RowKit

section
variable {P : Program} {n : Nat} {G : Ctx} {E : Env} {H : List AObj} {o : Oper}

theorem QOp_slice_pv (t e : TypeId) (x : Operand) (lo hi : Option Operand) (N : Nat) (cs ds : List D) (off l m : Nat) (h : o.op = .slice t x lo hi none) (hu : P.underlying t = some (.array N e)) (hsz : ∀ w, (sizeOf e).run P w = .ok 1 w)
  (hx : evalO E x = some (.d (.pv cs off))) (hlo : match lo with | none => l = 0 | some y => ∃ k, evalO E y = some (.d (.s (.int k (l : Int)))))
  (hhi : match hi with | none => m = N | some y => ∃ k, evalO E y = some (.d (.s (.int k (m : Int))))) (hlm : l ≤ m) (hm : m ≤ N) (hN : off + N ≤ cs.length) (hds : ((cs.drop off).take m).drop l = ds) : QOp P n G o E H (.d (.sl (some false) ds)) := by
 subst hds
 intro r a w hr
 have hev := evalO_sound hr hx
 cases hev with
 | d _ _ hd =>
  generalize hv : a.eval x = v at hd
  cases hd with
  | pv _ _ vs b base hl hI hcell hc =>
   have hbnd : ∀ w', (Instr.sliceBounds false N N (lo.map a.eval) (hi.map a.eval) none).run P w' = .ok (l, m, N) w' := by
    intro w'
    cases lo with
    | none =>
     simp only at hlo; subst hlo
     cases hi with
     | none => simp only at hhi; subst hhi; simp [Instr.sliceBounds]
     | some y =>
      obtain ⟨k, hy⟩ := hhi
      simp [Instr.sliceBounds, evalO_s hr hy, Instr.sliceBound, asIntOf, hm]
    | some z =>
     obtain ⟨k', hz⟩ := hlo
     cases hi with
     | none => simp only at hhi; subst hhi; simp [Instr.sliceBounds, evalO_s hr hz, Instr.sliceBound, asIntOf, hlm]
     | some y =>
      obtain ⟨k, hy⟩ := hhi
      simp [Instr.sliceBounds, evalO_s hr hy, evalO_s hr hz, Instr.sliceBound, asIntOf, hm, hlm]
   have hlen : (((cs.drop off).take m).drop l).length = m - l := by simp; omega
   have hL : RepL w (imm G.F w H r) (((cs.drop off).take m).drop l) (((vs.drop off).take m).drop l) := ((RepL.drop ⟨hl, hc⟩ off).take m).drop l
   refine ⟨.slice (some (if N = l then ⟨b, base + off, none⟩ else Addr.add ⟨b, base + off, none⟩ (l * 1))) (((cs.drop off).take m).drop l).length (N - l), .d _ _ (.sl (some false) _ (((vs.drop off).take m).drop l) _ _ hL.1 ?_ (by omega) (fun hne => ?_) hL.2), fun w' _ => ?_⟩
   ·intro b' hb'; cases hb'; rfl
   ·have hlt : l < m := by
     rcases Nat.lt_or_ge l m with h | h
     ·exact h
     ·exact absurd (List.eq_nil_of_length_eq_zero (by rw [hlen]; omega)) hne
    refine ⟨b, base + off + l, by rw [if_neg (by omega)]; simp [Addr.add_lit], hI, fun i u hu => ?_⟩
    rw [List.getElem?_drop, List.getElem?_take] at hu
    split at hu
    ·rw [List.getElem?_drop] at hu
     have := hcell _ u hu
     rw [Nat.add_assoc, Nat.add_assoc]; exact this
    ·simp at hu
   ·rw [hlen]
    simp [execOp, h, Instr.sliceAt, run_underlying hu, hv, Instr.sureAddr, hbnd, hsz]
end
end Go.Proofs.YtldgmcghdohmeaaGreat.Ab
