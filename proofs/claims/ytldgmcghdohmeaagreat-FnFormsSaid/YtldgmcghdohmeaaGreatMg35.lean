/- Own library: an array of 17 rows of 17 whole numbers, as data. No conditions. -/
import Derived.Test.YtldgmcghdohmeaaGreatMg24
import Derived.Test.YtldgmcghdohmeaaGreatColEq
import Derived.Laws.Pointers
set_option linter.unusedSimpArgs false
set_option linter.unusedVariables false
namespace Go.Proofs.YtldgmcghdohmeaaGreat
open Go Go.RowKit Ab

structure M17 where
 l : List Int
 h : l.length = 289
def M17.zero : M17 := ⟨List.replicate 289 0, List.length_replicate⟩
def M17.get (x : M17) (i : Nat) : Int := x.l.getD i 0
def M17.set (x : M17) (i : Nat) (v : Int) : M17 := ⟨x.l.set i v, by simp [x.h]⟩
section
variable {P : Program} {n : Nat} {G : Ctx} {E : Env} {H : List AObj} {o : Oper}
end
end Go.Proofs.YtldgmcghdohmeaaGreat

namespace Go.Proofs.YtldgmcghdohmeaaGreat
open Go Go.RowKit Ab

structure S17 where
 l : List Bool
 h : l.length = 289
def S17.zero : S17 := ⟨List.replicate 289 false, List.length_replicate⟩
def S17.get (x : S17) (i : Nat) : Bool := x.l.getD i false
def S17.set (x : S17) (i : Nat) (v : Bool) : S17 := ⟨x.l.set i v, by simp [x.h]⟩
/-- impl.tracer. -/
structure Tra where
 x : Col
 y : Col
 o : List Int
 s : S17
def Tra.get (t : Tra) (i : Nat) : Bool := t.s.get i
def Tra.set (t : Tra) (i : Nat) (v : Bool) : Tra := ⟨t.x, t.y, t.o, t.s.set i v⟩
def traD (t : Tra) : List D := .pv (colD t.x) 0 :: .pv (colD t.y) 0 :: .sl none (intsD t.o) :: bosD t.s.l
def traZ : List D := .s (.pointer none) :: .s (.pointer none) :: .sl (some true) [] :: bosD (List.replicate 289 false)
theorem traD_length (t : Tra) : (traD t).length = 292 := by
 show (bosD t.s.l).length + 3 = 292
 rw [bosD_length, t.s.h]
theorem traD_one (t : Tra) : ∀ c ∈ traD t, c.one = true := by
 intro c hc
 simp only [traD, List.mem_cons] at hc
 rcases hc with rfl | rfl | rfl | hc
 ·rfl
 ·rfl
 ·rfl
 ·exact bosD_one _ c hc
theorem traD_get (t : Tra) (i : Nat) (h : i < 289) : (traD t)[3 + i]? = some (bD (t.get i)) := by
 rw [Nat.add_comm]
 exact bosD_get t.s.l i false (by rw [t.s.h]; exact h)
theorem traD_get2 (t : Tra) (a b : Nat) (h : a + b < 289) : (traD t)[3 + a + b]? = some (bD (t.get (a + b))) := by
 rw [Nat.add_assoc]; exact traD_get t (a + b) h
theorem traD_set (t : Tra) (a b : Nat) (v : Bool) : (traD t).set (3 + a + b) (bD v) = traD (t.set (a + b) v) := by
 rw [Nat.add_assoc, Nat.add_comm 3 (a + b)]
 show _ :: _ :: _ :: (bosD t.s.l).set (a + b) (bD v) = _
 rw [bosD_set]; rfl
/-- A pointer that may be nil. -/
@[reducible] def traP : Option Tra → D
 | none => .s (.pointer none)
 | some t => .pv (traD t) 0

namespace Ab
section
variable {P : Program} {n : Nat} {G : Ctx} {E : Env} {H : List AObj} {o : Oper}
theorem QOp_indexAddrM_pv (t e : TypeId) (x y : Operand) (m sz : Nat) (kd : IntKind) (cs : List D) (off : Nat) (i : Int) (h : o.op = .indexAddr t x y) (hu : P.underlying t = some (.array m e)) (hsz : ∀ w, (sizeOf e).run P w = .ok sz w)
  (h0 : 0 ≤ i) (h1 : i < (m : Int)) (hx : evalO E x = some (.d (.pv cs off))) (hy : evalO E y = some (.d (.s (.int kd i)))) : QOp P n G o E H (.d (.pv cs (off + i.toNat * sz))) := by
 intro r a w hr
 have hev := evalO_sound hr hx
 cases hev with
 | d _ _ hd =>
  generalize hv : a.eval x = v at hd
  cases hd with
  | pv _ _ vs b base hl hI hcell hc =>
   refine ⟨.pointer (some ⟨b, base + (off + i.toNat * sz), none⟩), .d _ _ (.pv cs (off + i.toNat * sz) vs b base hl hI hcell hc), fun w' _ => ?_⟩
   simp [execOp, h, Instr.indexAt, run_underlying hu, hv, evalO_s hr hy, Instr.sureAddr, asIntOf, hsz, Addr.add_lit, h0, h1, Nat.add_assoc]
theorem UOp_indexAddrM_ptr (t e : TypeId) (x y : Operand) (m sz : Nat) (kd : IntKind) (z : AObj) (j off : Nat) (i : Int) (h : o.op = .indexAddr t x y) (hu : P.underlying t = some (.array m e)) (hsz : ∀ w, (sizeOf e).run P w = .ok sz w)
  (h0 : 0 ≤ i) (h1 : i < (m : Int)) (hx : evalO E x = some (.ptr j off)) (hz : H[j]? = some z) (hf : z.fixed = true) (hy : evalO E y = some (.d (.s (.int kd i)))) : UOp P n G o E H (.ptr j (off + i.toNat * sz)) := by
 intro r a w hr
 have hev := evalO_sound hr hx
 cases hev with
 | ptr _ _ _ ho hp =>
  obtain ⟨b, hb⟩ := hr.heap.blk hz
  have hv := hp z b hz hb hf
  refine ⟨.pointer (some ⟨b, off + i.toNat * sz, none⟩), .ptr j _ _ ho fun x' b' h1 h2 _ => ?_, fun w' _ => ?_⟩
  ·rw [hb] at h2; cases h2; rfl
  ·simp [execOp, h, Instr.indexAt, run_underlying hu, hv, evalO_s hr hy, Instr.sureAddr, asIntOf, hsz, Addr.add_lit, h0, h1]
theorem pointee_of {t e : TypeId} (hu : P.underlying t = some (.pointer e)) : P.underlying t = some (.pointer (P.pointee t)) := by
 have : P.pointee t = e := by unfold Program.pointee; rw [hu]
 rw [this, hu]
theorem QOp_pnil (t e t' : TypeId) (x y : Operand) (h : o.op = .binOp .eql t x y t') (hx : evalO E x = some (.d (.s (.pointer none)))) (hy : y = .const (.pointer none)) (hu : P.underlying t = some (.pointer e)) : QOp P n G o E H (.d (.s (.bool true))) := by
 intro r a w hr
 refine ⟨.bool true, .d _ _ (.s _), fun w' _ => ?_⟩
 have hy2 : a.eval y = .pointer none := by rw [hy]; rfl
 simp only [execOp, h, evalO_s hr hx, hy2]
 have h1 := run_eql_pointer_nil (P := P) w' t none (pointee_of hu)
 simp [eqGuard_at_pointer, h1]
theorem QOp_pvnil (t e t' : TypeId) (x y : Operand) (cs : List D) (off : Nat) (h : o.op = .binOp .eql t x y t') (hx : evalO E x = some (.d (.pv cs off))) (hy : y = .const (.pointer none)) (hu : P.underlying t = some (.pointer e)) : QOp P n G o E H (.d (.s (.bool false))) := by
 intro r a w hr
 refine ⟨.bool false, .d _ _ (.s _), fun w' _ => ?_⟩
 have hev := evalO_sound hr hx
 cases hev with
 | d _ _ hd =>
  generalize hv : a.eval x = v at hd
  cases hd with
  | pv _ _ vs b base hl hI hcell hc =>
   have hy2 : a.eval y = .pointer none := by rw [hy]; rfl
   simp only [execOp, h, hv, hy2]
   have h1 := run_eql_pointer_nil (P := P) w' t (some ⟨b, base + off, none⟩) (pointee_of hu)
   simp [eqGuard_at_pointer, h1]
end
end Ab
/-- What is there for sure. -/
def joinO {α : Type} (x : Option (Option α)) : Option α := x.bind id
theorem joinO_some {α : Type} {x : Option (Option α)} {r : α} (h : joinO x = some r) : x = some (some r) := by
 cases x with
 | none => cases h
 | some y => unfold joinO at h; rw [Option.bind_some] at h; exact congrArg some h
end Go.Proofs.YtldgmcghdohmeaaGreat
