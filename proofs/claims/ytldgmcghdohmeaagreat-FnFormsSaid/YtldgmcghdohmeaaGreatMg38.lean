/- Own library: an array of 136 truth values, as data. No conditions. -/
import Derived.Test.YtldgmcghdohmeaaGreatMg24
import Derived.Test.YtldgmcghdohmeaaGreatAb27
import Derived.Maps.OwnSet
import Derived.DeepKeys5
import Derived.Carry
import Derived.Test.YtldgmcghdohmeaaGreatCol
import Derived.Laws.Cover3
set_option linter.unusedSimpArgs false
set_option linter.unusedVariables false
namespace Go.Proofs.YtldgmcghdohmeaaGreat
open Go Go.RowKit Ab

structure O136 where
 l : List Bool
 h : l.length = 136
def O136.get (x : O136) (i : Nat) : Bool := x.l.getD i false
def O136.set (x : O136) (i : Nat) (b : Bool) : O136 := ⟨x.l.set i b, by simp [x.h]⟩
def O136.zero : O136 := ⟨List.replicate 136 false, by simp⟩
def obD (x : O136) : List D := x.l.map bD
theorem obD_length (x : O136) : (obD x).length = 136 := by simp [obD, x.h]
theorem obD_one (x : O136) : ∀ c ∈ obD x, c.one = true := by
 intro c hc
 obtain ⟨b, _, rfl⟩ := List.mem_map.1 hc
 rfl
theorem obD_get (x : O136) (i : Nat) (h : i < 136) : (obD x)[i]? = some (bD (x.get i)) := by
 simp [obD, O136.get, x.h, h]
theorem obD_set (x : O136) (i : Nat) (b : Bool) : (obD x).set i (bD b) = obD (x.set i b) := by simp [obD, O136.set, List.map_set]
theorem obD_set0 (x : O136) (i : Nat) (b : Bool) : (obD x).set (0 + i) (bD b) = obD (x.set i b) := by rw [Nat.zero_add, obD_set]
theorem obD_whole (x y : O136) : (obD x).take 0 ++ obD y ++ (obD x).drop (0 + (obD y).length) = obD y := by
 have : (obD x).drop (0 + (obD y).length) = [] := by rw [List.drop_eq_nil_iff, obD_length, obD_length]; omega
 rw [this, List.take_zero]; simp
end Go.Proofs.YtldgmcghdohmeaaGreat

namespace Go.Proofs.YtldgmcghdohmeaaGreat.Ab
open Go Go.RowKit

/-- Keys. -/
inductive MK where
 | i (x : Int)
 | l (xs : List Int)
 | s (b : ByteArray)

def MK.beq : MK → MK → Bool
 | .i x, .i y => decide (x = y)
 | .l x, .l y => decide (x = y)
 | .s x, .s y => decide (x = y)
 | _, _ => false
def MK.enc : MK → Value
 | .i x => .int .i64 x
 | .l xs => .agg (xs.map (Value.int .i64)).toArray
 | .s b => .string b

section
variable {P : Program} {kt et t : TypeId} {M : List (MK × Int)} {c : Obj} {w : World} {b : Nat}

end

section
variable {F : Nat → Prop} {w w1 : World} {H : List AObj} {r : List Nat}

end

section
variable {P : Program} {kt et t : TypeId} {n : Nat} {G : Ctx} {E : Env} {H : List AObj} {ops : Array Oper} {rest : List Oper} {o : Oper} {K : Env → List AObj → Prop}

theorem fill_congr {p q : Nat → Option (Nat × Nat)} : ∀ (ps : List (Nat × Value)) (cur : Array Value), (∀ x ∈ ps, p x.1 = q x.1) → Instr.fill p cur ps = Instr.fill q cur ps
 | [], cur, _ => rfl
 | (i, v) :: ps, cur, h => by
  have e : p i = q i := h (i, v) (List.mem_cons_self ..)
  simp only [Instr.fill, e]
  cases q i with
  | none => rfl
  | some x =>
   simp only
   split
   ·rfl
   ·exact fill_congr ps _ fun x hx => h x (List.mem_cons_of_mem _ hx)

/-- An array with elements of one cell. -/
theorem QOp_buildA (t : TypeId) (m : Nat) (e : TypeId) (xs : List Operand) (is : List Nat) (ps : List D) (z : Value) (cs ds : List D) (h : o.op = .build t ((is.zip xs).toArray)) (hlen : is.length = xs.length) (hu : P.underlying t = some (.array m e)) (hz : ∀ w, (zeroValue t).run P w = .ok z w)
  (hsz : ∀ w, (sizeOf e).run P w = .ok 1 w) (his : ∀ i ∈ is, i < m) (he : evalL E xs = some (ps.map AV.d)) (hcs : z.cells.toList.map zD = cs) (hfill : fillD ((List.range m).map fun i => (i, 1)) cs (is.zip ps) = some ds) (hok : ∀ p ∈ ps, p.cellsOK) : QOp P n G o E H (.d (.agg ds)) := by
 subst hcs
 intro r a w hr
 have hs := evalL_sound hr he
 have hpl : ps.length = xs.length := by have := hs.1; simp at this; omega
 have hrep : ∀ (i : Nat) (c : D) (v : Value), ps[i]? = some c → (xs.map a.eval)[i]? = some v → RepD w (imm G.F w H r) c v := by
  intro i c v h1 h2
  have := hs.2 i (.d c) v (by simp [h1]) (by simpa using h2)
  cases this with | d _ _ hd => exact hd
 obtain ⟨out, e1, e2⟩ := fill_sound (w := w) (I := imm G.F w H r) (offs := (List.range m).map fun i => (i, 1)) (is.zip ps) (xs.map a.eval) _ ds z.cells (zD_repL _) hfill (fun p hp => hok p.2 (List.of_mem_zip hp).2) (by simp [hpl, hlen]) (fun i p v h1 h2 => by
  have := List.getElem?_zip_eq_some.1 h1
  exact hrep i p.2 v this.2 h2)
 refine ⟨.agg out, .d _ _ (.agg ds out (by simpa using e2.1) (by simpa using e2.2)), fun w' _ => ?_⟩
 have e4 : ((is.zip ps).map (·.1)) = is := by rw [List.map_fst_zip]; omega
 rw [e4] at e1
 have e5 : ((is.zip xs).toArray.map fun (i, x) => (i, a.eval x)).toList = is.zip (xs.map a.eval) := by simp [List.zip_map_right]
 have e8 : Instr.fill (fun i => some (i * 1, 1)) z.cells (is.zip (xs.map a.eval)) = some out := by
  rw [← e1]
  refine fill_congr _ _ fun x hx => ?_
  have := his x.1 (List.of_mem_zip hx).1
  simp [this]
 have e7 : (Instr.build t ((is.zip xs).toArray.map fun (i, x) => (i, a.eval x))).run P w' = .ok (.agg out) w' := by
  unfold Instr.build
  simp only [Sem.run_bind, hz w', Result.andThen_ok, run_underlying hu, hsz w', e5]
  rw [e8]
  rfl
 simp only [execOp, h, Sem.run_bind, e7, Result.andThen_ok, Sem.run_pure]
end
end Go.Proofs.YtldgmcghdohmeaaGreat.Ab

namespace Go.Proofs.YtldgmcghdohmeaaGreat.Ab
open Go Go.RowKit

section
variable {P : Program} {n : Nat} {G : Ctx} {o : Oper} {E : Env} {H : List AObj}
end

section
variable {P : Program} {n : Nat} {G : Ctx} {E : Env} {H : List AObj} {w : World} {r : List Nat} {a : Act}
end
end Go.Proofs.YtldgmcghdohmeaaGreat.Ab

namespace Go.Proofs.YtldgmcghdohmeaaGreat.Ab
open Go Go.RowKit

section
variable {P : Program} {n : Nat} {G : Ctx} {E : Env} {H : List AObj} {ops : Array Oper} {rest : List Oper} {o1 o2 o3 : Oper} {K : Env → List AObj → Prop}

/-- A slot that nothing is told of may hold what it likes. -/
theorem Rel.putAny {r : List Nat} {a : Act} {w : World} (h : Rel n G E H r a w) (dst : Option Tmp) (x : Value) (d : Nat) (hd : dst = some d) (hE : E.get d = none) : Rel n G E H r (a.put dst x) w := by
 subst hd
 refine ⟨by simp [Act.put, h.size], by simp [Act.put, h.defers], fun t u hu => ?_, h.heap, h.step⟩
 have e : d ≠ t := by rintro rfl; rw [hE] at hu; cases hu
 obtain ⟨y, hy, hr⟩ := h.env t u hu
 exact ⟨y, by simp [Act.put, Array.getElem?_setIfInBounds, e, hy], hr⟩
theorem eval_put_self {r : List Nat} {a : Act} {w : World} (h : Rel n G E H r a w) (dst : Option Tmp) (x : Value) (d : Nat) (hd : dst = some d) (hlt : d < n) : (a.put dst x).eval (.tmp d) = x := by
 subst hd
 simp [Act.put, Act.eval, Array.getD_eq_getD_getElem?, Array.getElem?_setIfInBounds, h.size, hlt]
theorem eval_put_ne {a : Act} (dst : Option Tmp) (x : Value) (d d' : Nat) (hd : dst = some d) (hne : d ≠ d') : (a.put dst x).eval (.tmp d') = a.eval (.tmp d') := by
 subst hd
 simp [Act.put, Act.eval, Array.getD_eq_getD_getElem?, Array.getElem?_setIfInBounds, hne]

end
end Go.Proofs.YtldgmcghdohmeaaGreat.Ab
