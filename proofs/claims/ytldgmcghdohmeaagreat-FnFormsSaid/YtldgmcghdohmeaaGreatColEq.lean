/- Colourings that are compared with == and !=. No conditions beyond those that each lemma states. -/
import Derived.Test.YtldgmcghdohmeaaGreatCol
import Derived.Test.YtldgmcghdohmeaaGreatAb14
import Derived.Stop.BytesEq
set_option linter.unusedVariables false
set_option linter.unusedSimpArgs false
namespace Go.Proofs.YtldgmcghdohmeaaGreat
open Go Go.RowKit Ab

def Col.eqb (x y : Col) : Bool := x.p == y.p && (x.k == y.k && x.e.l == y.e.l)
theorem Col.eqb_iff (x y : Col) : x.eqb y = true ↔ x = y := by
 unfold Col.eqb
 simp only [Bool.and_eq_true, beq_iff_eq]
 exact ⟨fun ⟨h1, h2, h3⟩ => Col.ext' h1 h2 (B136.ext' h3), fun h => by subst h; exact ⟨rfl, rfl, rfl⟩⟩
def colCells (x : Col) : List Value := .int .i64 x.p :: .int .i64 x.k :: x.e.l.map Extern.Stop.cell
theorem colD_cells (x : Col) : colD x = (colCells x).map D.s := by
 simp [colD, colCells, byD, Function.comp_def, Extern.Stop.cell]
theorem rep_cells {w : World} {I : Nat → Prop} {x : Col} {v : Value} (h : RepD w I (.agg (colD x)) v) : v = .agg (colCells x).toArray := by
 cases h with
 | agg _ vs hl h =>
  rw [colD_cells] at hl h
  have : vs.toList = colCells x := RepL.of_map_s (w := w) (I := I) ⟨by simpa using hl, fun i c v h1 h2 => h i c v h1 (by simpa using h2)⟩
  rw [← this]

section
variable {P : Program} {n : Nat} {G : Ctx} {E : Env} {H : List AObj} {o : Oper}

theorem equal_col (d : Nat) (t i64 a e : TypeId) (f0 f1 f2 : Field) (x y : Col) (ht : P.underlying t = some (.struct #[f0, f1, f2])) (hp : P.stoodInHeld t = false)
  (n0 : f0.name ≠ "_") (n1 : f1.name ≠ "_") (n2 : f2.name ≠ "_") (t0 : f0.type = i64) (t1 : f1.type = i64) (t2 : f2.type = a) (o0 : f0.offset = 0) (o1 : f1.offset = 1) (o2 : f2.offset = 2)
  (hi : P.underlying i64 = some (.int .i64)) (ha : P.underlying a = some (.array 136 e)) (he : P.underlying e = some (.int .u8)) (hse : ∀ w, (sizeOf e).run P w = .ok 1 w) (hsa : ∀ w, (sizeOf a).run P w = .ok 136 w) (w : World) :
  (Op.equalIn (d + 3) t (.agg (colCells x).toArray) (.agg (colCells y).toArray)).run P w = .ok (x.eqb y) w := by
 have hf : P.fieldsOf t = #[f0, f1, f2] := by simp [Program.fieldsOf, ht]
 rw [run_equalIn_struct w (d + 2) t _ _ (by rw [hf]; exact ht) hp, hf]
 have pI : ∀ (z : Col), (part i64 (colCells z).toArray 0).run P w = .ok (.int .i64 z.p) w := fun z => by
  simp [part, isAgg, run_underlying hi, colCells]
 have pK : ∀ (z : Col), (part i64 (colCells z).toArray 1).run P w = .ok (.int .i64 z.k) w := fun z => by
  simp [part, isAgg, run_underlying hi, colCells]
 have pE : ∀ (z : Col), (part a (colCells z).toArray 2).run P w = .ok (.agg (z.e.l.map Extern.Stop.cell).toArray) w := fun z => by
  simp [part, isAgg, run_underlying ha, hsa, colCells]
  rw [List.take_of_length_le (by simp [z.e.h])]
 simp only [Op.eqFields, n0, n1, n2, t0, t1, t2, o0, o1, o2, ne_eq, not_false_eq_true, if_true, Sem.run_bind, pI, pK, pE, Result.andThen_ok, run_equalIn_int w (d + 1) i64 .i64 .i64 _ _ hi, run_equalIn_bytes w d a e 136 ha he hse _ _ x.e.h y.e.h]
 unfold Col.eqb
 have eI := fun (u v : Int) => run_equalIn_int (P := P) w (d + 1) i64 .i64 .i64 u v hi
 have eE := run_equalIn_bytes (P := P) w d a e 136 ha he hse x.e.l y.e.l x.e.h y.e.h
 generalize (x.p == y.p) = b1
 cases b1
 ·simp
 ·simp only [Bool.not_true, Bool.false_eq_true, if_false, Sem.run_bind, pI, pK, pE, Result.andThen_ok, eI, eE, Bool.true_and]
  generalize (x.k == y.k) = b2
  cases b2
  ·simp
  ·simp only [Bool.not_true, Bool.false_eq_true, if_false, Sem.run_bind, pI, pK, pE, Result.andThen_ok, eI, eE, Bool.true_and]
   generalize (x.e.l == y.e.l) = b3
   cases b3 <;> simp
theorem QOp_eqCol (t t' i64 a e : TypeId) (f0 f1 f2 : Field) (x y : Operand) (p q : Col) (h : o.op = .binOp .eql t x y t') (hx : evalO E x = some (.d (.agg (colD p)))) (hy : evalO E y = some (.d (.agg (colD q)))) (ht : P.underlying t = some (.struct #[f0, f1, f2])) (hp : P.stoodInHeld t = false) (hg : P.eqGuardType P.depth t = false)
  (n0 : f0.name ≠ "_") (n1 : f1.name ≠ "_") (n2 : f2.name ≠ "_") (t0 : f0.type = i64) (t1 : f1.type = i64) (t2 : f2.type = a) (o0 : f0.offset = 0) (o1 : f1.offset = 1) (o2 : f2.offset = 2)
  (hi : P.underlying i64 = some (.int .i64)) (ha : P.underlying a = some (.array 136 e)) (he : P.underlying e = some (.int .u8)) (hse : ∀ w, (sizeOf e).run P w = .ok 1 w) (hsa : ∀ w, (sizeOf a).run P w = .ok 136 w) :
  QOp P n G o E H (.d (.s (.bool (p.eqb q)))) := by
 intro r act w hr
 refine ⟨_, .d _ _ (.s _), fun w' _ => ?_⟩
 have hx2 : act.eval x = .agg (colCells p).toArray := by
  have := evalO_sound hr hx
  cases this with | d _ _ hd => exact rep_cells hd
 have hy2 : act.eval y = .agg (colCells q).toArray := by
  have := evalO_sound hr hy
  cases this with | d _ _ hd => exact rep_cells hd
 have e1 : execOp act.eval o = (do pure (.value (← (do eqGuard .eql t x y (.agg (colCells p).toArray) (.agg (colCells q).toArray); binOp .eql t (.agg (colCells p).toArray) (.agg (colCells q).toArray) : Sem Value)))) := by
  simp only [execOp, h, hx2, hy2]
 rw [e1]
 simp only [Sem.run_bind, run_eqGuard_agg w' .eql t x y _ _ hg, Result.andThen_ok, run_eql_struct, equal_col 9997 t i64 a e f0 f1 f2 p q ht hp n0 n1 n2 t0 t1 t2 o0 o1 o2 hi ha he hse hsa w', Sem.run_pure]
theorem QOp_neqCol (t t' i64 a e : TypeId) (f0 f1 f2 : Field) (x y : Operand) (p q : Col) (h : o.op = .binOp .neq t x y t') (hx : evalO E x = some (.d (.agg (colD p)))) (hy : evalO E y = some (.d (.agg (colD q)))) (ht : P.underlying t = some (.struct #[f0, f1, f2])) (hp : P.stoodInHeld t = false) (hg : P.eqGuardType P.depth t = false)
  (n0 : f0.name ≠ "_") (n1 : f1.name ≠ "_") (n2 : f2.name ≠ "_") (t0 : f0.type = i64) (t1 : f1.type = i64) (t2 : f2.type = a) (o0 : f0.offset = 0) (o1 : f1.offset = 1) (o2 : f2.offset = 2)
  (hi : P.underlying i64 = some (.int .i64)) (ha : P.underlying a = some (.array 136 e)) (he : P.underlying e = some (.int .u8)) (hse : ∀ w, (sizeOf e).run P w = .ok 1 w) (hsa : ∀ w, (sizeOf a).run P w = .ok 136 w) :
  QOp P n G o E H (.d (.s (.bool (!(p.eqb q))))) := by
 intro r act w hr
 refine ⟨_, .d _ _ (.s _), fun w' _ => ?_⟩
 have hx2 : act.eval x = .agg (colCells p).toArray := by
  have := evalO_sound hr hx
  cases this with | d _ _ hd => exact rep_cells hd
 have hy2 : act.eval y = .agg (colCells q).toArray := by
  have := evalO_sound hr hy
  cases this with | d _ _ hd => exact rep_cells hd
 have e1 : execOp act.eval o = (do pure (.value (← (do eqGuard .neq t x y (.agg (colCells p).toArray) (.agg (colCells q).toArray); binOp .neq t (.agg (colCells p).toArray) (.agg (colCells q).toArray) : Sem Value)))) := by
  simp only [execOp, h, hx2, hy2]
 rw [e1]
 simp only [Sem.run_bind, run_eqGuard_agg w' .neq t x y _ _ hg, Result.andThen_ok, run_neq_struct, equal_col 9997 t i64 a e f0 f1 f2 p q ht hp n0 n1 n2 t0 t1 t2 o0 o1 o2 hi ha he hse hsa w', Sem.run_pure]
end

/-! ### make([][]int64, n) -/
section
variable {P : Program} {n : Nat} {G : Ctx} {E : Env} {H : List AObj} {ops : Array Oper} {rest : List Oper} {o : Oper} {K : Env → List AObj → Prop}
end
end Go.Proofs.YtldgmcghdohmeaaGreat
