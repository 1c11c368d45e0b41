/- Own library, part 9: slices, lengths, bools, strings, tuples, closures, structs. Conditions stand in each rule. -/
import Derived.Test.YtldgmcghdohmeaaGreatAb8
set_option linter.unusedVariables false
set_option linter.unusedSimpArgs false
namespace Go.Proofs.YtldgmcghdohmeaaGreat.Ab
open Go Go.RowKit

section
variable {P : Program} {n : Nat} {G : Ctx} {E : Env} {H : List AObj} {ops : Array Oper} {rest : List Oper} {o : Oper} {K : Env → List AObj → Prop}

theorem run_builtin {a : Act} {c : Call} {b : Builtin} (hop : o.op = .call c) (hc : c.callee = .builtin b) (w : World) :
  (execOp a.eval o).run P w = (builtin b c.argTypes o.type (c.args.map fun | .const _ => true | _ => false) (c.args.map a.eval)).run P w := by
 simp only [execOp, hop, resolve, hc, Sem.run_bind, Sem.run_pure, Result.andThen_ok, invoke]
 rfl

theorem QOp_len_sl (c : Call) (t : TypeId) (e : TypeId) (x : Operand) (isNil : Option Bool) (cs : List D) (m : Nat) (hm : cs.length = m) (hop : o.op = .call c) (hc : c.callee = .builtin .len) (ha : c.args = #[x]) (ht : c.argTypes = #[t]) (hu : P.underlying t = some (.slice e))
  (he : evalO E x = some (.d (.sl isNil cs))) : QOp P n G o E H (.d (.s (.int .i64 (m : Int)))) := by
 subst hm
 intro r a w hr
 have hv := evalO_sound hr he
 cases hv with
 | d _ _ hd =>
  refine ⟨_, .d _ _ (.s _), fun w' _ => ?_⟩
  rw [run_builtin hop hc, ha, ht]
  generalize hv : a.eval x = v at hd
  cases hd with
  | sl _ _ vs A cap hl hn hcap hA hr' => simp [builtin, hv, Builtin.len_, run_underlying hu, goInt]

theorem QOp_len_vec (c : Call) (t : TypeId) (e : TypeId) (x : Operand) (k g : Nat) (cs : List D) (m : Nat) (hm : cs.length = m) (hop : o.op = .call c) (hc : c.callee = .builtin .len) (ha : c.args = #[x]) (ht : c.argTypes = #[t]) (hu : P.underlying t = some (.slice e))
  (he : evalO E x = some (.vec k g)) (hk : H[k]? = some (.vec g cs)) : QOp P n G o E H (.d (.s (.int .i64 (m : Int)))) := by
 subst hm
 intro r a w hr
 have hv := evalO_sound hr he
 cases hv with
 | vec _ _ _ ho hp =>
  obtain ⟨b, hb⟩ := hr.heap.blk hk
  obtain ⟨cap, vs, ty, e1, e2, e3⟩ := (hp g cs b hk hb).2 rfl
  refine ⟨_, .d _ _ (.s _), fun w' _ => ?_⟩
  rw [run_builtin hop hc, ha, ht]
  simp [builtin, e1, Builtin.len_, run_underlying hu, goInt]

theorem QOp_max (c : Call) (x y : Operand) (k : IntKind) (p q : Int) (hop : o.op = .call c) (hc : c.callee = .builtin .max) (ha : c.args = #[x, y]) (hx : evalO E x = some (.d (.s (.int k p)))) (hy : evalO E y = some (.d (.s (.int k q)))) : QOp P n G o E H (.d (.s (.int k (if p < q then q else p)))) :=
 fun r a w hr => ⟨_, .d _ _ (.s _), fun w' _ => by
  rw [run_builtin hop hc, ha]
  simp [builtin, evalO_s hr hx, evalO_s hr hy, Builtin.max_, Builtin.max2]⟩

theorem QOp_min (c : Call) (x y : Operand) (k : IntKind) (p q : Int) (hop : o.op = .call c) (hc : c.callee = .builtin .min) (ha : c.args = #[x, y]) (hx : evalO E x = some (.d (.s (.int k p)))) (hy : evalO E y = some (.d (.s (.int k q)))) : QOp P n G o E H (.d (.s (.int k (if q < p then q else p)))) :=
 fun r a w hr => ⟨_, .d _ _ (.s _), fun w' _ => by
  rw [run_builtin hop hc, ha]
  simp [builtin, evalO_s hr hx, evalO_s hr hy, Builtin.min_, Builtin.min2]⟩

/-! ### Elements of slices -/
theorem QOp_indexAddr_sl (t e : TypeId) (x y : Operand) (kd : IntKind) (isNil : Option Bool) (cs : List D) (i : Int) (h : o.op = .indexAddr t x y) (hu : P.underlying t = some (.slice e)) (hsz : ∀ w, (sizeOf e).run P w = .ok 1 w)
  (h0 : 0 ≤ i) (h1 : i < (cs.length : Int)) (hx : evalO E x = some (.d (.sl isNil cs))) (hy : evalO E y = some (.d (.s (.int kd i)))) : QOp P n G o E H (.d (.pv cs i.toNat)) := by
 intro r a w hr
 have hev := evalO_sound hr hx
 cases hev with
 | d _ _ hd =>
  generalize hv : a.eval x = v at hd
  cases hd with
  | sl _ _ vs A cap hl hn hcap hA hr' =>
   have hne : cs ≠ [] := fun e => by subst e; simp at h1; omega
   obtain ⟨b, off, rfl, hI, hcell⟩ := hA hne
   refine ⟨.pointer (some ⟨b, off + i.toNat, none⟩), .d _ _ (.pv cs i.toNat vs b off hl hI hcell hr'), fun w' _ => ?_⟩
   simp [execOp, h, Instr.indexAt, run_underlying hu, hv, evalO_s hr hy, asIntOf, hsz, Addr.add_lit, h0, h1]

theorem QOp_indexAddr_vec (t e : TypeId) (x y : Operand) (kd : IntKind) (k g : Nat) (cs : List D) (i : Int) (h : o.op = .indexAddr t x y) (hu : P.underlying t = some (.slice e)) (hsz : ∀ w, (sizeOf e).run P w = .ok 1 w)
  (h0 : 0 ≤ i) (h1 : i < (cs.length : Int)) (hx : evalO E x = some (.vec k g)) (hk : H[k]? = some (.vec g cs)) (hy : evalO E y = some (.d (.s (.int kd i)))) : QOp P n G o E H (.eptr k g i.toNat) := by
 intro r a w hr
 have hev := evalO_sound hr hx
 cases hev with
 | vec _ _ _ ho hp =>
  obtain ⟨b, hb⟩ := hr.heap.blk hk
  obtain ⟨cap, vs, ty, e1, e2, e3⟩ := (hp g cs b hk hb).2 rfl
  refine ⟨.pointer (some ⟨b, i.toNat, none⟩), .eptr k g _ _ ho fun g' cs' b' h2 h3 => ?_, fun w' _ => ?_⟩
  ·rw [hk] at h2; cases h2
   rw [hb] at h3; cases h3
   exact ⟨Nat.le_refl _, fun _ => rfl⟩
  ·simp [execOp, h, Instr.indexAt, run_underlying hu, e1, evalO_s hr hy, asIntOf, hsz, Addr.add_lit, h0, h1]

theorem QOp_load_eptr (t : TypeId) (x : Operand) (k g i : Nat) (cs : List D) (c : D) (h : o.op = .load t x) (ht : ∀ w, (isAgg t).run P w = .ok false w) (he : evalO E x = some (.eptr k g i)) (hk : H[k]? = some (.vec g cs)) (hc : cs[i]? = some c) : QOp P n G o E H (.d c) := by
 intro r a w hr
 have hev := evalO_sound hr he
 cases hev with
 | eptr _ _ _ _ ho hp =>
  obtain ⟨b, hb⟩ := hr.heap.blk hk
  have hv := (hp g cs b hk hb).2 rfl
  have hO := hr.heap.obj k _ b hk hb
  have hlt := hO.lt rfl
  cases hO with
  | vec _ _ vs ty hw hcap hm hl =>
   obtain ⟨u, hu, hru⟩ := hl.get hc
   refine ⟨u, .d _ _ hru, fun w' hbl => ?_⟩
   have hw' : w'.cell? ⟨b, i, none⟩ = some u := by
    rw [World.cell_block (by rw [hbl.block b hlt]; exact hw)]
    rw [List.getElem?_take] at hu
    split at hu
    ·simpa using hu
    ·simp at hu
   simp [execOp, h, Instr.loadAt, hv, Instr.sureAddr, loadVar, ht, hw']

theorem AOps_store_eptr (k g i : Nat) (t : TypeId) (x y : Operand) (cs : List D) (z : D) (hw : wantedE ops E o = some true) (hd : o.dst = none) (hop : o.op = .store t x y) (hx : evalO E x = some (.eptr k g i)) (hk : H[k]? = some (.vec g cs)) (hy : evalO E y = some (.d z))
  (hone : z.one = true) (hsz : ∀ w, (sizeOf t).run P w = .ok 1 w) (hfit : i < cs.length) (h : AOps P n G ops rest E (H.set k (.vec g (cs.set i z))) K) : AOps P n G ops (o :: rest) E H K := by
 intro r a w hr
 unfold wpList
 rw [wantedE_sound hr hw, if_pos rfl]
 left
 have hev := evalO_sound hr hx
 have hev2 := evalO_sound hr hy
 cases hev2 with
 | d _ _ hv =>
 cases hev with
 | eptr _ _ _ _ ho hp =>
  obtain ⟨b, hb⟩ := hr.heap.blk hk
  have hpx := (hp g cs b hk hb).2 rfl
  have hO := hr.heap.obj k _ b hk hb
  cases hO with
  | vec _ _ vs ty hwb hcap hm hl =>
   have h1 := hv.oneCell hone
   have hc : (a.eval y).cells = #[a.eval y] := by cases hh : a.eval y <;> simp_all [Value.cells, Value.oneCell']
   have hrun := run_storeCells_at P b i ty [a.eval y] 0 vs w hwb (by simp; omega) (by simpa using h1)
   simp only [Nat.add_zero, List.length_singleton] at hrun
   have hset : (vs.toList.take i ++ [a.eval y] ++ vs.toList.drop (i + 1)) = vs.toList.set i (a.eval y) := by
    rw [List.set_eq_take_append_cons_drop, if_pos (by simp; omega)]; simp
   rw [hset] at hrun
   have e : (execOp a.eval o).run P w = .ok .skip (w.setRow b (vs.toList.set i (a.eval y)).toArray) := by
    simp only [execOp, hop, Instr.storeAt, hpx, Instr.sureAddr, storeVar, Sem.run_bind, Sem.run_pure, Result.andThen_ok, hsz, hc]
    simp only [List.size_toArray, List.length_singleton, ne_eq, not_true_eq_false, if_false, Sem.run_pure, Result.andThen_ok, hrun]
   unfold Oper.wp
   rw [e, Oper.upon_skip]
   have hst := step_write (x' := .vec g (cs.set i z)) hr.heap hk rfl hb hwb (vs.toList.set i (a.eval y)).toArray (.inr ⟨g, cs, _, rfl, rfl, by simp, by simp⟩)
   have hnew : RepL w (imm G.F w H r) (cs.set i z) ((vs.toList.set i (a.eval y)).take cs.length) := by
    have := hl.set i hv
    rwa [← List.take_set] at this
   have hh' := hrel_write hr.heap hk rfl hb _ hst (.vec g _ _ ty (setRow_heap w b vs _ ty (0, 0) hwb) (by simpa using hcap) (by simpa using hm) (by simpa using hnew.mono hst.imm)) rfl
   rw [hd]
   exact h r _ _ (hr.go hst hh')

/-- A part of a slice that isn't written. -/
theorem QOp_slice_sl (t e : TypeId) (x : Operand) (lo hi : Option Operand) (isNil : Option Bool) (cs ds : List D) (l m : Nat) (h : o.op = .slice t x lo hi none) (hu : P.underlying t = some (.slice e)) (hsz : ∀ w, (sizeOf e).run P w = .ok 1 w)
  (hx : evalO E x = some (.d (.sl isNil cs))) (hlo : match lo with | none => l = 0 | some y => ∃ k, evalO E y = some (.d (.s (.int k (l : Int)))))
  (hhi : match hi with | none => m = cs.length | some y => ∃ k, evalO E y = some (.d (.s (.int k (m : Int))))) (hlm : l ≤ m) (hm : m ≤ cs.length) (hds : (cs.take m).drop l = ds) : QOp P n G o E H (.d (.sl isNil ds)) := by
 subst hds
 intro r a w hr
 have hev := evalO_sound hr hx
 cases hev with
 | d _ _ hd =>
  generalize hv : a.eval x = v at hd
  cases hd with
  | sl _ _ vs A cap hl hn hcap hA hr' =>
   have hbnd : ∀ w', (Instr.sliceBounds true cs.length cap (lo.map a.eval) (hi.map a.eval) none).run P w' = .ok (l, m, cap) w' := by
    intro w'
    have hmc : m ≤ cap := Nat.le_trans hm hcap
    cases lo with
    | none =>
     simp only at hlo; subst hlo
     cases hi with
     | none => simp only at hhi; subst hhi; simp [Instr.sliceBounds]
     | some y =>
      obtain ⟨k, hy⟩ := hhi
      simp [Instr.sliceBounds, evalO_s hr hy, Instr.sliceBound, asIntOf, hmc]
    | some z =>
     obtain ⟨k', hz⟩ := hlo
     cases hi with
     | none => simp only at hhi; subst hhi; simp [Instr.sliceBounds, evalO_s hr hz, Instr.sliceBound, asIntOf, hlm]
     | some y =>
      obtain ⟨k, hy⟩ := hhi
      simp [Instr.sliceBounds, evalO_s hr hy, evalO_s hr hz, Instr.sliceBound, asIntOf, hmc, hlm]
   have hlen : ((cs.take m).drop l).length = m - l := by simp; omega
   have hL : RepL w (imm G.F w H r) ((cs.take m).drop l) ((vs.take m).drop l) := (RepL.take ⟨hl, hr'⟩ m).drop l
   refine ⟨.slice (if cap = l then A else A.map (·.add (l * 1))) ((cs.take m).drop l).length (cap - l), .d _ _ (.sl isNil _ ((vs.take m).drop l) _ _ hL.1 ?_ (by omega) (fun hne => ?_) hL.2), fun w' _ => ?_⟩
   ·intro b hb; rw [← hn b hb]; split <;> simp
   ·have hne' : cs ≠ [] := fun e => hne (by subst e; simp)
    obtain ⟨b, off, rfl, hI, hcell⟩ := hA hne'
    have hlt : l < m := by
     rcases Nat.lt_or_ge l m with h | h
     ·exact h
     ·exact absurd (List.eq_nil_of_length_eq_zero (by rw [hlen]; omega)) hne
    refine ⟨b, off + l, by rw [if_neg (by omega)]; simp [Addr.add_lit], hI, fun i u hu => ?_⟩
    rw [List.getElem?_drop, List.getElem?_take] at hu
    split at hu
    ·rw [Nat.add_assoc]; exact hcell _ u hu
    ·simp at hu
   ·have hu' := run_underlying hu w'
    rw [hlen]
    simp [execOp, h, Instr.sliceAt, Instr.slice, run_underlying hu, hv, hbnd, hsz]

/-! ### Tuples, closures, structs by value -/
theorem QOp_extract (x : Operand) (i : Nat) (cs : List AV) (v : AV) (h : o.op = .extract x i) (he : evalO E x = some (.tup cs)) (hi : cs[i]? = some v) : QOp P n G o E H v := by
 intro r a w hr
 have hev := evalO_sound hr he
 generalize hv : a.eval x = y at hev
 cases hev with
 | tup _ vs hl hc =>
  have hlt : i < vs.size := by rw [hl]; exact (List.getElem?_eq_some_iff.1 hi).1
  have e2 : vs[i]? = some vs[i] := Array.getElem?_eq_getElem hlt
  exact ⟨vs[i], hc i v _ hi e2, fun w' _ => by simp [execOp, h, hv, Instr.extract, e2]⟩

theorem QOp_makeFunc (f : FuncId) (caps : Array Operand) (cs : List AV) (h : o.op = .makeFunc (.func f) #[] caps) (hc : evalL E caps.toList = some cs) : QOp P n G o E H (.clo f cs) := by
 intro r a w hr
 have hs := evalL_sound hr hc
 refine ⟨.func (.func f) #[] (caps.map a.eval), ?_, fun w' _ => by simp [execOp, h, Instr.makeFunc]⟩
 rw [map_eq]
 exact .clo f cs _ hs.1 hs.2

theorem QOp_makeFuncD (f : FuncId) (caps : Array Operand) (cs : List AV) (ds : List D) (h : o.op = .makeFunc (.func f) #[] caps) (hc : evalL E caps.toList = some cs) (hd : allD cs = some ds) : QOp P n G o E H (.d (.clo f ds)) := by
 intro r a w hr
 have hs := evalL_sound hr hc
 refine ⟨.func (.func f) #[] (caps.map a.eval), ?_, fun w' _ => by simp [execOp, h, Instr.makeFunc]⟩
 rw [map_eq]
 have := allD_get hd
 subst this
 refine .d _ _ (.clo f ds _ (by simpa using hs.1) fun i c v h1 h2 => ?_)
 have := hs.2 i (.d c) v (by simp [h1]) h2
 cases this with | d _ _ hd => exact hd

theorem equal_bool (t : TypeId) (p q : Bool) (hu : P.underlying t = some .bool) (w : World) : (Op.equal t (.bool p) (.bool q)).run P w = .ok (p == q) w := by
 have e : Op.maxDepth = 9999 + 1 := rfl
 unfold Op.equal
 rw [e, Op.equalIn]
 simp [run_underlying hu]

theorem QOp_bneq (t t' : TypeId) (x y : Operand) (p q : Bool) (h : o.op = .binOp .neq t x y t') (hx : evalO E x = some (.d (.s (.bool p)))) (hy : evalO E y = some (.d (.s (.bool q)))) (hu : P.underlying t = some .bool) : QOp P n G o E H (.d (.s (.bool (!(p == q))))) :=
 QOp_bin .neq t t' x y _ _ _ h hx hy fun w => by simp [eqGuard_at_bool, binOp, equal_bool t p q hu]

end
end Go.Proofs.YtldgmcghdohmeaaGreat.Ab
