/- Own library, part 31: a whole array that is filled by a copy into a slice of it. Conditions stand in each rule. -/
import Derived.Test.YtghhnpdhehjlaaaGreatAb30
set_option linter.unusedVariables false
set_option linter.unusedSimpArgs false
namespace Go.Proofs.YtghhnpdhehjlaaaGreat.Ab
open Go Go.RowKit

section
variable {P : Program} {n : Nat} {G : Ctx} {E : Env} {H : List AObj} {ops : Array Oper} {rest : List Oper} {o1 o2 o3 : Oper} {K : Env → List AObj → Prop}

/-- A slot that nothing is told of may hold what it likes. -/
theorem Rel.putAny {r : List Nat} {a : Act} {w : World} (h : Rel n G E H r a w) (dst : Option Tmp) (x : Value) (d : Nat) (hd : dst = some d) (hE : E.get d = none) : Rel n G E H r (a.put dst x) w := by
  subst hd
  refine ⟨by simp [Act.put, h.size], by simp [Act.put, h.defers], fun t u hu => ?_, h.heap, h.step⟩
  have e : d ≠ t := by rintro rfl; rw [hE] at hu; cases hu
  obtain ⟨y, hy, hr⟩ := h.env t u hu
  exact ⟨y, by simp [Act.put, Array.getElem?_setIfInBounds, e, hy], hr⟩
theorem eval_put_self {r : List Nat} {a : Act} {w : World} (h : Rel n G E H r a w) (dst : Option Tmp) (x : Value) (d : Nat) (hd : dst = some d) (hlt : d < n) : (a.put dst x).eval (.tmp d) = x := by
  subst hd
  simp [Act.put, Act.eval, Array.getD_eq_getD_getElem?, Array.getElem?_setIfInBounds, h.size, hlt]
theorem eval_put_ne {a : Act} (dst : Option Tmp) (x : Value) (d d' : Nat) (hd : dst = some d) (hne : d ≠ d') : (a.put dst x).eval (.tmp d') = a.eval (.tmp d') := by
  subst hd
  simp [Act.put, Act.eval, Array.getD_eq_getD_getElem?, Array.getElem?_setIfInBounds, hne]

theorem AOps_arrCopy (d1 d2 d3 : Nat) (c : Call) (t ts t2 e : TypeId) (x y : Operand) (k N : Nat) (v : AV) (cs ds : List D)
    (hg1 : o1.guard = none) (hd1 : o1.dst = some d1) (hlt1 : Nat.ble (d1 + 1) n = true) (h1 : o1.op = .slice t x none none none) (hu : P.underlying t = some (.array N e)) (hsz : ∀ w, (sizeOf e).run P w = .ok 1 w) (hE : E.get d1 = none)
    (hx : evalO E x = some (.ptr k 0)) (hk : H[k]? = some (.box cs)) (hN : cs.length = N) (hN0 : Nat.ble 1 N = true)
    (hg2 : o2.guard = none) (hd2 : o2.dst = some d2) (hlt2 : Nat.ble (d2 + 1) n = true) (h2 : o2.op = .move y) (hy : evalO E y = some v) (hv : sliceOf H v = some ds) (hone : ∀ c ∈ ds, c.one = true) (hne : d2 ≠ d1)
    (hg3 : o3.guard = none) (hd3 : o3.dst = some d3) (hlt3 : Nat.ble (d3 + 1) n = true) (hop : o3.op = .call c) (hc : c.callee = .builtin .copy) (ha : c.args = #[.tmp d1, .tmp d2]) (ht : c.argTypes = #[ts, t2]) (hus : P.underlying ts = some (.slice e)) (hs : (P.info? e).map (·.size) = some 1)
    (q : Nat) (hq : min ds.length N = q)
    (h : AOps P n G ops rest ((d3, .d (.s (.int .i64 (q : Int)))) :: (d2, v) :: E) (H.set k (.box (spliced cs 0 N ds))) K) : AOps P n G ops (o1 :: o2 :: o3 :: rest) E H K := by
  subst hq
  intro r a w hr
  have hN1 : 1 ≤ N := Nat.le_of_ble_eq_true hN0
  have wn : ∀ (o : Oper) z, o.guard = none → Region.wanted o z = true := fun o z hg => by simp [Region.wanted, hg]
  have hev := evalO_sound hr hx
  generalize hxv : a.eval x = xv at hev
  cases hev with
  | ptr _ _ _ ho hp =>
    obtain ⟨b, hb⟩ := hr.heap.blk hk
    have hpx := hp _ b hk hb rfl
    subst hpx
    have hO := hr.heap.obj k _ b hk hb
    cases hO with
    | box _ vs ty hwb hl =>
      have hvl : vs.size = cs.length := by simpa using hl.1
      -- the slice
      unfold wpList
      rw [wn o1 _ hg1, if_pos rfl]
      left
      have e1 : ∀ w', (execOp a.eval o1).run P w' = .ok (.value (.slice (some ⟨b, 0, none⟩) N N)) w' := by
        intro w'
        have hbnd : (Instr.sliceBounds false N N none none none).run P w' = .ok (0, N, N) w' := by simp [Instr.sliceBounds]
        have h0 : ¬ N = 0 := by omega
        simp [execOp, h1, Instr.sliceAt, run_underlying hu, hxv, Instr.sureAddr, hbnd, hsz, h0, Addr.add_lit]
      unfold Oper.wp
      rw [e1 w, Oper.upon_value]
      have hr1 := hr.putAny o1.dst (.slice (some ⟨b, 0, none⟩) N N) d1 hd1 hE
      have ev1 := eval_put_self hr o1.dst (.slice (some ⟨b, 0, none⟩) N N) d1 hd1 (Nat.le_of_ble_eq_true hlt1)
      generalize a.put o1.dst (.slice (some ⟨b, 0, none⟩) N N) = a1 at hr1 ev1
      -- the move
      obtain ⟨x2, hx2, hrun2⟩ := QOp_move (P := P) (o := o2) y v h2 hy r a1 w hr1
      unfold wpList
      rw [wn o2 _ hg2, if_pos rfl]
      left
      unfold Oper.wp
      rw [hrun2 w (Below.refl _ _), Oper.upon_value]
      have hr2 := hr1.put (Step.refl _ _ _) hr1.heap o2.dst x2 v d2 hd2 (Nat.le_of_ble_eq_true hlt2) hx2
      have ev2 := eval_put_self hr1 o2.dst x2 d2 hd2 (Nat.le_of_ble_eq_true hlt2)
      have ev1' := (eval_put_ne (a := a1) o2.dst x2 d2 d1 hd2 hne).trans ev1
      generalize a1.put o2.dst x2 = a2 at hr2 ev2 ev1'
      -- the copy
      unfold wpList
      rw [wn o3 _ hg3, if_pos rfl]
      left
      obtain ⟨A, cap2, vs2, ey, hL2, hA2⟩ := sliceOf_sound hr.heap hv hx2
      have hones := hL2.oneCells hone
      have hl2 : vs2.length = ds.length := hL2.1
      have hrun := run_copy_part (P := P) w ts t2 o3.type e b 0 N N ds.length cap2 A vs ty vs2 hus hs hwb hl2 (by
        rcases hA2 with h | h
        · left; apply List.eq_nil_of_length_eq_zero; rw [hl2, h]; rfl
        · exact .inr h) 0 (fun _ => rfl) (by omega) hones
      have ex : (execOp a2.eval o3).run P w = .ok (.value (.int .i64 ((min ds.length N : Nat) : Int))) (w.setRow b (vs.toList.take 0 ++ vs2.take N ++ vs.toList.drop (0 + min ds.length N)).toArray) := by
        rw [run_builtin hop hc, ha, ht]
        have : (#[.tmp d1, .tmp d2] : Array Operand).map a2.eval = #[.slice (some ⟨b, 0, none⟩) N N, .slice A ds.length cap2] := by simp [ev1', ev2, ey]
        simp only [builtin, this, Sem.run_bind, hrun, Result.andThen_ok, Sem.run_pure, goInt]
      unfold Oper.wp
      rw [ex, Oper.upon_value]
      have hst := step_write (x' := .box (spliced cs 0 N ds)) hr.heap hk rfl hb hwb (vs.toList.take 0 ++ vs2.take N ++ vs.toList.drop (0 + min ds.length N)).toArray (.inl ⟨rfl, rfl⟩)
      have hnew : RepL w (imm G.F w H r) (spliced cs 0 N ds) (vs.toList.take 0 ++ vs2.take N ++ vs.toList.drop (0 + min ds.length N)) := ((hl.take 0).append (hL2.take N)).append (hl.drop _)
      have hh' := hrel_write hr.heap hk rfl hb _ hst (.box _ _ ty (setRow_heap w b vs _ ty (0, 0) hwb) (by simpa using hnew.mono hst.imm)) rfl
      exact h r _ _ (hr2.put hst hh' o3.dst _ _ d3 hd3 (Nat.le_of_ble_eq_true hlt3) (.d _ _ (.s _)))
end
end Go.Proofs.YtghhnpdhehjlaaaGreat.Ab
