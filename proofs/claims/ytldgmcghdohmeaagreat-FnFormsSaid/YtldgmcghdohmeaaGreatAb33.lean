/- Own library, part 33: a reading call over slices of arrays that lie in two boxes. Conditions stand in each rule. -/
import Derived.Test.YtldgmcghdohmeaaGreatMg38
import Derived.Test.YtldgmcghdohmeaaGreatMg13
set_option linter.unusedVariables false
set_option linter.unusedSimpArgs false
namespace Go.Proofs.YtldgmcghdohmeaaGreat.Ab
open Go Go.RowKit

section
variable {P : Program} {n : Nat} {G : Ctx} {E : Env} {H : List AObj} {ops : Array Oper} {rest : List Oper} {o2 o3 o4 o5 : Oper} {K : Env → List AObj → Prop}

/-- A slice of an array in a box, as data for a while. -/
theorem box_slice {F : Nat → Prop} {w : World} {H : List AObj} {r : List Nat} {k b off N : Nat} {cs ds : List D} (hh : HRel F w H r) (hk : H[k]? = some (.box cs)) (hb : r[k]? = some b) (hds : ds = (cs.drop off).take N) (hN : ds.length = N) :
  RepD w (imm (fun _ => False) w [] []) (.sl none ds) (.slice (some ⟨b, off, none⟩) N N) := by
 have hO := hh.obj k _ b hk hb
 cases hO with
 | box _ vs ty hwb hl =>
  have hL : RepL w (imm F w H r) ds ((vs.toList.drop off).take N) := by rw [hds]; exact (hl.drop off).take N
  have hL2 : RepL w (imm (fun _ => False) w [] []) ds ((vs.toList.drop off).take N) := hL.mono fun c hc => ⟨rfl, ⟨hc.1.1, fun _ _ hx => by simp at hx⟩, id⟩
  have := RepD.sl (w := w) (I := imm (fun _ => False) w [] []) none ds ((vs.toList.drop off).take N) (some ⟨b, off, none⟩) N hL2.1 (fun b hb => by cases hb) (by omega)
   (fun _ => ⟨b, off, rfl, ⟨⟨(Array.getElem?_eq_some_iff.1 hwb).1, fun _ _ hx => by simp at hx⟩, id⟩, fun i v hv => by
    rw [World.cell_block hwb]
    rw [List.getElem?_take] at hv
    split at hv
    ·rw [List.getElem?_drop] at hv
     simpa using hv
    ·cases hv⟩) hL2.2
  rw [hN] at this
  exact this

theorem AQ_cmpArr {KQ : Env → Prop} (d2 d3 d4 d5 : Nat) (c : Call) (fop : Operand) (fv : AV) (f : FuncId) (t e : TypeId) (x : Operand) (k1 k2 off N : Nat) (cs1 cs2 ds1 ds2 : List D) (y : Value)
  (hg2 : o2.guard = none) (hd2 : o2.dst = some d2) (hlt2 : Nat.ble (d2 + 1) n = true) (h2 : o2.op = .slice t x none none none) (hu : P.underlying t = some (.array N e)) (hsz : ∀ w, (sizeOf e).run P w = .ok 1 w) (hE2 : E.get d2 = none)
  (hx : evalO E x = some (.ptr k1 off)) (hk1 : H[k1]? = some (.box cs1)) (hk2 : H[k2]? = some (.box cs2)) (hN0 : Nat.ble 1 N = true) (hl1 : ds1 = (cs1.drop off).take N) (hl2 : ds2 = (cs2.drop off).take N) (hN1 : ds1.length = N) (hN2 : ds2.length = N)
  (hg3 : o3.guard = none) (hd3 : o3.dst = some d3) (hlt3 : Nat.ble (d3 + 1) n = true) (hq3 : QOp P n G o3 E H (.ptr k2 off))
  (hg4 : o4.guard = none) (hd4 : o4.dst = some d4) (hlt4 : Nat.ble (d4 + 1) n = true) (h4 : o4.op = .slice t (.tmp d3) none none none) (hE4 : E.get d4 = none) (h23 : d3 ≠ d2) (h34 : d3 ≠ d4) (h24 : d4 ≠ d2)
  (hg5 : o5.guard = none) (hd5 : o5.dst = some d5) (hlt5 : Nat.ble (d5 + 1) n = true) (hop : o5.op = .call c) (hc : c.callee = .value fop) (hf : evalO ((d3, .ptr k2 off) :: E) fop = some fv) (hcl : calleeOf fv = some (f, [])) (ha : c.args = #[.tmp d2, .tmp d4])
  (hcall : ∀ args w, (callFunc f args).run P w = .ok (.enter f args) w) (hac : AC P f [.d (.sl none ds1), .d (.sl none ds2)] [] (fun res H' => res = [.d (.s y)] ∧ H' = []))
  (h : AQ P n G ops rest ((d5, .d (.s y)) :: (d3, .ptr k2 off) :: E) H KQ) : AQ P n G ops (o2 :: o3 :: o4 :: o5 :: rest) E H KQ := by
 intro r a w hr
 have hN1' : 1 ≤ N := Nat.le_of_ble_eq_true hN0
 have wn : ∀ (o : Oper) z, o.guard = none → Region.wanted o z = true := fun o z hg => by simp [Region.wanted, hg]
 obtain ⟨b1, hb1⟩ := hr.heap.blk hk1
 obtain ⟨b2, hb2⟩ := hr.heap.blk hk2
 have hbnd : ∀ w', (Instr.sliceBounds false N N none none none).run P w' = .ok (0, N, N) w' := fun w' => by simp [Instr.sliceBounds]
 have h0 : ¬ N = 0 := by omega
 have hev := evalO_sound hr hx
 generalize hxv : a.eval x = xv at hev
 cases hev with
 | ptr _ _ _ ho hp =>
  have hpx := hp _ b1 hk1 hb1 rfl
  subst hpx
  unfold wpQuiet
  rw [wn o2 _ hg2, if_pos rfl]
  refine ⟨.slice (some ⟨b1, off, none⟩) N N, fun w' hw' => ?_, ?_⟩
  ·have e2 : (execOp a.eval o2).run P w' = .ok (.value (.slice (some ⟨b1, off, none⟩) N N)) w' := by
    simp [execOp, h2, Instr.sliceAt, run_underlying hu, hxv, Instr.sureAddr, hbnd, hsz, h0, Addr.add_lit]
   unfold Oper.quietAt
   rw [e2]
   exact ⟨rfl, rfl⟩
  have hr2 := hr.putAny o2.dst (.slice (some ⟨b1, off, none⟩) N N) d2 hd2 hE2
  have ev2 := eval_put_self hr o2.dst (.slice (some ⟨b1, off, none⟩) N N) d2 hd2 (Nat.le_of_ble_eq_true hlt2)
  generalize a.put o2.dst (.slice (some ⟨b1, off, none⟩) N N) = a2 at hr2 ev2 ⊢
  obtain ⟨x3, hx3, hrun3⟩ := hq3 r a2 w hr2
  unfold wpQuiet
  rw [wn o3 _ hg3, if_pos rfl]
  refine ⟨x3, fun w' hw' => ?_, ?_⟩
  ·unfold Oper.quietAt
   rw [hrun3 w' hw']
   exact ⟨rfl, rfl⟩
  have hr3 := hr2.put (Step.refl _ _ _) hr2.heap o3.dst x3 _ d3 hd3 (Nat.le_of_ble_eq_true hlt3) hx3
  have ev3 := eval_put_self hr2 o3.dst x3 d3 hd3 (Nat.le_of_ble_eq_true hlt3)
  have ev2' := (eval_put_ne (a := a2) o3.dst x3 d3 d2 hd3 h23).trans ev2
  generalize a2.put o3.dst x3 = a3 at hr3 ev3 ev2' ⊢
  have hx3v : x3 = .pointer (some ⟨b2, off, none⟩) := by
   cases hx3 with
   | ptr _ _ _ ho hp => exact hp _ b2 hk2 hb2 rfl
  subst hx3v
  unfold wpQuiet
  rw [wn o4 _ hg4, if_pos rfl]
  refine ⟨.slice (some ⟨b2, off, none⟩) N N, fun w' hw' => ?_, ?_⟩
  ·have e4 : (execOp a3.eval o4).run P w' = .ok (.value (.slice (some ⟨b2, off, none⟩) N N)) w' := by
    simp [execOp, h4, Instr.sliceAt, run_underlying hu, ev3, Instr.sureAddr, hbnd, hsz, h0, Addr.add_lit]
   unfold Oper.quietAt
   rw [e4]
   exact ⟨rfl, rfl⟩
  have hE4' : Env.get ((d3, .ptr k2 off) :: E) d4 = none := by rw [Env.get_cons_ne _ E h34]; exact hE4
  have hr4 := hr3.putAny o4.dst (.slice (some ⟨b2, off, none⟩) N N) d4 hd4 hE4'
  have ev4 := eval_put_self hr3 o4.dst (.slice (some ⟨b2, off, none⟩) N N) d4 hd4 (Nat.le_of_ble_eq_true hlt4)
  have ev2'' := (eval_put_ne (a := a3) o4.dst (.slice (some ⟨b2, off, none⟩) N N) d4 d2 hd4 h24).trans ev2'
  generalize a3.put o4.dst (.slice (some ⟨b2, off, none⟩) N N) = a4 at hr4 ev4 ev2'' ⊢
  unfold wpQuiet
  rw [wn o5 _ hg5, if_pos rfl]
  refine ⟨y, fun w' hw' => ?_, h r _ w (hr4.put (Step.refl _ _ _) hr4.heap o5.dst y _ d5 hd5 (Nat.le_of_ble_eq_true hlt5) (.d _ _ (.s y)))⟩
  have hr' := hr4.below hw'
  obtain ⟨vs, hxf, hvs⟩ := calleeOf_sound hcl (evalO_sound hr' hf)
  obtain rfl : vs = #[] := by
   have := hvs.1
   simpa using this
  unfold Oper.quietAt
  rw [run_call hop hc hxf hcall]
  refine ⟨rfl, ?_⟩
  rw [Array.append_empty, ha]
  have hargs : RepVs (fun _ => False) w' [] [] [.d (.sl none ds1), .d (.sl none ds2)] ((#[.tmp d2, .tmp d4] : Array Operand).map a4.eval) := by
   have em : (#[.tmp d2, .tmp d4] : Array Operand).map a4.eval = #[.slice (some ⟨b1, off, none⟩) N N, .slice (some ⟨b2, off, none⟩) N N] := by simp [ev2'', ev4]
   rw [em]
   refine ⟨rfl, fun i c v h1 h2 => ?_⟩
   match i, h1, h2 with
   | 0, h1, h2 => simp at h1 h2; subst h1; subst h2; exact .d _ _ (box_slice hr'.heap hk1 hb1 hl1 hN1)
   | 1, h1, h2 => simp at h1 h2; subst h1; subst h2; exact .d _ _ (box_slice hr'.heap hk2 hb2 hl2 hN2)
   | i + 2, h1, h2 => simp at h1
  refine (hac (fun _ => False) w' [] _ (hrel_nil w') hargs).mono ?_
  rintro e' w'' ⟨res, H', r', u, rfl, ⟨rfl, rfl⟩, hh, hres, hs⟩
  have hbl := below_of_step hs
  have eu : u = y := by
   cases hres with
   | d _ _ hd => cases hd; rfl
  subst eu
  exact ⟨rfl, hw'.trans (hbl.mono hw'.size)⟩
end
theorem colD_cut (x : Col) : bysD x.e.l = ((colD x).drop 2).take 136 := by
 show byD x.e = (byD x.e).take 136
 rw [List.take_of_length_le (by rw [byD_length]; exact Nat.le_refl _)]
theorem colD_cutl (x : Col) : (bysD x.e.l).length = 136 := byD_length x.e
end Go.Proofs.YtldgmcghdohmeaaGreat.Ab
