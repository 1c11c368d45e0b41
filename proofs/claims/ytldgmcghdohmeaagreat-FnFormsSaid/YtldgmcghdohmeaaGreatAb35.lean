/- Own library, part 35: a call that reads a table whose rows are the call's own; a row of such a table that is put anew. No conditions. -/
import Derived.Test.YtldgmcghdohmeaaGreatAb34
import Derived.Test.YtldgmcghdohmeaaGreatMatR
set_option linter.unusedVariables false
set_option linter.unusedSimpArgs false
namespace Go.Proofs.YtldgmcghdohmeaaGreat
open Go Go.RowKit Ab

section
variable {P : Program} {n : Nat} {G : Ctx} {ops : Array Oper} {o : Oper} {rest l : List Oper} {E : Env} {H : List AObj} {w : World} {r : List Nat} {a : Act} {M : Rws} {KM : Env → List AObj → Rws → Prop} {T : List (List Int)} {hd : List (Nat × Nat × Nat)}

theorem rep_tab {k g : Nat} {ds : List D} {xs : Array Value} (hr : MRel n G M E H r a w) (hH : H[k]? = some (.vec g (hdD hd))) (hT : TabF T hd M) (h : RepVs (GM G M).F w H r (.vec k g :: ds.map AV.d) xs) :
  RepVs (fun _ => False) w [] [] (.d (.sl none (rowsD T)) :: ds.map AV.d) xs := by
 refine ⟨by simpa using h.1, fun i c v h1 h2 => ?_⟩
 cases i with
 | zero =>
  simp at h1
  subst h1
  have hv := h.2 0 _ v rfl h2
  obtain ⟨b, hb⟩ := hr.rel.heap.blk hH
  cases hv with
  | vec _ _ _ ho hp =>
   obtain ⟨cap, vs, ty, rfl, e2, e3⟩ := (hp g _ b hH hb).2 rfl
   have hO := hr.rel.heap.obj k _ b hH hb
   cases hO with
   | vec _ _ vs' ty' hb' hc hm hl =>
    rw [hb'] at e2
    cases e2
    subst e3
    have hvals : vs.toList.take hd.length = hd.map hdV := by
     have h1 : hdD hd = (hd.map hdV).map D.s := by simp [hdD, hX, hdV, Function.comp_def]
     rw [h1] at hl
     have := RepL.of_map_s hl
     rw [List.length_map, List.length_map] at this
     exact this
    rw [hdD_length] at hc ⊢
    have hlen := hT.1
    have := RepD.sl (w := w) (I := imm (fun _ => False) w [] []) none (rowsD T) (hd.map hdV) (some ⟨b, 0, none⟩) vs.size (by rw [rowsD_length, List.length_map, hlen]) (fun b hb => by cases hb) (by rw [rowsD_length, hlen]; exact hc)
     (fun _ => ⟨b, 0, rfl, imm0 (Array.getElem?_eq_some_iff.1 hb').1, fun i v hv => by
      rw [World.cell_block hb']
      rw [← hvals, List.getElem?_take] at hv
      split at hv
      ·simpa using hv
      ·simp at hv⟩) (fun i c v h7 h8 => by
      rw [List.getElem?_map] at h8
      cases hi : hd[i]? with
      | none => rw [hi] at h8; cases h8
      | some p =>
       rw [hi] at h8
       cases h8
       have hlt : i < hd.length := (List.getElem?_eq_some_iff.1 hi).1
       have e1 : hd.getD i (0, 0, 0) = p := by simp [List.getD, hi]
       rw [rowsD_get T i [] (by omega)] at h7
       cases h7
       rw [← e1]
       exact rep_row (hT.2 i hlt) hr.here)
    rw [rowsD_length, hlen] at this
    exact .d _ _ this
 | succ i =>
  have h3 := h.2 (i + 1) c v h1 h2
  simp only [List.getElem?_cons_succ, List.getElem?_map] at h1
  cases hd : ds[i]? with
  | none => rw [hd] at h1; cases h1
  | some d =>
   rw [hd] at h1
   cases h1
   cases h3 with
   | d _ _ hd => exact .d _ _ (hd.mono fun b hb => ⟨rfl, imm0 hb.1.1⟩)

/-- A call that reads the table. -/
theorem MOps_callT (hG : G.H = []) (hF : ∀ b, G.F b → b < G.w.heap.size) (d k g : Nat) (y : Value) (ds : List D) {c : Call} {fop : Operand} {fv : AV} {f : FuncId}
  (hw : wantedE ops E o = some true) (hd1 : o.dst = some d) (hlt : Nat.ble (d + 1) n = true) (hop : o.op = .call c) (hc : c.callee = .value fop) (hf : evalO E fop = some fv) (hcl : calleeOf fv = some (f, []))
  (hcall : ∀ args w, (callFunc f args).run P w = .ok (.enter f args) w) (ha : evalL E c.args.toList = some (.vec k g :: ds.map AV.d)) (hH : H[k]? = some (.vec g (hdD hd))) (hT : TabF T hd M)
  (hac : AC P f (.d (.sl none (rowsD T)) :: ds.map AV.d) [] (fun res H' => res = [.d (.s y)] ∧ H' = [])) (h : MOps P n G ops rest ((d, .d (.s y)) :: E) H M KM) : MOps P n G ops (o :: rest) E H M KM := by
 intro r a w hr
 unfold wpList
 rw [wantedE_sound hr.rel hw, if_pos rfl]
 left
 unfold Oper.wp
 obtain ⟨vs, hx, hvs⟩ := calleeOf_sound hcl (evalO_sound hr.rel hf)
 obtain rfl : vs = #[] := by
  have := hvs.1
  simpa using this
 rw [run_call hop hc hx hcall, Oper.upon_enter, Array.append_empty]
 have hargs : RepVs (GM G M).F w H r (.vec k g :: ds.map AV.d) (c.args.map a.eval) := by rw [map_eq]; exact evalL_sound hr.rel ha
 refine (calls_flat hac (rep_tab hr hH hT hargs)).mono ?_
 rintro e w' ⟨rfl, hb⟩
 have hr' := hr.keep hG hF (keep_below hb hr.nd hr.here)
 refine h r _ w' ⟨?_, hr'.nd, hr'.new, hr'.here⟩
 exact hr'.rel.put (Step.refl _ _ _) hr'.rel.heap o.dst y _ d hd1 (Nat.le_of_ble_eq_true hlt) (.d _ _ (.s y))

theorem tab_put {b j : Nat} {q : Nat × Nat} {vs : Array Value} {l : List Int} (hnd : (hd.map (·.1)).Nodup) (hj : j < hd.length) (hT : TabX T hd M (j : Int)) (hb : b ∉ M.map (·.1)) (hr : RowOK ((b, vs) :: M) (b, q) l) :
  TabF (T.set j l) (hd.set j (b, q)) ((b, vs) :: M) ∧ ((hd.set j (b, q)).map (·.1)).Nodup := by
 have hlen := hT.1
 have hget : ∀ i, i < hd.length → i ≠ j → (hd.set j (b, q)).getD i (0, 0, 0) = hd.getD i (0, 0, 0) := fun i _ e => by simp [List.getD, List.getElem?_set, Ne.symm e]
 refine ⟨⟨by simp [hlen], fun i hi => ?_⟩, ?_⟩
 ·rw [List.length_set] at hi
  by_cases e : i = j
  ·subst e
   have e1 : (hd.set i (b, q)).getD i (0, 0, 0) = (b, q) := by simp [List.getD, hi]
   have e2 : (T.set i l).getD i [] = l := by simp [List.getD, show i < T.length by omega]
   rw [e1, e2]
   exact hr
  ·rw [hget i hi e, show (T.set j l).getD i [] = T.getD i [] by simp [List.getD, List.getElem?_set, Ne.symm e]]
   exact (hT.2 i hi (by omega)).mono fun us hm => List.mem_cons_of_mem _ hm
 ·have hnb : ∀ i, i < hd.length → i ≠ j → (hd.getD i (0, 0, 0)).1 ≠ b := fun i hi e e2 => by
   obtain ⟨us, hu, _⟩ := hT.2 i hi (by omega)
   rw [e2] at hu
   exact hb (List.mem_map.2 ⟨_, hu, rfl⟩)
  unfold List.Nodup
  rw [List.pairwise_iff_getElem]
  intro x y hx' hy' hxy
  have hx : x < hd.length := by simpa using hx'
  have hy : y < hd.length := by simpa using hy'
  have gx : ∀ i (hi : i < ((hd.set j (b, q)).map (·.1)).length), ((hd.set j (b, q)).map (·.1))[i] = ((hd.set j (b, q)).getD i (0, 0, 0)).1 := fun i hi => by
   rw [List.getElem_map]
   unfold List.getD
   rw [List.getElem?_eq_getElem (by simpa using hi)]
   rfl
  rw [gx x hx', gx y hy']
  by_cases ex : x = j
  ·subst ex
   rw [hget y hy (by omega), show (hd.set x (b, q)).getD x (0, 0, 0) = (b, q) by simp [List.getD, hx]]
   exact fun e => hnb y hy (by omega) e.symm
  ·by_cases ey : y = j
   ·subst ey
    rw [hget x hx ex, show (hd.set y (b, q)).getD y (0, 0, 0) = (b, q) by simp [List.getD, hy]]
    exact hnb x hx ex
   ·rw [hget x hx ex, hget y hy ey]
    exact hd_ne hnd hx hy (by omega)
end
end Go.Proofs.YtldgmcghdohmeaaGreat
