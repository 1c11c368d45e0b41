/- Own library, part 17: variables that hold an owned slice: handed in, stored to. No conditions. -/
import Derived.Test.YtghhnpdhehjlaaaGreatAb16
set_option linter.unusedVariables false
set_option linter.unusedSimpArgs false
namespace Go.Proofs.YtghhnpdhehjlaaaGreat.Ab
open Go Go.RowKit

section
variable {P : Program} {n : Nat} {G : Ctx} {E : Env} {H : List AObj}

variable {ops : Array Oper} {rest : List Oper} {o : Oper} {K : Env → List AObj → Prop}

theorem run_append_0 (w : World) (t ty e : TypeId) (i : TypeInfo) (z : Value) (ht : P.underlying t = some (.slice e)) (hi : P.info? e = some i) (hz : i.zero = some z) (A : Option Addr)
    (a : Addr) (m c : Nat) (news : List Value) (hl : news.length = m * i.size) (hnews : ∀ j v, news[j]? = some v → w.cell? (a.add j) = some v)
    (hg : 0 < m) (h63 : ((m : Nat) : Int) ≤ 9223372036854775807) (hfit : Builtin.nextslicecap m 0 * i.bytes ≤ 281474976710656) :
    (Builtin.append_ #[t, t] ty #[.slice A 0 0, .slice (some a) m c]).run P w =
      .ok (.slice (some ⟨w.heap.size, 0, none⟩) m (grownCap w m 0 e)) (w.drew.alloc (.cells (news.toArray ++ Builtin.zeroCells z.cells (grownCap w m 0 e - m)) e)) := by
  have hn : ¬ (m ≤ 0) := by omega
  have h63' : ¬ (9223372036854775807 < (m : Int)) := by omega
  have h48' : ¬ (281474976710656 < Builtin.nextslicecap m 0 * i.bytes) := by omega
  have hf := run_firstCells_some (P := P) w.drew i.size m a m c news hl (by simpa using hnews)
  have hfo : ∀ w', (Builtin.firstCells i.size 0 (.slice A 0 0)).run P w' = .ok #[] w' := by
    intro w'
    cases A <;> simp [Builtin.firstCells, loadCells, loadCellsFrom]
  have hm0 : ¬ m = 0 := by omega
  simp [Builtin.append_, run_underlying ht, sizeOf, typeInfo, zeroValue, hi, hz, Builtin.lenOf, hn, h63', h48', Question.forced, hf, hfo, newRow, grownCap, hm0]

/-- append to an empty slice without room. -/
theorem AOps_append0 (d : Nat) (c : Call) (t e : TypeId) (x y : Operand) (f : Option Bool) (v : AV) (ds : List D) (i : TypeInfo) (z : Value) (hw : wantedE ops E o = some true) (hd : o.dst = some d) (hlt : Nat.ble (d + 1) n = true) (hop : o.op = .call c) (hc : c.callee = .builtin .append)
    (ha : c.args = #[x, y]) (ht : c.argTypes = #[t, t]) (hu : P.underlying t = some (.slice e)) (hi : P.info? e = some i) (hz : i.zero = some z) (hz1 : z.oneCell' = true) (hsz : i.size = 1) (hby : i.bytes ≤ 64)
    (hx : evalO E x = some (.d (.se f))) (hy : evalO E y = some v) (hv : sliceOf H v = some ds) (hone : ∀ c ∈ ds, c.one = true) (hlen : ds.length ≤ 1099511627776) (hne : ds.length ≠ 0)
    (h : AOps P n G ops rest ((d, .vec H.length 0) :: E) (H ++ [.vec 0 ds]) K) : AOps P n G ops (o :: rest) E H K := by
  intro r a w hr
  unfold wpList
  rw [wantedE_sound hr hw, if_pos rfl]
  left
  have hev := evalO_sound hr hx
  obtain ⟨A, cap2, vs2, ey, hL2, hA2⟩ := sliceOf_sound hr.heap hv (evalO_sound hr hy)
  generalize hxv : a.eval x = xv at hev
  cases hev with
  | d _ _ hd' =>
  cases hd' with
  | se _ B hn =>
  have hl2 : vs2.length = ds.length := hL2.1
  have hones := hL2.oneCells hone
  obtain ⟨ad, rfl, hcell⟩ := hA2.resolve_left (fun e => hne (by rw [e]; rfl))
  have hblen : ds.length * i.bytes ≤ 140737488355328 := by
    have : ds.length * i.bytes ≤ 1099511627776 * 64 := Nat.mul_le_mul hlen hby
    omega
  have hfit := growslice_fits (need := ds.length) (old := 0) (bytes := i.bytes) (by omega) hblen
  have hrun := run_append_0 (P := P) w t o.type e i z hu hi hz B ad ds.length cap2 vs2 (by rw [hsz]; omega) hcell (by omega) (by omega) hfit
  have hgc := grownCap_ge w ds.length 0 e
  have hgm := grownCap_le_maxLen w ds.length 0 e (by simp only [maxLen]; omega)
  generalize hcapv : grownCap w ds.length 0 e = nc at hrun hgc hgm
  generalize hus : (vs2.toArray ++ Builtin.zeroCells z.cells (nc - ds.length)) = us at hrun
  have hussz : us.size = nc := by
    rw [← hus]; simp only [Array.size_append, List.size_toArray, zero_one (i := i) hz1, hl2]; omega
  have htake : us.toList.take ds.length = vs2 := by
    rw [← hus, Array.toList_append]
    exact List.take_left' hl2
  have ex : (execOp a.eval o).run P w = .ok (.value (.slice (some ⟨w.heap.size, 0, none⟩) ds.length us.size)) (w.drew.alloc (.cells us e)) := by
    rw [run_builtin hop hc, ha, ht]
    have : (#[x, y] : Array Operand).map a.eval = #[a.eval x, a.eval y] := by simp
    simp only [builtin, this, hxv, ey, Sem.run_bind, hrun, Result.andThen_ok, Sem.run_pure, hussz]
  unfold Oper.wp
  rw [ex, Oper.upon_value]
  have hb : Below w.heap.size w (w.drew.alloc (.cells us e)) := Below.alloc (⟨rfl, rfl, rfl, Nat.le_refl _, fun _ _ => rfl⟩ : Below w.heap.size w w.drew) (Nat.le_refl _) _
  have hlt1 : w.heap.size < (w.drew.alloc (.cells us e)).heap.size := size_alloc' w.drew _
  have hget : (w.drew.alloc (.cells us e)).heap[w.heap.size]? = some (.cells us e (0, 0)) := get_alloc' w.drew _
  have hst := step_new hr.heap (.vec 0 ds) hb hlt1
  have hx : RepO G.F (w.drew.alloc (.cells us e)) (H ++ [.vec 0 ds]) (r ++ [w.heap.size]) w.heap.size (.vec 0 ds) :=
    .vec 0 ds us e hget (by omega) (by rw [hussz]; exact hgm) (by rw [htake]; exact hL2.mono hst.imm)
  refine h _ _ _ (hr.put hst (hrel_new hr.heap _ hb hlt1 hx) o.dst _ _ d hd (Nat.le_of_ble_eq_true hlt) (.vec H.length 0 _ (by simp) fun g' cs' b h1 h2 => ?_))
  simp [← hr.heap.len] at h1 h2
  obtain ⟨rfl, rfl⟩ := h1
  subst h2
  exact ⟨Nat.le_refl _, fun _ => ⟨_, us, e, rfl, hget, rfl⟩⟩

theorem bsplit {p : Prop} (b : Bool) (ht : b = true → p) (hf : b = false → p) : p := by
  cases b with
  | false => exact hf rfl
  | true => exact ht rfl

theorem freeze_rep {F : Nat → Prop} {w : World} {r : List Nat} {o g : Nat} {cs : List D} {x : Value} (hh : HRel F w H r) (hH : H[o]? = some (.vec g cs)) (hv : RepV F w H r (.vec o g) x) : RepV F w (H.set o .gone) r (.d (.sl none cs)) x := by
  have hst : Step w H r w (H.set o .gone) r := step_gone o
  obtain ⟨b, hb⟩ := hh.blk hH
  cases hv with
  | vec _ _ _ ho hp =>
    obtain ⟨cap, vs, ty, e1, e2, e3⟩ := (hp g cs b hH hb).2 rfl
    have hO := hh.obj o _ b hH hb
    cases hO with
    | vec _ _ vs' ty' hb' hc hm hl =>
      have : vs' = vs := by rw [hb'] at e2; cases e2; rfl
      subst this
      subst e1
      have hlen : (vs'.toList.take cs.length).length = cs.length := by simp; omega
      have hI : imm F w (H.set o .gone) r b := by
        refine ⟨⟨(Array.getElem?_eq_some_iff.1 hb').1, fun o' x h1 h2 h3 => ?_⟩, hh.notF o _ b hH rfl hb⟩
        rcases get_gone h1 with rfl | ⟨hne, k1⟩
        · simp [AObj.live] at h2
        · exact hne (hh.inj o o' _ x b hH rfl k1 h2 hb h3)
      refine .d _ _ (.sl none cs (vs'.toList.take cs.length) (some ⟨b, 0, none⟩) cap hlen (fun b hb => by cases hb) (by rw [e3]; exact hc) (fun _ => ⟨b, 0, rfl, hI, fun i v hv => ?_⟩) (fun i c v hc' hv' => ?_))
      · rw [World.cell_block hb']
        rw [List.getElem?_take] at hv
        split at hv
        · simpa using hv
        · cases hv
      · obtain ⟨v2, g1, g2⟩ := (hl.mono hst.imm).get hc'
        rw [g1] at hv'
        cases hv'
        exact g2

theorem get_all (ts : List Nat) (v : AV) (E : Env) (k : Nat) (u : AV) (h : Env.get (ts.map (fun t => (t, v)) ++ E) k = some u) : (k ∈ ts ∧ u = v) ∨ Env.get E k = some u := by
  induction ts with
  | nil => exact .inr h
  | cons t ts ih =>
    rw [List.map_cons, List.cons_append] at h
    by_cases e : t = k
    · subst e
      rw [Env.get_cons_self] at h
      cases h
      exact .inl ⟨List.mem_cons_self .., rfl⟩
    · rw [Env.get_cons_ne _ _ e] at h
      rcases ih h with ⟨h1, h2⟩ | h
      · exact .inl ⟨List.mem_cons_of_mem _ h1, h2⟩
      · exact .inr h

/-- An owned slice becomes data, in all slots that hold it. -/
theorem AOps_freezeL (ts : List Nat) (o g : Nat) (cs : List D) (he : ∀ t ∈ ts, E.get t = some (.vec o g)) (hH : H[o]? = some (.vec g cs)) (h : AOps P n G ops rest (ts.map (fun t => (t, .d (.sl none cs))) ++ E) (H.set o .gone) K) : AOps P n G ops rest E H K := by
  intro r a w hr
  have hst : Step w H r w (H.set o .gone) r := step_gone o
  refine h r a w ⟨hr.size, hr.defers, fun k u hu => ?_, hrel_gone o hr.heap, hr.step.trans hst⟩
  rcases get_all ts _ E k u hu with ⟨h1, rfl⟩ | hu
  · obtain ⟨x, hx, hv⟩ := hr.env k _ (he k h1)
    exact ⟨x, hx, freeze_rep hr.heap hH hv⟩
  · obtain ⟨x, hx, hv⟩ := hr.env k u hu
    exact ⟨x, hx, hv.step hst⟩

/-- A call to which nothing is lent, in a drawn row. -/
theorem AStep_callN {f : Nat} {listed : Array Bool} (i d : Nat) (c : Call) (fop : Operand) (fv : AV) (g : FuncId) (cap avs us cs : List AV) (Q : List AV → List AObj → Prop) (hi : ops[i]? = some o)
    (hw : wantedE ops E o = some true) (hd : o.dst = some d) (hlt : Nat.ble (d + 1) n = true) (hop : o.op = .call c) (hc : c.callee = .value fop) (hf : evalO E fop = some fv) (hcl : calleeOf fv = some (g, cap))
    (hcall : ∀ args w, (callFunc g args).run P w = .ok (.enter g args) w) (ha : evalL E c.args.toList = some avs) (hv : viewA .own H [] avs = some us) (hvc : viewA .own H [] cap = some cs)
    (hac : AC P g (us.map dropA ++ cs) [] Q) (hk : ∀ res H', Q res H' → (∀ x ∈ H', okO (fun _ => True) x) ∧ (∀ v ∈ res, okV (fun _ => True) v) ∧ AAny P n G ops f (listed.setIfInBounds i true) ((d, resAV (res.map (back H []))) :: E) (backHeap H [] H') K) :
    AStep P n G ops f listed E H K i := by
  intro r a w hr
  unfold wpOp
  simp only [hi]
  rw [wantedE_sound hr hw, if_pos rfl]
  left
  unfold Oper.wp
  obtain ⟨vs, hx, hvs⟩ := calleeOf_sound hcl (evalO_sound hr hf)
  rw [run_call hop hc hx hcall, Oper.upon_enter]
  have hargs : RepVs G.F w H r avs (c.args.map a.eval) := by rw [map_eq]; exact evalL_sound hr ha
  have hn : ([] : List Nat).Nodup := by simp
  have hs : selHeap .own H [] [] = some [] := rfl
  have hseen := seen_own hr.heap hn hs
  refine (hac (ownF G.F H r []) w (selBlocks r []) _ (hrel_own hr.heap hn hs) ((hseen.viewA hargs hv).drop.append (hseen.viewA hvs hvc))).mono ?_
  rintro e w' ⟨res, H', r', x, rfl, q, hh', hres, hst⟩
  obtain ⟨q1, q2, q3⟩ := hk res H' q
  have hleft := left_own hr.heap hn hs hst hh' q1
  exact ⟨⟨hst.os, hst.tape, hst.output, hst.size, fun b hb => (hst.free b ⟨hb, fun o x h => by simp at h⟩).1⟩,
    q3 _ _ w' (hr.put hleft.toStep hleft.toHRel o.dst x _ d hd (Nat.le_of_ble_eq_true hlt) (backRes hleft q2 hres).toAV)⟩

end

end Go.Proofs.YtghhnpdhehjlaaaGreat.Ab

namespace Go.Proofs.YtghhnpdhehjlaaaGreat
open Go Go.RowKit Ab

/-- A number and a list of numbers. -/
structure Pos where
  n : Int
  l : List Int

def posD (x : Pos) : List D := [iD x.n, .sl none (intsD x.l)]
theorem posD_length (x : Pos) : (posD x).length = 2 := rfl
theorem posD_one (x : Pos) : ∀ c ∈ posD x, c.one = true := by
  intro c hc
  simp only [posD, List.mem_cons, List.not_mem_nil, or_false] at hc
  rcases hc with rfl | rfl <;> rfl
theorem posD_all (x : Pos) : ((posD x).drop 0).take 2 = posD x := rfl
end Go.Proofs.YtghhnpdhehjlaaaGreat

