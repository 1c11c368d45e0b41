/- Own library, part 11: results that lie in memory, structs that are built, and what a frame forgets at a loop's head. Conditions stand in each rule. -/
import Derived.Test.YtldgmcghdohmeaaGreatAb10
set_option linter.unusedVariables false
set_option linter.unusedSimpArgs false
namespace Go.Proofs.YtldgmcghdohmeaaGreat.Ab
open Go Go.RowKit

section
variable {P : Program} {n : Nat} {G : Ctx} {E : Env} {H : List AObj} {ops : Array Oper} {rest : List Oper} {o : Oper} {K : Env → List AObj → Prop} {r : List Nat} {a : Act} {w : World}

theorem eval_tmp (hr : Rel n G E H r a w) {t : Nat} {v : AV} (h : E.get t = some v) : RepV G.F w H r v (a.tmps.getD t undef) := by
 obtain ⟨x, hx, hv⟩ := hr.env t v h
 simpa [Array.getD_eq_getD_getElem?, hx] using hv

/-- A result in memory: a struct or an array. -/
theorem ResV_agg (s : Nat) (t : TypeId) (k : Nat) (cs ds : List D) (sz : Nat) (ht : ∀ w, (isAgg t).run P w = .ok true w) (hsz : ∀ w, (sizeOf t).run P w = .ok sz w) (he : E.get s = some (.ptr k 0)) (hk : H[k]? = some (.box cs)) (hds : cs.take sz = ds) (hl : ds.length = sz) :
  ResV P n G E H (.cell s t) (.d (.agg ds)) := by
 intro r a w hr
 have hev := eval_tmp hr he
 cases hev with
 | ptr _ _ _ ho hp =>
  obtain ⟨b, hb⟩ := hr.heap.blk hk
  have hv := hp _ b hk hb rfl
  have hO := hr.heap.obj k _ b hk hb
  cases hO with
  | box _ vs ty hw hrep =>
   have hL : RepL w (imm G.F w H r) ds (vs.toList.take sz) := by rw [← hds]; exact RepL.take hrep sz
   have hlen' : (vs.toList.take sz).length = sz := by rw [hL.1, hl]
   refine ⟨.agg (vs.toList.take sz).toArray, .d _ _ (.agg ds _ (by simpa using hL.1) (by simpa using hL.2)), ?_⟩
   have hload := run_loadCells_list (P := P) w ⟨b, 0, none⟩ (vs.toList.take sz) (fun j u hj => by
    rw [Addr.add_lit, World.cell_block hw]
    rw [List.getElem?_take] at hj
    split at hj
    ·simpa using hj
    ·simp at hj)
   rw [hlen'] at hload
   simp [resPiece, hv, asAddr, loadVar, ht, hsz, hload]

/-! ### Structs that are built -/
def spl (cs : List D) (off : Nat) (ds : List D) : List D := cs.take off ++ ds ++ cs.drop (off + ds.length)

def fillD (offs : List (Nat × Nat)) : List D → List (Nat × D) → Option (List D)
 | cs, [] => some cs
 | cs, (i, d) :: rest => match offs[i]? with
  | some (off, sz) => bif (Nat.beq d.cells.length sz && Nat.ble (off + d.cells.length) cs.length) then fillD offs (spl cs off d.cells) rest else none
  | none => none

theorem foldl_set (off : Nat) : ∀ (vs : List Value) (j : Nat) (cur : Array Value), off + j + vs.length ≤ cur.size →
  (vs.zipIdx j).foldl (fun cs (p : Value × Nat) => cs.setIfInBounds (off + p.2) p.1) cur = (cur.toList.take (off + j) ++ vs ++ cur.toList.drop (off + j + vs.length)).toArray
 | [], j, cur, _ => by simp
 | v :: vs, j, cur, h => by
  have hk : off + j < cur.size := by simp at h; omega
  rw [List.zipIdx_cons, List.foldl_cons]
  have ih := foldl_set off vs (j + 1) (cur.setIfInBounds (off + j) v) (by simp at h ⊢; omega)
  rw [ih]
  congr 1
  simp only [Array.toList_setIfInBounds]
  rw [← Nat.add_assoc, List.take_set, List.drop_set_of_lt (by omega)]
  have e3 : cur.toList.take (off + j + 1) = cur.toList.take (off + j) ++ [cur.toList[off + j]'(by simpa using hk)] := by rw [List.take_succ_eq_append_getElem]
  rw [e3, List.set_append_right _ _ (by simp; omega)]
  have e4 : off + j - (cur.toList.take (off + j)).length = 0 := by simp; omega
  rw [e4]
  simp [Nat.add_assoc, Nat.add_comm 1]

theorem fill_sound {I : Nat → Prop} {offs : List (Nat × Nat)} : ∀ (ps : List (Nat × D)) (vs : List Value) (cs ds : List D) (cur : Array Value), RepL w I cs cur.toList → fillD offs cs ps = some ds → (∀ p ∈ ps, p.2.cellsOK) → vs.length = ps.length →
  (∀ (i : Nat) (p : Nat × D) (v : Value), ps[i]? = some p → vs[i]? = some v → RepD w I p.2 v) → ∃ out : Array Value, Instr.fill (fun i => offs[i]?) cur ((ps.map (·.1)).zip vs) = some out ∧ RepL w I ds out.toList
 | [], vs, cs, ds, cur, hl, h, _, _, _ => by
  simp [fillD] at h; subst h
  exact ⟨cur, by simp [Instr.fill], hl⟩
 | (i, d) :: ps, [], cs, ds, cur, hl, h, _, hlen, _ => by simp at hlen
 | (i, d) :: ps, v :: vs, cs, ds, cur, hl, h, hok, hlen, hrep => by
  unfold fillD at h
  split at h
  ·rename_i off sz hoff
   cases hb : (Nat.beq d.cells.length sz && Nat.ble (off + d.cells.length) cs.length) with
   | false => rw [hb] at h; simp at h
   | true =>
    rw [hb, cond_true] at h
    simp only [Bool.and_eq_true] at hb
    have h1 := Nat.eq_of_beq_eq_true hb.1
    have h2 := Nat.le_of_ble_eq_true hb.2
    have hd : RepD w I d v := hrep 0 (i, d) v rfl rfl
    have hL := hd.cells (hok (i, d) (by simp))
    have hcs : cur.size = cs.length := by simpa using hl.1
    have hvl : v.cells.size = d.cells.length := by simpa using hL.1
    have hfold := foldl_set off v.cells.toList 0 cur (by simp; omega)
    simp only [Nat.add_zero] at hfold
    obtain ⟨out, e1, e2⟩ := fill_sound ps vs (spl cs off d.cells) ds (cur.toList.take off ++ v.cells.toList ++ cur.toList.drop (off + v.cells.toList.length)).toArray
     (by
      have := ((hl.take off).append hL).append (hl.drop (off + d.cells.length))
      unfold spl
      simpa [hvl] using this) h (fun p hp => hok p (by simp [hp])) (by simpa using hlen)
     (fun j p u hp hu => hrep (j + 1) p u (by simpa using hp) (by simpa using hu))
    refine ⟨out, ?_, e2⟩
    simp only [List.map_cons, List.zip_cons_cons, Instr.fill, hoff]
    have c1 : ¬ ((v.cells.size ≠ sz || decide (off + v.cells.size > cur.size)) = true) := by simp; omega
    rw [if_neg c1]
    have e3 : v.cells.zipIdx.foldl (fun cs (c, j) => cs.setIfInBounds (off + j) c) cur = (cur.toList.take off ++ v.cells.toList ++ cur.toList.drop (off + v.cells.toList.length)).toArray := by
     rw [← hfold, ← Array.foldl_toList, Array.toList_zipIdx]
    rw [e3]
    exact e1
  ·simp at h

/-- T{..}, a struct by value: fields by number, all others zero. -/
theorem QOp_build (t : TypeId) (fs : List Field) (xs : List Operand) (is : List Nat) (ps : List D) (z : Value) (cs ds : List D) (offs : List (Nat × Nat)) (h : o.op = .build t ((is.zip xs).toArray)) (hlen : is.length = xs.length) (hu : P.underlying t = some (.struct fs.toArray)) (hz : ∀ w, (zeroValue t).run P w = .ok z w)
  (hoffs : ∀ w, (fs.mapM (fun f => (do pure (f.offset, ← sizeOf f.type) : Sem (Nat × Nat)))).run P w = .ok offs w) (he : evalL E xs = some (ps.map AV.d)) (hcs : z.cells.toList.map zD = cs) (hfill : fillD offs cs (is.zip ps) = some ds) (hok : ∀ p ∈ ps, p.cellsOK) : QOp P n G o E H (.d (.agg ds)) := by
 subst hcs
 intro r a w hr
 have hs := evalL_sound hr he
 have hpl : ps.length = xs.length := by have := hs.1; simp at this; omega
 have hrep : ∀ (i : Nat) (c : D) (v : Value), ps[i]? = some c → (xs.map a.eval)[i]? = some v → RepD w (imm G.F w H r) c v := by
  intro i c v h1 h2
  have := hs.2 i (.d c) v (by simp [h1]) (by simpa using h2)
  cases this with | d _ _ hd => exact hd
 obtain ⟨out, e1, e2⟩ := fill_sound (w := w) (I := imm G.F w H r) (offs := offs) (is.zip ps) (xs.map a.eval) _ ds z.cells (zD_repL _) hfill (fun p hp => hok p.2 (List.of_mem_zip hp).2) (by simp [hpl, hlen]) (fun i p v h1 h2 => by
  have := List.getElem?_zip_eq_some.1 h1
  exact hrep i p.2 v this.2 h2)
 refine ⟨.agg out, .d _ _ (.agg ds out (by simpa using e2.1) (by simpa using e2.2)), fun w' _ => ?_⟩
 have e4 : ((is.zip ps).map (·.1)) = is := by rw [List.map_fst_zip]; omega
 rw [e4] at e1
 have e5 : ((is.zip xs).toArray.map fun (i, x) => (i, a.eval x)).toList = is.zip (xs.map a.eval) := by simp [List.zip_map_right]
 have e6 : (fs.toArray.mapM (fun f => (do pure (f.offset, ← sizeOf f.type) : Sem (Nat × Nat)))).run P w' = .ok offs.toArray w' := by
  rw [Array.mapM_eq_mapM_toList]
  simp only [List.toList_toArray, Sem.run_map, hoffs w', Result.andThen_ok]
 have e7 : (Instr.build t ((is.zip xs).toArray.map fun (i, x) => (i, a.eval x))).run P w' = .ok (.agg out) w' := by
  unfold Instr.build
  simp only [Sem.run_bind, hz w', Result.andThen_ok, run_underlying hu, e6, e5]
  have e8 : (fun (i : Nat) => offs.toArray[i]?) = (fun (i : Nat) => offs[i]?) := by funext i; simp
  rw [e8, e1]
  rfl
 simp only [execOp, h, Sem.run_bind, e7, Result.andThen_ok, Sem.run_pure]

/-! ### Forgetting -/
/-- Slots kept, objects kept (the frame's first ones always), data in the place of references to objects that go. -/
def keepEnv (H : List AObj) (sel : List Nat) (E : Env) : List Nat → Option Env
 | [] => some []
 | t :: ts => match (E.get t).bind (view .keep H sel), keepEnv H sel E ts with
  | some v, some e => some ((t, v) :: e)
  | _, _ => none

theorem keepEnv_get {sel ts : List Nat} {E0 : Env} (h : keepEnv H sel E ts = some E0) : ∀ (t : Nat) (v : AV), E0.get t = some v → ∃ u, E.get t = some u ∧ view .keep H sel u = some v := by
 induction ts generalizing E0 with
 | nil => simp [keepEnv] at h; subst h; intro t v hv; simp [Env.get] at hv
 | cons s ts ih =>
  unfold keepEnv at h
  split at h
  ·rename_i u e h1 h2
   simp at h; subst h
   intro t v hv
   by_cases hst : s = t
   ·subst hst
    rw [Env.get_cons_self] at hv; cases hv
    exact Option.bind_eq_some_iff.1 h1
   ·rw [Env.get_cons_ne _ _ hst] at hv
    exact ih h2 t v hv
  ·simp at h

def Weak (n : Nat) (G : Ctx) (E : Env) (H : List AObj) (E0 : Env) (H0 : List AObj) : Prop :=
 ∀ (r : List Nat) (a : Act) (w : World), Rel n G E H r a w → ∃ r0, Rel n G E0 H0 r0 a w

theorem Weak_keep (m : Nat) (hm : G.H.length = m) (ts more : List Nat) (E0 : Env) (H0 : List AObj) (hnb : nodupB (List.range m ++ more) = true) (hs : selHeap .keep H (List.range m ++ more) (List.range m ++ more) = some H0)
  (he : keepEnv H (List.range m ++ more) E ts = some E0) : Weak n G E H E0 H0 := by
 subst hm
 have hn := nodupB_sound _ hnb
 intro r a w hr
 have hseen := seen_lent rfl hr.heap hn hs
 refine ⟨selBlocks r (List.range G.H.length ++ more), hr.size, hr.defers, fun t v hv => ?_, hrel_lent rfl hr.heap hn hs, step_select hr.step hr.heap hs⟩
 obtain ⟨u, h1, h2⟩ := keepEnv_get he t v hv
 obtain ⟨x, hx, hrx⟩ := hr.env t u h1
 exact ⟨x, hx, hseen.view hrx h2⟩

theorem ACode_weak {c : Code} {Q : Exit → Env → List AObj → Prop} {E0 : Env} {H0 : List AObj} (hw : Weak n G E H E0 H0) (h : ACode P n G c E0 H0 Q) : ACode P n G c E H Q :=
 fun r a w hr => let ⟨r0, hr0⟩ := hw r a w hr; h r0 a w hr0

theorem AOps_weak {l : List Oper} {E0 : Env} {H0 : List AObj} (hw : Weak n G E H E0 H0) (h : AOps P n G ops l E0 H0 K) : AOps P n G ops l E H K :=
 fun r a w hr => let ⟨r0, hr0⟩ := hw r a w hr; h r0 a w hr0

/-- Ages begin anew: what is the frame's own at 0; what was handed in, and has moved, at 1. -/
def rG (m o g : Nat) : Nat := bif Nat.blt o m then (bif Nat.beq g 0 then 0 else 1) else 0

/-- What a closure holds is data, or boxes. -/
def capOK : List AV → Bool
 | [] => true
 | .d _ :: cs => capOK cs
 | .ptr _ _ :: cs => capOK cs
 | _ :: _ => false
theorem capOK_get : ∀ {cs : List AV} {i : Nat} {c : AV}, capOK cs = true → cs[i]? = some c → (∃ x, c = .d x) ∨ ∃ o off, c = .ptr o off
 | [], _, _, _, h => by simp at h
 | x :: cs, 0, c, hz, h => by
  simp at h; subst h
  cases x <;> simp [capOK] at hz
  ·exact .inl ⟨_, rfl⟩
  ·exact .inr ⟨_, _, rfl⟩
 | x :: cs, i + 1, c, hz, h => by
  simp at h
  refine capOK_get ?_ h
  cases x <;> simp_all [capOK]

def resetV (m : Nat) (H : List AObj) : AV → Option AV
 | .vec o g => match H[o]? with
  | some (.vec g' _) => bif Nat.beq g g' then some (.vec o (rG m o g)) else none
  | _ => none
 | .part o g lo n => match H[o]? with
  | some (.vec g' _) => bif Nat.beq g g' then some (.part o (rG m o g) lo n) else none
  | _ => none
 | .d x => some (.d x)
 | .ptr o off => some (.ptr o off)
 | .clo f cap => bif capOK cap then some (.clo f cap) else none
 | _ => none

def resetE (m : Nat) (H : List AObj) (E : Env) : List Nat → Option Env
 | [] => some []
 | t :: ts => match (E.get t).bind (resetV m H), resetE m H E ts with
  | some v, some e => some ((t, v) :: e)
  | _, _ => none

theorem resetE_get {m : Nat} {ts : List Nat} {E0 : Env} (h : resetE m H E ts = some E0) : ∀ (t : Nat) (v : AV), E0.get t = some v → ∃ u, E.get t = some u ∧ resetV m H u = some v := by
 induction ts generalizing E0 with
 | nil => simp [resetE] at h; subst h; intro t v hv; simp [Env.get] at hv
 | cons s ts ih =>
  unfold resetE at h
  split at h
  ·rename_i u e h1 h2
   simp at h; subst h
   intro t v hv
   by_cases hst : s = t
   ·subst hst
    rw [Env.get_cons_self] at hv; cases hv
    exact Option.bind_eq_some_iff.1 h1
   ·rw [Env.get_cons_ne _ _ hst] at hv
    exact ih h2 t v hv
  ·simp at h

def resetO (m : Nat) (H : List AObj) (o : Nat) : AObj → Option AObj
 | .vec g cs => some (.vec (rG m o g) cs)
 | .ref v => (resetV m H v).map .ref
 | x => some x

def resetH (m : Nat) (H : List AObj) : Nat → List AObj → Option (List AObj)
 | _, [] => some []
 | o, x :: xs => match resetO m H o x, resetH m H (o + 1) xs with
  | some y, some ys => some (y :: ys)
  | _, _ => none

theorem resetH_get {m : Nat} {H0 : List AObj} : ∀ (xs : List AObj) (o : Nat) (ys : List AObj), resetH m H0 o xs = some ys → ys.length = xs.length ∧ ∀ (i : Nat) (y : AObj), ys[i]? = some y → ∃ x, xs[i]? = some x ∧ resetO m H0 (o + i) x = some y
 | [], o, ys, h => by simp [resetH] at h; subst h; simp
 | x :: xs, o, ys, h => by
  unfold resetH at h
  split at h
  ·rename_i y ys' h1 h2
   simp at h; subst h
   obtain ⟨hl, hi⟩ := resetH_get xs (o + 1) ys' h2
   refine ⟨by simp [hl], fun i z hz => ?_⟩
   cases i with
   | zero => simp at hz; subst hz; exact ⟨x, by simp, h1⟩
   | succ i =>
    simp at hz
    obtain ⟨u, hu, hr⟩ := hi i z hz
    exact ⟨u, by simpa using hu, by rw [show o + (i + 1) = o + 1 + i by omega]; exact hr⟩
  ·simp at h

theorem resetO_live {m o : Nat} {H0 : List AObj} {x y : AObj} (h : resetO m H0 o x = some y) : y.live = x.live := by
 cases x <;> simp [resetO] at h
 case ref v => obtain ⟨u, _, rfl⟩ := h; rfl
 all_goals subst h; rfl

theorem resetO_fixed {m o : Nat} {H0 : List AObj} {x y : AObj} (h : resetO m H0 o x = some y) : y.fixed = x.fixed := by
 cases x <;> simp [resetO] at h
 case ref v => obtain ⟨u, _, rfl⟩ := h; rfl
 all_goals subst h; rfl

def zeroG : List AObj → Bool
 | [] => true
 | .vec g _ :: xs => Nat.beq g 0 && zeroG xs
 | _ :: xs => zeroG xs
theorem zeroG_get : ∀ {xs : List AObj} {o g : Nat} {cs : List D}, zeroG xs = true → xs[o]? = some (.vec g cs) → g = 0
 | [], _, _, _, _, h => by simp at h
 | x :: xs, 0, g, cs, hz, h => by
  simp at h; subst h
  simp only [zeroG, Bool.and_eq_true] at hz
  exact Nat.eq_of_beq_eq_true hz.1
 | x :: xs, o + 1, g, cs, hz, h => by
  simp at h
  refine zeroG_get ?_ h
  cases x <;> simp_all [zeroG]

theorem Weak_reset (m : Nat) (hm : G.H.length = m) (hz : zeroG G.H = true) (ts : List Nat) (E0 : Env) (H0 : List AObj) (hH : resetH m H 0 H = some H0) (hE : resetE m H E ts = some E0) : Weak n G E H E0 H0 := by
 subst hm
 intro r a w hr
 obtain ⟨hl, hg⟩ := resetH_get H 0 H0 hH
 have hg' : ∀ (i : Nat) (y : AObj), H0[i]? = some y → ∃ x, H[i]? = some x ∧ resetO G.H.length H i x = some y := fun i y h => by simpa using hg i y h
 have hfree : ∀ b, free w H r b → free w H0 r b := fun b hb => ⟨hb.1, fun o y h1 h2 => by
  obtain ⟨x, e1, e2⟩ := hg' o y h1
  exact hb.2 o x e1 (by rw [← resetO_live e2]; exact h2)⟩
 have himm : ∀ b, imm G.F w H r b → w.heap[b]? = w.heap[b]? ∧ imm G.F w H0 r b := fun b hb => ⟨rfl, hfree b hb.1, hb.2⟩
 -- references
 have hV : ∀ (v u : AV) (x : Value), resetV G.H.length H v = some u → RepV G.F w H r v x → RepV G.F w H0 r u x := by
  intro v u x hv hx
  cases v with
  | d y => simp [resetV] at hv; subst hv; cases hx with | d _ _ hd => exact .d _ _ (hd.mono himm)
  | ptr o off =>
   simp [resetV] at hv; subst hv
   cases hx with
   | ptr _ _ _ ho hp =>
    refine .ptr o off x (by omega) fun y b h1 h2 h3 => ?_
    obtain ⟨z, e1, e2⟩ := hg' o y h1
    exact hp z b e1 h2 (by rw [← resetO_fixed e2]; exact h3)
  | vec o g =>
   simp only [resetV] at hv
   split at hv
   ·rename_i g' cs hk
    by_cases e : g = g'
    ·subst e
     rw [Nat.beq_refl, cond_true] at hv
     cases hv
     cases hx with
     | vec _ _ _ ho hp =>
      refine .vec o _ x (by omega) fun g1 cs1 b h1 h2 => ?_
      obtain ⟨z, e1, e2⟩ := hg' o _ h1
      rw [hk] at e1; cases e1
      simp [resetO] at e2
      obtain ⟨rfl, rfl⟩ := e2
      exact ⟨Nat.le_refl _, fun _ => (hp g cs b hk h2).2 rfl⟩
    ·have : Nat.beq g g' = false := Bool.eq_false_iff.2 fun h' => e (Nat.eq_of_beq_eq_true h')
     rw [this] at hv; simp at hv
   ·simp at hv
  | eptr => simp [resetV] at hv
  | part o g lo n =>
   simp only [resetV] at hv
   split at hv
   ·rename_i g' cs hk
    by_cases e : g = g'
    ·subst e
     rw [Nat.beq_refl, cond_true] at hv
     cases hv
     cases hx with
     | part _ _ _ _ _ ho hp =>
      refine .part o _ lo n x (by omega) fun g1 cs1 b h1 h2 => ?_
      obtain ⟨z, e1, e2⟩ := hg' o _ h1
      rw [hk] at e1; cases e1
      simp [resetO] at e2
      obtain ⟨rfl, rfl⟩ := e2
      exact ⟨Nat.le_refl _, fun _ => (hp g cs b hk h2).2 rfl⟩
    ·have : Nat.beq g g' = false := Bool.eq_false_iff.2 fun h' => e (Nat.eq_of_beq_eq_true h')
     rw [this] at hv; simp at hv
   ·simp at hv
  | clo f cap =>
   simp only [resetV] at hv
   cases hc : capOK cap with
   | false => rw [hc] at hv; simp at hv
   | true =>
    rw [hc, cond_true] at hv; cases hv
    cases hx with
    | clo _ _ vs hl hcs =>
     refine .clo f cap vs hl fun i c z h1 h2 => ?_
     have hz := hcs i c z h1 h2
     rcases capOK_get hc h1 with ⟨y, rfl⟩ | ⟨o, off, rfl⟩
     ·cases hz with | d _ _ hd => exact .d _ _ (hd.mono himm)
     ·cases hz with
      | ptr _ _ _ ho hp =>
       refine .ptr o off z (by omega) fun y b h1 h2 h3 => ?_
       obtain ⟨z', e1, e2⟩ := hg' o y h1
       exact hp z' b e1 h2 (by rw [← resetO_fixed e2]; exact h3)
  | tup => simp [resetV] at hv
 have hst := hr.step
 refine ⟨r, hr.size, hr.defers, fun t v hv => ?_, ?_, ?_⟩
 ·obtain ⟨u, h1, h2⟩ := resetE_get hE t v hv
  obtain ⟨x, hx, hrx⟩ := hr.env t u h1
  exact ⟨x, hx, hV u v x h2 hrx⟩
 ·refine ⟨by rw [hr.heap.len, hl], fun o o' y y' b h1 l1 h2 l2 h3 h4 => ?_, fun o y b h1 h2 => ?_, fun o y b h1 l1 h2 => ?_, hr.heap.fin⟩
  ·obtain ⟨x, e1, e2⟩ := hg' o y h1
   obtain ⟨x', e3, e4⟩ := hg' o' y' h2
   exact hr.heap.inj o o' x x' b e1 (by rw [← resetO_live e2]; exact l1) e3 (by rw [← resetO_live e4]; exact l2) h3 h4
  ·obtain ⟨x, e1, e2⟩ := hg' o y h1
   have hO := hr.heap.obj o x b e1 h2
   cases hO with
   | gone => simp [resetO] at e2; subst e2; exact .gone
   | mp v I c hv hb hI0 => simp [resetO] at e2; subst e2; exact .mp v I c hv hb hI0
   | box cs vs ty hb hc => simp [resetO] at e2; subst e2; exact .box cs vs ty hb (hc.mono himm)
   | ref v z ty hb hc =>
    simp [resetO] at e2
    obtain ⟨u, hu, rfl⟩ := e2
    exact .ref u z ty hb (hV v u z hu hc)
   | vec g cs vs ty hb hc hm hc' => simp [resetO] at e2; subst e2; exact .vec _ cs vs ty hb hc hm (hc'.mono himm)
  ·obtain ⟨x, e1, e2⟩ := hg' o y h1
   exact hr.heap.notF o x b e1 (by rw [← resetO_live e2]; exact l1) h2
 ·refine ⟨hst.os, hst.tape, hst.output, hst.size, fun b hb => ⟨(hst.free b hb).1, hfree b (hst.free b hb).2⟩, by rw [hl]; exact hst.len, fun o y b ho h1 h2 h3 => ?_, fun o g' cs' b ho h1 h2 => ?_⟩
  ·obtain ⟨x, e1, e2⟩ := hg' o y h1
   exact hst.fixed o x b ho e1 h2 (by rw [← resetO_fixed e2]; exact h3)
  ·obtain ⟨x, e1, e2⟩ := hg' o _ h1
   have hlt : Nat.blt o G.H.length = true := by rw [Nat.blt_eq]; exact ho
   cases x <;> simp [resetO] at e2
   rename_i g cs
   obtain ⟨rfl, rfl⟩ := e2
   obtain ⟨g1, cs1, b1, a1, a2, a3⟩ := hst.vec o g cs b ho e1 h2
   have hg0 := zeroG_get hz a1
   subst hg0
   refine ⟨0, cs1, b1, a1, a2, ?_⟩
   by_cases e : g = 0
   ·subst e
    rcases a3 with a3 | a3
    ·omega
    ·exact .inr ⟨by simp [rG], a3.2⟩
   ·left
    have : Nat.beq g 0 = false := Bool.eq_false_iff.2 fun h' => e (Nat.eq_of_beq_eq_true h')
    simp [rG, hlt, this]

theorem Weak_refl : Weak n G E H E H := fun r a w hr => ⟨r, hr⟩
theorem Weak_trans {E1 E2 : Env} {H1 H2 : List AObj} (h : Weak n G E H E1 H1) (k : Weak n G E1 H1 E2 H2) : Weak n G E H E2 H2 := fun r a w hr => by
 obtain ⟨r1, hr1⟩ := h r a w hr
 exact k r1 a w hr1

/-- A loop whose states are told up to what the frame forgets. -/
theorem ACode_loopW {c : Code} {Q : Exit → Env → List AObj → Prop} (I : Nat → Env → List AObj → Prop) (k : Nat) (E0 : Env) (H0 : List AObj) (hw : Weak n G E H E0 H0) (h0 : I k E0 H0)
  (round : ∀ k E H, I k E H → ACode P n G c E H (seqQ (fun E' H' => ∃ k' E1 H1, k' < k ∧ Weak n G E' H' E1 H1 ∧ I k' E1 H1) Q)) : ACode P n G (.loop c) E H Q := by
 refine ACode_weak hw (ACode_loop (fun k E H => ∃ E1 H1, Weak n G E H E1 H1 ∧ I k E1 H1) k ⟨E0, H0, Weak_refl, h0⟩ ?_)
 rintro k E H ⟨E1, H1, hw1, hI⟩
 refine ACode_weak hw1 (ACode_mono (round k E1 H1 hI) ?_)
 intro x E' H' q
 cases x <;> first | exact q | (obtain ⟨k', E2, H2, a, b, c⟩ := q; exact ⟨k', a, E2, H2, b, c⟩)

end
end Go.Proofs.YtldgmcghdohmeaaGreat.Ab
