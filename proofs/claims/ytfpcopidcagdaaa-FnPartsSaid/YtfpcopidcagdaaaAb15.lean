/- Own library, part 15: parts of owned slices: cut, read, copied into, appended to in place. No conditions. -/
import Derived.Test.YtfpcopidcagdaaaAb14
import Derived.Laws.CopyRow
import Derived.Laws.IdiomCopy
set_option linter.unusedVariables false
set_option linter.unusedSimpArgs false
namespace Go.Proofs.Ytfpcopidcagdaaa.Ab
open Go Go.RowKit

section
variable {P : Program} {n : Nat} {G : Ctx} {E : Env} {H : List AObj} {ops : Array Oper} {rest : List Oper} {o : Oper} {K : Env → List AObj → Prop}

/-- An owned slice, or a part of one: object, age, place, length. -/
def dstOf (H : List AObj) : AV → Option (Nat × Nat × Nat × Nat)
  | .vec k g => match H[k]? with
    | some (.vec g' cs) => bif Nat.beq g g' then some (k, g, 0, cs.length) else none
    | _ => none
  | .part k g lo m => match H[k]? with
    | some (.vec g' _) => bif Nat.beq g g' then some (k, g, lo, m) else none
    | _ => none
  | _ => none

theorem dstOf_sound {F : Nat → Prop} {w : World} {r : List Nat} (hh : HRel F w H r) {v : AV} {x : Value} {k g lo m : Nat} {cs : List D} (h : dstOf H v = some (k, g, lo, m)) (hk : H[k]? = some (.vec g cs)) (hr : RepV F w H r v x) :
    k < H.length ∧ lo + m ≤ cs.length ∧ ∃ (b : Nat) (vs : Array Value) (ty : TypeId) (l c : Nat), r[k]? = some b ∧ x = .slice (some ⟨b, l, none⟩) m c ∧ w.heap[b]? = some (.cells vs ty (0, 0)) ∧ (lo ≠ vs.size → l = lo ∧ c = vs.size - lo) := by
  cases hr with
  | vec k' g' _ ho hp =>
    simp only [dstOf] at h
    split at h
    · rename_i g1 cs1 hk1
      by_cases e : g' = g1
      · subst e
        rw [Nat.beq_refl, cond_true] at h
        cases h
        rw [hk] at hk1; cases hk1
        obtain ⟨b, hb⟩ := hh.blk hk
        obtain ⟨cap, vs, ty, e1, e2, e3⟩ := (hp _ cs b hk hb).2 rfl
        exact ⟨ho, by omega, b, vs, ty, 0, cap, hb, e1, e2, fun _ => ⟨rfl, by omega⟩⟩
      · have : Nat.beq g' g1 = false := Bool.eq_false_iff.2 fun h' => e (Nat.eq_of_beq_eq_true h')
        rw [this] at h; simp at h
    · simp at h
  | part k' g' lo' m' _ ho hp =>
    simp only [dstOf] at h
    split at h
    · rename_i g1 cs1 hk1
      by_cases e : g' = g1
      · subst e
        rw [Nat.beq_refl, cond_true] at h
        cases h
        rw [hk] at hk1; cases hk1
        obtain ⟨b, hb⟩ := hh.blk hk
        obtain ⟨e0, vs, ty, l, c, e1, e2, e3⟩ := (hp _ cs b hk hb).2 rfl
        exact ⟨ho, e0, b, vs, ty, l, c, hb, e1, e2, e3⟩
      · have : Nat.beq g' g1 = false := Bool.eq_false_iff.2 fun h' => e (Nat.eq_of_beq_eq_true h')
        rw [this] at h; simp at h
    · simp at h
  | d => simp [dstOf] at h
  | ptr => simp [dstOf] at h
  | eptr => simp [dstOf] at h
  | clo => simp [dstOf] at h
  | tup => simp [dstOf] at h

/-- A cut out of an owned slice. -/
theorem QOp_cut (t e : TypeId) (x : Operand) (lo hi : Option Operand) (v : AV) (k g lo0 m0 : Nat) (cs : List D) (l m : Nat) (h : o.op = .slice t x lo hi none) (hu : P.underlying t = some (.slice e)) (hsz : ∀ w, (sizeOf e).run P w = .ok 1 w)
    (hx : evalO E x = some v) (hd : dstOf H v = some (k, g, lo0, m0)) (hk : H[k]? = some (.vec g cs)) (hlo : match lo with | none => l = 0 | some y => ∃ k, evalO E y = some (.d (.s (.int k (l : Int)))))
    (hhi : match hi with | none => m = m0 | some y => ∃ k, evalO E y = some (.d (.s (.int k (m : Int))))) (hlm : l ≤ m) (hm : m ≤ m0) (a1 : Nat) (ha1 : lo0 + l = a1) (a2 : Nat) (ha2 : m - l = a2) : QOp P n G o E H (.part k g a1 a2) := by
  subst ha1; subst ha2
  intro r a w hr
  have hev := evalO_sound hr hx
  obtain ⟨ho, e0, b, vs, ty, l0, c0, hb, e1, e2, e3⟩ := dstOf_sound hr.heap hd hk hev
  have hO := hr.heap.obj k _ b hk hb
  cases hO with
  | vec _ _ vs' ty' hw hc hmx hl =>
  rw [hw] at e2
  cases e2
  have hmc : m ≤ c0 := by
    by_cases e : lo0 = vs.size
    · omega
    · have := e3 e; omega
  have hbnd : ∀ w', (Instr.sliceBounds true m0 c0 (lo.map a.eval) (hi.map a.eval) none).run P w' = .ok (l, m, c0) w' := by
    intro w'
    cases lo with
    | none =>
      simp only at hlo; subst hlo
      cases hi with
      | none => simp only at hhi; subst hhi; simp [Instr.sliceBounds]
      | some y =>
        obtain ⟨k, hy⟩ := hhi
        simp [Instr.sliceBounds, evalO_s hr hy, Instr.sliceBound, asIntOf, hmc]
    | some z =>
      obtain ⟨k', hz⟩ := hlo
      cases hi with
      | none => simp only at hhi; subst hhi; simp [Instr.sliceBounds, evalO_s hr hz, Instr.sliceBound, asIntOf, hlm]
      | some y =>
        obtain ⟨k, hy⟩ := hhi
        simp [Instr.sliceBounds, evalO_s hr hy, evalO_s hr hz, Instr.sliceBound, asIntOf, hmc, hlm]
  refine ⟨.slice (if c0 = l then some ⟨b, l0, none⟩ else (some ⟨b, l0, none⟩ : Option Addr).map (·.add (l * 1))) (m - l) (c0 - l), .part k g (lo0 + l) (m - l) _ ho fun g' cs' b' h1 h2 => ?_, fun w' _ => ?_⟩
  · rw [hk] at h1; cases h1
    rw [hb] at h2; cases h2
    refine ⟨Nat.le_refl _, fun _ => ⟨by omega, vs, ty, if c0 = l then l0 else l0 + l, c0 - l, ?_, hw, fun hne => ?_⟩⟩
    · split
      · rfl
      · simp [Addr.add_lit]
    · by_cases e : lo0 = vs.size
      · have : l = 0 := by omega
        omega
      · obtain ⟨rfl, rfl⟩ := e3 e
        rw [if_neg (by omega)]
        exact ⟨rfl, by omega⟩
  · simp [execOp, h, Instr.sliceAt, Instr.slice, run_underlying hu, e1, hbnd, hsz]

theorem QOp_len_part (c : Call) (t : TypeId) (e : TypeId) (x : Operand) (v : AV) (k g lo m : Nat) (cs : List D) (hop : o.op = .call c) (hc : c.callee = .builtin .len) (ha : c.args = #[x]) (ht : c.argTypes = #[t]) (hu : P.underlying t = some (.slice e))
    (he : evalO E x = some v) (hd : dstOf H v = some (k, g, lo, m)) (hk : H[k]? = some (.vec g cs)) : QOp P n G o E H (.d (.s (.int .i64 (m : Int)))) := by
  intro r a w hr
  obtain ⟨ho, e0, b, vs, ty, l0, c0, hb, e1, e2, e3⟩ := dstOf_sound hr.heap hd hk (evalO_sound hr he)
  refine ⟨_, .d _ _ (.s _), fun w' _ => ?_⟩
  rw [run_builtin hop hc, ha, ht]
  simp [builtin, e1, Builtin.len_, run_underlying hu, goInt]

theorem QOp_indexAddr_part (t e : TypeId) (x y : Operand) (kd : IntKind) (v : AV) (k g lo m : Nat) (cs : List D) (i : Int) (h : o.op = .indexAddr t x y) (hu : P.underlying t = some (.slice e)) (hsz : ∀ w, (sizeOf e).run P w = .ok 1 w)
    (h0 : 0 ≤ i) (h1 : i < (m : Int)) (hx : evalO E x = some v) (hd : dstOf H v = some (k, g, lo, m)) (hk : H[k]? = some (.vec g cs)) (hy : evalO E y = some (.d (.s (.int kd i)))) : QOp P n G o E H (.eptr k g (lo + i.toNat)) := by
  intro r a w hr
  obtain ⟨ho, e0, b, vs, ty, l0, c0, hb, e1, e2, e3⟩ := dstOf_sound hr.heap hd hk (evalO_sound hr hx)
  have hO := hr.heap.obj k _ b hk hb
  cases hO with
  | vec _ _ vs' ty' hw hc hmx hl =>
  rw [hw] at e2
  cases e2
  obtain ⟨rfl, _⟩ := e3 (by omega)
  refine ⟨.pointer (some ⟨b, l0 + i.toNat, none⟩), .eptr k g _ _ ho fun g' cs' b' h2 h3 => ?_, fun w' _ => ?_⟩
  · rw [hk] at h2; cases h2
    rw [hb] at h3; cases h3
    exact ⟨Nat.le_refl _, fun _ => rfl⟩
  · simp [execOp, h, Instr.indexAt, run_underlying hu, e1, evalO_s hr hy, asIntOf, hsz, Addr.add_lit, h0, h1]

/-- What lies in an owned slice behind a copy into it. -/
def spliced (cs : List D) (lo m : Nat) (ds : List D) : List D := cs.take lo ++ ds.take m ++ cs.drop (lo + min ds.length m)
theorem spliced_length (cs : List D) (lo m : Nat) (ds : List D) (h : lo + m ≤ cs.length) : (spliced cs lo m ds).length = cs.length := by simp [spliced]; omega

theorem run_copy_part (w : World) (dT sT ty elem : TypeId) (g o' dLen dCap sLen sCap : Nat) (A : Option Addr) (cur : Array Value) (t : TypeId) (vs2 : List Value)
    (hu : P.underlying dT = some (.slice elem)) (hs : (P.info? elem).map (·.size) = some 1) (hg : w.heap[g]? = some (.cells cur t (0, 0))) (h2 : vs2.length = sLen)
    (hsrc : vs2 = [] ∨ ∃ ad, A = some ad ∧ ∀ j u, vs2[j]? = some u → w.cell? (ad.add j) = some u) (l : Nat) (hl : dLen ≠ 0 → l = o') (hfit : o' + dLen ≤ cur.size) (h1 : ∀ v ∈ vs2, v.oneCell' = true) :
    (Builtin.copy_ #[dT, sT] ty #[.slice (some ⟨g, l, none⟩) dLen dCap, .slice A sLen sCap]).run P w =
      .ok (goInt ((min sLen dLen : Nat) : Int)) (w.setRow g (cur.toList.take o' ++ vs2.take dLen ++ cur.toList.drop (o' + min sLen dLen)).toArray) := by
  by_cases hz : Nat.min sLen dLen = 0
  · rw [run_copy_none w dT sT ty elem (some ⟨g, l, none⟩) A dLen dCap sLen sCap hu hs hz]
    have hz' : min sLen dLen = 0 := hz
    rw [hz']
    have : vs2.take dLen = [] := by
      apply List.eq_nil_of_length_eq_zero
      simp [h2]; omega
    rw [this]
    simp only [List.append_nil, Nat.add_zero, List.take_append_drop, Array.toArray_toList]
    rw [setRow_self w g cur t (0, 0) hg]; try rfl
  · have hz' : ¬ min sLen dLen = 0 := hz
    obtain rfl := hl (by omega)
    rcases hsrc with h | ⟨ad, rfl, hc⟩
    · exact absurd (by rw [h] at h2; simp at h2; omega) hz'
    · have := run_copy_row P w dT sT ty elem g l dLen dCap ad sLen sCap cur t (vs2.take dLen) hu hs hg (by simp [h2]; exact Nat.min_comm _ _) (fun j v hv => by
          rw [List.getElem?_take] at hv
          split at hv
          · exact hc j v hv
          · simp at hv) (by simp [h2]; omega) (fun v hv => h1 v (List.mem_of_mem_take hv))
      rw [this]
      have e : (vs2.take dLen).length = min sLen dLen := by simp [h2]; exact Nat.min_comm _ _
      rw [e]

theorem AOps_copy (d : Nat) (c : Call) (t t2 e : TypeId) (x y : Operand) (xv : AV) (k g lo m m' : Nat) (v : AV) (cs ds : List D) (hw : wantedE ops E o = some true) (hd : o.dst = some d) (hlt : Nat.ble (d + 1) n = true) (hop : o.op = .call c) (hc : c.callee = .builtin .copy)
    (ha : c.args = #[x, y]) (ht : c.argTypes = #[t, t2]) (hu : P.underlying t = some (.slice e)) (hs : (P.info? e).map (·.size) = some 1)
    (hx : evalO E x = some xv) (hdx : dstOf H xv = some (k, g, lo, m)) (hmm : m = m') (hk : H[k]? = some (.vec g cs)) (hy : evalO E y = some v) (hv : sliceOf H v = some ds) (hone : ∀ c ∈ ds, c.one = true) (q : Nat) (hq : min ds.length m' = q)
    (h : AOps P n G ops rest ((d, .d (.s (.int .i64 (q : Int)))) :: E) (H.set k (.vec g (spliced cs lo m' ds))) K) : AOps P n G ops (o :: rest) E H K := by
  subst hq
  subst hmm
  intro r a w hr
  unfold wpList
  rw [wantedE_sound hr hw, if_pos rfl]
  left
  obtain ⟨ho, e0, b, vs, ty, l0, c0, hb, e1, e2, e3⟩ := dstOf_sound hr.heap hdx hk (evalO_sound hr hx)
  obtain ⟨A, cap2, vs2, ey, hL2, hA2⟩ := sliceOf_sound hr.heap hv (evalO_sound hr hy)
  have hO := hr.heap.obj k _ b hk hb
  cases hO with
  | vec _ _ vs' ty' hwb hcap hm hl =>
    rw [hwb] at e2
    cases e2
    have hones := hL2.oneCells hone
    have hl2 : vs2.length = ds.length := hL2.1
    have hrun := run_copy_part (P := P) w t t2 o.type e b lo m c0 ds.length cap2 A vs ty vs2 hu hs hwb hl2 (by
      rcases hA2 with h | h
      · left; apply List.eq_nil_of_length_eq_zero; rw [hl2, h]; rfl
      · exact .inr h) l0 (fun hm0 => (e3 (by omega)).1) (by omega) hones
    have e : (execOp a.eval o).run P w = .ok (.value (.int .i64 ((min ds.length m : Nat) : Int))) (w.setRow b (vs.toList.take lo ++ vs2.take m ++ vs.toList.drop (lo + min ds.length m)).toArray) := by
      rw [run_builtin hop hc, ha, ht]
      have : (#[x, y] : Array Operand).map a.eval = #[a.eval x, a.eval y] := by simp
      simp only [builtin, this, e1, ey, Sem.run_bind, hrun, Result.andThen_ok, Sem.run_pure, goInt]
    unfold Oper.wp
    rw [e, Oper.upon_value]
    have hsz : (vs.toList.take lo ++ vs2.take m ++ vs.toList.drop (lo + min ds.length m)).toArray.size = vs.size := by simp [hl2]; omega
    have hlen : (spliced cs lo m ds).length = cs.length := spliced_length cs lo m ds e0
    have hst := step_write (x' := .vec g (spliced cs lo m ds)) hr.heap hk rfl hb hwb _ (.inr ⟨g, cs, _, rfl, rfl, hlen.symm, hsz⟩)
    have hnew : RepL w (imm G.F w H r) (spliced cs lo m ds) ((vs.toList.take lo ++ vs2.take m ++ vs.toList.drop (lo + min ds.length m)).take cs.length) := by
      have h1 : RepL w (imm G.F w H r) (cs.take lo) (vs.toList.take lo) := by
        have := hl.take lo
        rwa [List.take_take, Nat.min_eq_left (by omega)] at this
      have h2 : RepL w (imm G.F w H r) (ds.take m) (vs2.take m) := hL2.take m
      have h3 : RepL w (imm G.F w H r) (cs.drop (lo + min ds.length m)) ((vs.toList.take cs.length).drop (lo + min ds.length m)) := hl.drop _
      have := (h1.append h2).append h3
      have e4 : (vs.toList.take lo ++ vs2.take m ++ vs.toList.drop (lo + min ds.length m)).take cs.length = vs.toList.take lo ++ vs2.take m ++ (vs.toList.take cs.length).drop (lo + min ds.length m) := by
        rw [List.take_append, List.drop_take]
        have e5 : (vs.toList.take lo ++ vs2.take m).length = lo + min ds.length m := by simp [hl2]; omega
        rw [e5, List.take_of_length_le (by rw [e5]; omega)]
      rw [e4]
      exact this
    have hh' := hrel_write hr.heap hk rfl hb _ hst (.vec g _ _ ty (setRow_heap w b vs _ ty (0, 0) hwb) (by rw [hlen, hsz]; exact hcap) (by rw [hsz]; exact hm) (by rw [hlen]; simpa using hnew.mono hst.imm)) rfl
    exact h r _ _ (hr.put hst hh' o.dst _ _ d hd (Nat.le_of_ble_eq_true hlt) (.d _ _ (.s _)))

/-- .. of lists. -/
def splicedL {α : Type} (l : List α) (lo m : Nat) (ds : List α) : List α := l.take lo ++ ds.take m ++ l.drop (lo + min ds.length m)
theorem splicedL_length {α : Type} (l : List α) (lo m : Nat) (ds : List α) (h : lo + m ≤ l.length) : (splicedL l lo m ds).length = l.length := by simp [splicedL]; omega
theorem spliced_map {α : Type} (f : α → D) (l : List α) (lo m : Nat) (ds : List α) : spliced (l.map f) lo m (ds.map f) = (splicedL l lo m ds).map f := by simp [spliced, splicedL, List.map_take, List.map_drop]
theorem dt_map {α : Type} (f : α → D) (l : List α) (a b : Nat) : ((l.map f).drop a).take b = ((l.drop a).take b).map f := by simp [List.map_take, List.map_drop]
end
end Go.Proofs.Ytfpcopidcagdaaa.Ab
