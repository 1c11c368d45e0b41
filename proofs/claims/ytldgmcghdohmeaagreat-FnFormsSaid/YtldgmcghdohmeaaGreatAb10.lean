/- Own library, part 10: slices that are made and grow, structs that are built, results in memory, and what a frame forgets. Conditions stand in each rule. -/
import Derived.Test.YtldgmcghdohmeaaGreatAb9
set_option linter.unusedVariables false
set_option linter.unusedSimpArgs false
namespace Go.Proofs.YtldgmcghdohmeaaGreat.Ab
open Go Go.RowKit

section
variable {P : Program} {n : Nat} {G : Ctx} {E : Env} {H : List AObj} {ops : Array Oper} {rest : List Oper} {o : Oper} {K : Env → List AObj → Prop}

/-- A new slice object out of a run that has made its block. -/
theorem AOps_newvec (d : Nat) (cs : List D) (hw : wantedE ops E o = some true) (hd : o.dst = some d) (hlt : Nat.ble (d + 1) n = true)
  (hrun : ∀ (r : List Nat) (a : Act) (w : World), Rel n G E H r a w → ∃ (w1 : World) (vs : Array Value) (ty : TypeId), (execOp a.eval o).run P w = .ok (.value (.slice (some ⟨w.heap.size, 0, none⟩) cs.length vs.size)) w1 ∧ Below w.heap.size w w1 ∧ w.heap.size < w1.heap.size ∧
   w1.heap[w.heap.size]? = some (.cells vs ty (0, 0)) ∧ cs.length ≤ vs.size ∧ vs.size ≤ maxLen ∧ RepL w (imm G.F w H r) cs (vs.toList.take cs.length))
  (h : AOps P n G ops rest ((d, .vec H.length 0) :: E) (H ++ [.vec 0 cs]) K) : AOps P n G ops (o :: rest) E H K := by
 intro r a w hr
 unfold wpList
 rw [wantedE_sound hr hw, if_pos rfl]
 left
 obtain ⟨w1, vs, ty, e, hb, hlt1, hblk, hc, hm, hl⟩ := hrun r a w hr
 unfold Oper.wp
 rw [e, Oper.upon_value]
 have hst := step_new hr.heap (.vec 0 cs) hb hlt1
 have hh := hrel_new hr.heap (.vec 0 cs) hb hlt1 (.vec 0 cs vs ty hblk hc hm (hl.mono hst.imm))
 refine h _ _ _ (hr.put hst hh o.dst _ _ d hd (Nat.le_of_ble_eq_true hlt) (.vec _ 0 _ (by simp) fun g' cs' b h1 h2 => ?_))
 simp at h1
 obtain ⟨rfl, rfl⟩ := h1
 simp [← hr.heap.len] at h2
 subst h2
 exact ⟨Nat.le_refl _, fun _ => ⟨_, vs, ty, rfl, hblk, rfl⟩⟩

theorem fill_one (m : Nat) : ∀ (vs : List Value) (k : Nat) (cur : Array Value), (∀ v ∈ vs, v.oneCell' = true) → k + vs.length ≤ cur.size →
  Instr.fill (fun i => some (i * 1, 1)) cur ((List.range' k vs.length).zip vs) = some (cur.toList.take k ++ vs ++ cur.toList.drop (k + vs.length)).toArray
 | [], k, cur, _, _ => by simp [Instr.fill]
 | v :: vs, k, cur, h1, hl => by
  have hv : v.cells = #[v] := by
   have := h1 v (by simp)
   cases v <;> simp_all [Value.cells, Value.oneCell']
  have hk : k < cur.size := by simp at hl; omega
  simp only [List.length_cons, List.range'_succ, List.zip_cons_cons, Instr.fill, hv]
  have c1 : ¬ ((#[v] : Array Value).size ≠ 1 || decide (k * 1 + (#[v] : Array Value).size > cur.size)) = true := by simp; omega
  simp only [c1]
  have e : (#[v] : Array Value).zipIdx.foldl (fun cs (c, j) => cs.setIfInBounds (k * 1 + j) c) cur = cur.setIfInBounds k v := by simp
  have ih := fill_one m vs (k + 1) (cur.setIfInBounds k v) (fun u hu => h1 u (by simp [hu])) (by simp at hl ⊢; omega)
  simp only [Bool.false_eq_true, if_false]
  rw [e, ih]
  congr 2
  simp only [Array.toList_setIfInBounds]
  rw [List.take_set, List.drop_set_of_lt (by omega)]
  have e3 : cur.toList.take (k + 1) = cur.toList.take k ++ [cur.toList[k]'(by simpa using hk)] := by rw [List.take_succ_eq_append_getElem]
  rw [e3, List.set_append_right _ _ (by simp; omega)]
  have e4 : k - (cur.toList.take k).length = 0 := by simp; omega
  rw [e4]
  simp [Nat.add_assoc, Nat.add_comm 1]

/-- A slice written out, element by element. -/
theorem AOps_buildSlice (d : Nat) (t e : TypeId) (m : Nat) (xs : List Operand) (cs : List D) (z : Value) (hw : wantedE ops E o = some true) (hd : o.dst = some d) (hlt : Nat.ble (d + 1) n = true)
  (hop : o.op = .buildSlice t m ((List.range' 0 xs.length).zip xs).toArray) (hm : xs.length = m) (hm2 : m ≤ 16777216) (hu : P.underlying t = some (.slice e)) (hsz : ∀ w, (sizeOf e).run P w = .ok 1 w) (hz : ∀ w, (zeroValue e).run P w = .ok z w) (hz1 : z.cells.size = 1)
  (he : evalL E xs = some (cs.map AV.d)) (hone : ∀ c ∈ cs, c.one = true) (h : AOps P n G ops rest ((d, .vec H.length 0) :: E) (H ++ [.vec 0 cs]) K) : AOps P n G ops (o :: rest) E H K := by
 refine AOps_newvec d cs hw hd hlt (fun r a w hr => ?_) h
 have hs := evalL_sound hr he
 have hlen : cs.length = m := by have := hs.1; simp at this; omega
 have hL : RepL w (imm G.F w H r) cs (xs.map a.eval) := by
  refine ⟨by simp [hlen, hm], fun i c v h1 h2 => ?_⟩
  have := hs.2 i (.d c) v (by simp [h1]) (by simpa using h2)
  cases this with | d _ _ hd => exact hd
 have hones := hL.oneCells hone
 refine ⟨w.alloc (.cells (xs.map a.eval).toArray e), (xs.map a.eval).toArray, e, ?_, below_alloc' _ _, size_alloc' _ _, get_alloc' _ _, by simp [hlen, hm], by simp only [List.size_toArray, List.length_map, hm, maxLen]; omega, ?_⟩
 ·have hmap : (((List.range' 0 xs.length).zip xs).toArray.map fun (i, x) => (i, a.eval x)) = ((List.range' 0 (xs.map a.eval).length).zip (xs.map a.eval)).toArray := by
   simp [List.zip_map_right]
  have hfill := fun (cur : Array Value) (hc : (xs.map a.eval).length ≤ cur.size) => fill_one m (xs.map a.eval) 0 cur hones (by omega)
  have n1 : ¬ (16777216 < m * 1) := by omega
  have hx : xs.length = m := hm
  by_cases h0 : m = 0
  ·subst h0
   have : xs = [] := List.eq_nil_of_length_eq_zero hm
   subst this
   have hcs0 : cs = [] := List.eq_nil_of_length_eq_zero hlen
   subst hcs0
   simp [execOp, hop, Instr.buildSlice, run_underlying hu, hsz, Instr.fill, newRow, Array.range_zero']
  ·have e2 : execOp a.eval o = (do pure (Next.value (← Instr.buildSlice t m (((List.range' 0 (xs.map a.eval).length).zip (xs.map a.eval)).toArray)))) := by
    simp only [execOp, hop]
    rw [← hmap]
   rw [e2]
   simp only [Instr.buildSlice, Sem.run_bind, run_underlying hu, Result.andThen_ok, hsz]
   simp only [Nat.mul_one, h0, if_false, hz, Sem.run_bind, Sem.run_pure, Result.andThen_ok, Nat.reducePow, Sem.run_ite, n1]
   have hf := hfill ((Array.range m).map (z.cells[· % z.cells.size]!)) (by simp [hm])
   simp only [Nat.mul_one, List.length_map, hm, Nat.zero_add, List.take_zero, List.nil_append] at hf
   have n2 : ¬ (m > 16777216) := by omega
   simp only [n2, if_false, Sem.run_pure, Result.andThen_ok, List.length_map, hm, hf]
   have z0 : ((Array.range m).map (z.cells[· % z.cells.size]!)).toList.drop m = [] := by simp
   have z1 : (xs.map a.eval).toArray.size = m := by simp [hm]
   rw [z0, List.append_nil, z1, hlen]
   simp [newRow]
 ·have : ((xs.map a.eval).toArray.toList.take cs.length) = xs.map a.eval := by
   rw [List.take_of_length_le (by simp [hlen, hm])]
  rw [this]; exact hL

theorem madeOne {z : Value} (h : z.oneCell' = true) (m : Nat) : madeCells z.cells m = (List.replicate m z).toArray := by
 have : z.cells = #[z] := by cases z <;> simp_all [Value.cells, Value.oneCell']
 rw [this]
 apply Array.ext'
 rw [toList_madeCells_one]

/-- make([]T, len, cap). -/
theorem AOps_makeSlice (d : Nat) (t e : TypeId) (x y : Operand) (kl kc : IntKind) (l c : Nat) (i : TypeInfo) (z : Value) (hw : wantedE ops E o = some true) (hd : o.dst = some d) (hlt : Nat.ble (d + 1) n = true) (hop : o.op = .makeSlice t x y)
  (hu : P.underlying t = some (.slice e)) (hi : P.info? e = some i) (hz : i.zero = some z) (hz1 : z.oneCell' = true) (hsz : i.size = 1) (hby : i.bytes ≤ 64) (hx : evalO E x = some (.d (.s (.int kl (l : Int))))) (hy : evalO E y = some (.d (.s (.int kc (c : Int)))))
  (hlc : l ≤ c) (hc : c ≤ 1099511627776) (h : AOps P n G ops rest ((d, .vec H.length 0) :: E) (H ++ [.vec 0 (List.replicate l (zD z))]) K) : AOps P n G ops (o :: rest) E H K := by
 refine AOps_newvec d (List.replicate l (zD z)) hw hd hlt (fun r a w hr => ?_) h
 have hb2 : (i.bytes : Int) * (c : Int) ≤ 281474976710656 := by
  have : i.bytes * c ≤ 64 * 1099511627776 := Nat.mul_le_mul hby hc
  have h2 : ((i.bytes * c : Nat) : Int) ≤ 281474976710656 := by omega
  rwa [Int.natCast_mul] at h2
 have hrun := run_make (P := P) w t e i z hu hi hz kl kc (l : Int) (c : Int) (by omega) (by omega) hb2 (by omega)
 rw [hsz] at hrun
 simp only [Int.toNat_natCast, Nat.mul_one] at hrun
 rw [madeOne hz1] at hrun
 refine ⟨_, (List.replicate c z).toArray, e, ?_, below_alloc' _ _, size_alloc' _ _, get_alloc' _ _, by simpa using hlc, by simp only [List.size_toArray, List.length_replicate, maxLen]; omega, ?_⟩
 ·simp [execOp, hop, evalO_s hr hx, evalO_s hr hy, hrun]
 ·rw [List.length_replicate]
  have e1 : (List.replicate c z).toArray.toList.take l = List.replicate l z := by simp [List.take_replicate, Nat.min_eq_left hlc]
  have e2 : List.replicate l (zD z) = (List.replicate l z).map zD := by simp
  rw [e1, e2]; exact zD_repL _

/-- What the second argument of an append holds. -/
def sliceOf (H : List AObj) : AV → Option (List D)
 | .d (.sl _ cs) => some cs
 | .vec k g => match H[k]? with
  | some (.vec g' cs) => bif Nat.beq g g' then some cs else none
  | _ => none
 | .part k g lo n => match H[k]? with
  | some (.vec g' cs) => bif Nat.beq g g' then some ((cs.drop lo).take n) else none
  | _ => none
 | _ => none

theorem sliceOf_sound {F : Nat → Prop} {w : World} {r : List Nat} (hh : HRel F w H r) {v : AV} {x : Value} {ds : List D} (h : sliceOf H v = some ds) (hr : RepV F w H r v x) :
  ∃ A cap vs, x = .slice A ds.length cap ∧ RepL w (imm F w H r) ds vs ∧ (ds = [] ∨ ∃ ad, A = some ad ∧ ∀ j u, vs[j]? = some u → w.cell? (ad.add j) = some u) := by
 cases hr with
 | d y _ hd =>
  cases hd <;> simp [sliceOf] at h
  rename_i isNil cs vs A cap hl hn hc hA hr
  subst h
  refine ⟨A, cap, vs, rfl, ⟨hl, hr⟩, ?_⟩
  by_cases he : cs = []
  ·exact .inl he
  ·obtain ⟨b, off, e, hI, hcell⟩ := hA he
   exact .inr ⟨_, e, fun j u hu => by rw [Addr.add_lit]; exact hcell j u hu⟩
 | vec k g _ ho hp =>
  simp only [sliceOf] at h
  split at h
  ·rename_i g' cs hk
   by_cases e : g = g'
   ·subst e
    rw [Nat.beq_refl, cond_true] at h
    cases h
    obtain ⟨b, hb⟩ := hh.blk hk
    obtain ⟨cap, vs, ty, e1, e2, e3⟩ := (hp g ds b hk hb).2 rfl
    have hO := hh.obj k _ b hk hb
    cases hO with
    | vec _ _ vs' ty' hw hc hm hl =>
     refine ⟨_, cap, vs'.toList.take ds.length, e1, hl, .inr ⟨_, rfl, fun j u hu => ?_⟩⟩
     rw [Addr.add_lit, World.cell_block hw]
     rw [List.getElem?_take] at hu
     split at hu
     ·simpa using hu
     ·simp at hu
   ·have : Nat.beq g g' = false := Bool.eq_false_iff.2 fun h' => e (Nat.eq_of_beq_eq_true h')
    rw [this] at h; simp at h
  ·simp at h
 | ptr => simp [sliceOf] at h
 | eptr => simp [sliceOf] at h
 | part k g lo n _ ho hp =>
  simp only [sliceOf] at h
  split at h
  ·rename_i g' cs hk
   by_cases e : g = g'
   ·subst e
    rw [Nat.beq_refl, cond_true] at h
    cases h
    obtain ⟨b, hb⟩ := hh.blk hk
    obtain ⟨e0, vs, ty, l, c0, e1, e2, e3⟩ := (hp g cs b hk hb).2 rfl
    have hO := hh.obj k _ b hk hb
    cases hO with
    | vec _ _ vs' ty' hw hc hm hl =>
     rw [hw] at e2; cases e2
     have hlen : ((cs.drop lo).take n).length = n := by simp; omega
     refine ⟨_, c0, ((vs.toList.take cs.length).drop lo).take n, by rw [hlen]; exact e1, (hl.drop lo).take n, ?_⟩
     by_cases hn0 : n = 0
     ·left; rw [hn0]; simp
     ·right
      refine ⟨_, rfl, fun j u hu => ?_⟩
      obtain ⟨rfl, _⟩ := e3 (by omega)
      rw [Addr.add_lit, World.cell_block hw]
      rw [List.getElem?_take] at hu
      split at hu
      ·rw [List.getElem?_drop, List.getElem?_take] at hu
       split at hu
       ·simpa using hu
       ·simp at hu
      ·simp at hu
   ·have : Nat.beq g g' = false := Bool.eq_false_iff.2 fun h' => e (Nat.eq_of_beq_eq_true h')
    rw [this] at h; simp at h
  ·simp at h
 | clo => simp [sliceOf] at h
 | tup => simp [sliceOf] at h

theorem zero_one {i : TypeInfo} {z : Value} (hz1 : z.oneCell' = true) (m : Nat) : (Builtin.zeroCells z.cells m).size = m := by
 have : z.cells = #[z] := by cases z <;> simp_all [Value.cells, Value.oneCell']
 rw [this]; simp [Builtin.zeroCells]

/-- append to a slice that this frame owns. -/
theorem AOps_append (d : Nat) (c : Call) (t e : TypeId) (x y : Operand) (k g : Nat) (v : AV) (cs ds : List D) (i : TypeInfo) (z : Value) (hw : wantedE ops E o = some true) (hd : o.dst = some d) (hlt : Nat.ble (d + 1) n = true) (hop : o.op = .call c) (hc : c.callee = .builtin .append)
  (ha : c.args = #[x, y]) (ht : c.argTypes = #[t, t]) (hu : P.underlying t = some (.slice e)) (hi : P.info? e = some i) (hz : i.zero = some z) (hz1 : z.oneCell' = true) (hsz : i.size = 1) (hby : i.bytes ≤ 64)
  (hx : evalO E x = some (.vec k g)) (hk : H[k]? = some (.vec g cs)) (hy : evalO E y = some v) (hv : sliceOf H v = some ds) (hone : ∀ c ∈ ds, c.one = true) (hlen : cs.length + ds.length ≤ 1099511627776)
  (h : AOps P n G ops rest ((d, .vec k (g + 1)) :: E) (H.set k (.vec (g + 1) (cs ++ ds))) K) : AOps P n G ops (o :: rest) E H K := by
 intro r a w hr
 unfold wpList
 rw [wantedE_sound hr hw, if_pos rfl]
 left
 have hkl := (List.getElem?_eq_some_iff.1 hk).1
 have hev := evalO_sound hr hx
 obtain ⟨A, cap2, vs2, ey, hL2, hA2⟩ := sliceOf_sound hr.heap hv (evalO_sound hr hy)
 generalize hxv : a.eval x = xv at hev
 cases hev with
 | vec _ _ _ ho hp =>
  obtain ⟨b, hb⟩ := hr.heap.blk hk
  obtain ⟨cap, vs, ty, e1, e2, e3⟩ := (hp g cs b hk hb).2 rfl
  subst e1
  have hO := hr.heap.obj k _ b hk hb
  cases hO with
  | vec _ _ vs' ty' hwb hcap hm hl =>
   rw [hwb] at e2
   cases e2
   subst e3
   have hones := hL2.oneCells hone
   have hl2 : vs2.length = ds.length := hL2.1
   -- the two roads
   have main : ∀ (w1 : World) (b' : Nat) (us : Array Value) (ty' : TypeId), (execOp a.eval o).run P w = .ok (.value (.slice (some ⟨b', 0, none⟩) (cs ++ ds).length us.size)) w1 → Step w H r w1 (H.set k (.vec (g + 1) (cs ++ ds))) (r.set k b') →
     HRel G.F w1 (H.set k (.vec (g + 1) (cs ++ ds))) (r.set k b') → w1.heap[b']? = some (.cells us ty' (0, 0)) →
     o.wp P a w (wpList P ops (fun x a' w' => x = .normal ∧ ∃ E' H' r', K E' H' ∧ Rel n G E' H' r' a' w') rest) (fun x a' w' => x = .normal ∧ ∃ E' H' r', K E' H' ∧ Rel n G E' H' r' a' w') := by
    intro w1 b' us ty' e hst hh hblk
    unfold Oper.wp
    rw [e, Oper.upon_value]
    refine h _ _ _ (hr.put hst hh o.dst _ _ d hd (Nat.le_of_ble_eq_true hlt) (.vec k (g + 1) _ (by simpa using hkl) fun g' cs' b0 h1 h2 => ?_))
    rw [List.getElem?_set, if_pos rfl, if_pos hkl] at h1
    rw [List.getElem?_set, if_pos rfl, if_pos (by rw [hr.heap.len]; exact hkl)] at h2
    cases h1; cases h2
    exact ⟨Nat.le_refl _, fun _ => ⟨_, us, ty', rfl, hblk, rfl⟩⟩
   have hblen : (cs.length + ds.length) * i.bytes ≤ 140737488355328 := by
    have : (cs.length + ds.length) * i.bytes ≤ 1099511627776 * 64 := Nat.mul_le_mul hlen hby
    omega
   -- a state in which object k lies at b'
   have build : ∀ (w1 : World) (b' : Nat) (us : Array Value) (ty' : TypeId), w1.os = w.os → w1.tape = w.tape → w1.output = w.output → w.heap.size ≤ w1.heap.size → (∀ c, c < w.heap.size → c ≠ b → w1.heap[c]? = w.heap[c]?) → w1.heap[b']? = some (.cells us ty' (0, 0)) →
     (b' = b ∨ w.heap.size ≤ b') → us.size ≤ maxLen → (us.toList.take (cs ++ ds).length = (vs.toList.take cs.length) ++ vs2) → cs.length + ds.length ≤ us.size →
     Step w H r w1 (H.set k (.vec (g + 1) (cs ++ ds))) (r.set k b') ∧ HRel G.F w1 (H.set k (.vec (g + 1) (cs ++ ds))) (r.set k b') := by
    intro w1 b' us ty' h1 h2 h3 h4 h5 h6 h7 h8 h9 h10
    have hbl : b < w.heap.size := (Array.getElem?_eq_some_iff.1 hwb).1
    have hkr : k < r.length := by rw [hr.heap.len]; exact hkl
    have at_ : ∀ (o' : Nat) (y' : AObj) (c' : Nat), (H.set k (.vec (g + 1) (cs ++ ds)))[o']? = some y' → (r.set k b')[o']? = some c' → (k = o' ∧ y' = .vec (g + 1) (cs ++ ds) ∧ c' = b') ∨ (k ≠ o' ∧ H[o']? = some y' ∧ r[o']? = some c') := by
     intro o' y' c' a1 a2
     rw [List.getElem?_set] at a1 a2
     by_cases e : k = o'
     ·subst e
      rw [if_pos rfl, if_pos hkl] at a1
      rw [if_pos rfl, if_pos hkr] at a2
      exact .inl ⟨rfl, (Option.some.inj a1).symm, (Option.some.inj a2).symm⟩
     ·rw [if_neg e] at a1 a2; exact .inr ⟨e, a1, a2⟩
    have hst : Step w H r w1 (H.set k (.vec (g + 1) (cs ++ ds))) (r.set k b') := by
     refine ⟨h1, h2, h3, h4, fun c' hc => ?_, by simp, fun o' y' c' ho a1 a2 a3 => ?_, fun o' g' cs' c' ho a1 a2 => ?_⟩
     ·have hne : c' ≠ b := fun e => hc.2 k _ hk rfl (by rw [e]; exact hb)
      refine ⟨h5 c' hc.1 hne, Nat.lt_of_lt_of_le hc.1 h4, fun o' y' a1 a2 a3 => ?_⟩
      rcases at_ o' y' c' a1 a3 with ⟨_, _, q3⟩ | ⟨_, q2, q3⟩
      ·have := hc.1; rcases h7 with h7 | h7 <;> omega
      ·exact hc.2 o' y' q2 a2 q3
     ·rcases at_ o' y' c' a1 a2 with ⟨_, q2, _⟩ | ⟨_, q2, q3⟩
      ·subst q2; simp [AObj.fixed] at a3
      ·exact ⟨y', q2, q3, a3⟩
     ·rcases at_ o' _ c' a1 a2 with ⟨q1, q2, q3⟩ | ⟨q1, q2, q3⟩
      ·subst q1; cases q2
       exact ⟨g, cs, b, hk, hb, .inl (by omega)⟩
      ·refine ⟨g', cs', c', q2, q3, .inr ⟨rfl, rfl, rfl, fun us' ty'' hu' => ⟨us', ty'', ?_, rfl⟩⟩⟩
       have hlt' := (hr.heap.obj o' _ c' q2 q3).lt rfl
       rw [h5 c' hlt' (fun e => q1 (hr.heap.inj k o' _ _ b hk rfl q2 rfl hb (by rw [← e]; exact q3)))]; exact hu'
    refine ⟨hst, ⟨by simp [hr.heap.len], ?_, ?_, ?_, fun c' hF => Nat.lt_of_lt_of_le (hr.heap.fin c' hF) h4⟩⟩
    ·intro o1 o2 y1 y2 c' a1 l1 a2 l2 a3 a4
     rcases at_ o1 y1 c' a1 a3 with ⟨q1, _, q3⟩ | ⟨q1, q2, q3⟩ <;> rcases at_ o2 y2 c' a2 a4 with ⟨p1, _, p3⟩ | ⟨p1, p2, p3⟩
     ·omega
     ·subst q3
      have hlt' := (hr.heap.obj o2 _ c' p2 p3).lt l2
      rcases h7 with h7 | h7
      ·subst h7; exact (p1 (hr.heap.inj k o2 _ _ c' hk rfl p2 l2 hb p3)).elim
      ·omega
     ·subst p3
      have hlt' := (hr.heap.obj o1 _ c' q2 q3).lt l1
      rcases h7 with h7 | h7
      ·subst h7; exact (q1 (hr.heap.inj k o1 _ _ c' hk rfl q2 l1 hb q3)).elim
      ·omega
     ·exact hr.heap.inj o1 o2 y1 y2 c' q2 l1 p2 l2 q3 p3
    ·intro o' y' c' a1 a2
     rcases at_ o' y' c' a1 a2 with ⟨q1, q2, q3⟩ | ⟨q1, q2, q3⟩
     ·subst q2; subst q3
      exact .vec _ _ us ty' h6 (by simpa using h10) h8 (by rw [h9]; exact (hl.append hL2).mono hst.imm)
     ·have hO' := hr.heap.obj o' y' c' q2 q3
      refine hO'.step hst fun hl' => h5 c' (hO'.lt hl') fun e => q1 (hr.heap.inj k o' _ _ b hk rfl q2 hl' hb (by rw [← e]; exact q3))
    ·intro o' y' c' a1 l1 a2 hF
     rcases at_ o' y' c' a1 a2 with ⟨q1, q2, q3⟩ | ⟨q1, q2, q3⟩
     ·subst q3
      rcases h7 with h7 | h7
      ·subst h7; exact hr.heap.notF k _ c' hk rfl hb hF
      ·have := hr.heap.fin c' hF; omega
     ·exact hr.heap.notF o' y' c' q2 l1 q3 hF
   have hexec : ∀ q w1, (Builtin.append_ #[t, t] o.type #[.slice (some ⟨b, 0, none⟩) cs.length vs.size, a.eval y]).run P w = .ok q w1 → (execOp a.eval o).run P w = .ok (.value q) w1 := by
    intro q w1 hq
    rw [run_builtin hop hc, ha, ht]
    simp [builtin, hxv, hq]
   by_cases hroom : cs.length + ds.length ≤ vs.size
   · -- in place
    have hblk0 : w.heap[b]? = some (.cells vs ty (0, 0)) := hwb
    have happ : ∃ us : Array Value, us.size = vs.size ∧ us.toList.take (cs ++ ds).length = vs.toList.take cs.length ++ vs2 ∧ (Builtin.append_ #[t, t] o.type #[.slice (some ⟨b, 0, none⟩) cs.length vs.size, a.eval y]).run P w = .ok (.slice (some ⟨b, 0, none⟩) (cs ++ ds).length us.size) (w.setRow b us) := by
     refine ⟨(vs.toList.take cs.length ++ vs2 ++ vs.toList.drop (cs.length + vs2.length)).toArray, by simp [hl2]; omega, ?_, ?_⟩
     ·exact List.take_left' (by simp [hl2]; omega)
     ·rw [ey]
      have hst := run_storeCells_at P b cs.length ty vs2 0 vs w hblk0 (by omega) hones
      simp only [Nat.add_zero] at hst
      have hfc : ∀ w', w' = w → (Builtin.firstCells 1 ds.length (.slice A ds.length cap2)).run P w' = .ok vs2.toArray w' := by
       intro w' hw'; subst hw'
       rcases hA2 with rfl | ⟨ad, rfl, hcell⟩
       ·have : vs2 = [] := List.eq_nil_of_length_eq_zero hl2
        subst this
        cases A <;> simp [Builtin.firstCells, loadCells, loadCellsFrom]
       ·exact run_firstCells_some w' 1 ds.length ad ds.length cap2 vs2 (by omega) hcell
      have hsum : ((vs.toList.take cs.length ++ vs2 ++ vs.toList.drop (cs.length + vs2.length)).toArray).size = vs.size := by simp [hl2]; omega
      rw [hsum]
      simp [Builtin.append_, run_underlying hu, sizeOf, typeInfo, hi, Builtin.lenOf, hroom, hfc w rfl, Addr.add_lit, hsz, hst]
    obtain ⟨us, q1, q2, q3⟩ := happ
    have e := hexec _ _ q3
    obtain ⟨s1, s2⟩ := build (w.setRow b us) b us ty rfl rfl rfl (by simp) (fun c' _ hne => setRow_other w b c' us hne) (setRow_heap w b vs us ty (0, 0) hwb) (.inl rfl) (by omega) q2 (by omega)
    exact main _ b us ty e s1 s2 (setRow_heap w b vs us ty (0, 0) hwb)
   · -- a new block
    have hgt : vs.size < cs.length + ds.length := by omega
    have hne : ds ≠ [] := fun e => by subst e; simp at hgt; omega
    obtain ⟨ad, rfl, hcell⟩ := hA2.resolve_left hne
    have holds : ∀ j u, (vs.toList.take cs.length)[j]? = some u → w.cell? ((⟨b, 0, none⟩ : Addr).add j) = some u := by
     intro j u hu
     rw [Addr.add_lit, World.cell_block hwb]
     rw [List.getElem?_take] at hu
     split at hu
     ·simpa using hu
     ·simp at hu
    have hlo : (vs.toList.take cs.length).length = cs.length * i.size := by rw [hsz]; simp; omega
    have hfit := growslice_fits (need := cs.length + ds.length) (old := vs.size) (bytes := i.bytes) hgt hblen
    have hgrow := run_append_grow (P := P) w t o.type e i z hu hi hz ⟨b, 0, none⟩ cs.length vs.size (vs.toList.take cs.length) hlo holds ad ds.length cap2 vs2 (by rw [hsz]; omega) hcell hgt (by omega) hfit
    have hgc := grownCap_ge w (cs.length + ds.length) vs.size e
    have hgm := grownCap_le_maxLen w (cs.length + ds.length) vs.size e (by simp only [maxLen]; omega)
    generalize hcapv : grownCap w (cs.length + ds.length) vs.size e = nc at hgrow hgc hgm
    generalize hus : ((vs.toList.take cs.length).toArray ++ vs2.toArray ++ Builtin.zeroCells z.cells (nc - (cs.length + ds.length))) = us at hgrow
    have hussz : us.size = nc := by
     rw [← hus]; simp only [Array.size_append, List.size_toArray, zero_one (i := i) hz1, List.length_take, Array.length_toList, hl2]; omega
    have htake : us.toList.take (cs ++ ds).length = vs.toList.take cs.length ++ vs2 := by
     rw [← hus, Array.toList_append]
     simp only [Array.toList_append]
     exact List.take_left' (by simp [hl2]; omega)
    have ex : (execOp a.eval o).run P w = .ok (.value (.slice (some ⟨w.heap.size, 0, none⟩) (cs ++ ds).length us.size)) (w.drew.alloc (.cells us e)) := by
     refine hexec _ _ ?_
     rw [ey, hgrow, hussz, List.length_append]
    have hb1 : Below w.heap.size w (w.drew.alloc (.cells us e)) := by
     have h0 : Below w.heap.size w w.drew := (Below.refl _ w).drew
     exact h0.alloc (Nat.le_refl _) _
    have hblk : (w.drew.alloc (.cells us e)).heap[w.heap.size]? = some (.cells us e (0, 0)) := get_alloc' w.drew _
    obtain ⟨s1, s2⟩ := build _ w.heap.size us e hb1.os hb1.tape hb1.output hb1.size (fun c' hc' _ => hb1.block c' hc') hblk (.inr (Nat.le_refl _)) (by omega) htake (by omega)
    exact main _ w.heap.size us e ex s1 s2 hblk
end
end Go.Proofs.YtldgmcghdohmeaaGreat.Ab
