/- Own library, part 15: parts of owned slices: cut, read, copied into, appended to in place. No conditions. -/
import Derived.Test.YtldgmcghdohmeaaGreatAb14
import Derived.Laws.CopyRow
import Derived.Laws.IdiomCopy
set_option linter.unusedVariables false
set_option linter.unusedSimpArgs false
namespace Go.Proofs.YtldgmcghdohmeaaGreat.Ab
open Go Go.RowKit

section
variable {P : Program} {n : Nat} {G : Ctx} {E : Env} {H : List AObj} {ops : Array Oper} {rest : List Oper} {o : Oper} {K : Env → List AObj → Prop}

/-- An owned slice, or a part of one: object, age, place, length. -/
def dstOf (H : List AObj) : AV → Option (Nat × Nat × Nat × Nat)
 | .vec k g => match H[k]? with
  | some (.vec g' cs) => bif Nat.beq g g' then some (k, g, 0, cs.length) else none
  | _ => none
 | .part k g lo m => match H[k]? with
  | some (.vec g' _) => bif Nat.beq g g' then some (k, g, lo, m) else none
  | _ => none
 | _ => none

theorem dstOf_sound {F : Nat → Prop} {w : World} {r : List Nat} (hh : HRel F w H r) {v : AV} {x : Value} {k g lo m : Nat} {cs : List D} (h : dstOf H v = some (k, g, lo, m)) (hk : H[k]? = some (.vec g cs)) (hr : RepV F w H r v x) :
  k < H.length ∧ lo + m ≤ cs.length ∧ ∃ (b : Nat) (vs : Array Value) (ty : TypeId) (l c : Nat), r[k]? = some b ∧ x = .slice (some ⟨b, l, none⟩) m c ∧ w.heap[b]? = some (.cells vs ty (0, 0)) ∧ (lo ≠ vs.size → l = lo ∧ c = vs.size - lo) := by
 cases hr with
 | vec k' g' _ ho hp =>
  simp only [dstOf] at h
  split at h
  ·rename_i g1 cs1 hk1
   by_cases e : g' = g1
   ·subst e
    rw [Nat.beq_refl, cond_true] at h
    cases h
    rw [hk] at hk1; cases hk1
    obtain ⟨b, hb⟩ := hh.blk hk
    obtain ⟨cap, vs, ty, e1, e2, e3⟩ := (hp _ cs b hk hb).2 rfl
    exact ⟨ho, by omega, b, vs, ty, 0, cap, hb, e1, e2, fun _ => ⟨rfl, by omega⟩⟩
   ·have : Nat.beq g' g1 = false := Bool.eq_false_iff.2 fun h' => e (Nat.eq_of_beq_eq_true h')
    rw [this] at h; simp at h
  ·simp at h
 | part k' g' lo' m' _ ho hp =>
  simp only [dstOf] at h
  split at h
  ·rename_i g1 cs1 hk1
   by_cases e : g' = g1
   ·subst e
    rw [Nat.beq_refl, cond_true] at h
    cases h
    rw [hk] at hk1; cases hk1
    obtain ⟨b, hb⟩ := hh.blk hk
    obtain ⟨e0, vs, ty, l, c, e1, e2, e3⟩ := (hp _ cs b hk hb).2 rfl
    exact ⟨ho, e0, b, vs, ty, l, c, hb, e1, e2, e3⟩
   ·have : Nat.beq g' g1 = false := Bool.eq_false_iff.2 fun h' => e (Nat.eq_of_beq_eq_true h')
    rw [this] at h; simp at h
  ·simp at h
 | d => simp [dstOf] at h
 | ptr => simp [dstOf] at h
 | eptr => simp [dstOf] at h
 | clo => simp [dstOf] at h
 | tup => simp [dstOf] at h

theorem QOp_len_part (c : Call) (t : TypeId) (e : TypeId) (x : Operand) (v : AV) (k g lo m : Nat) (cs : List D) (hop : o.op = .call c) (hc : c.callee = .builtin .len) (ha : c.args = #[x]) (ht : c.argTypes = #[t]) (hu : P.underlying t = some (.slice e))
  (he : evalO E x = some v) (hd : dstOf H v = some (k, g, lo, m)) (hk : H[k]? = some (.vec g cs)) : QOp P n G o E H (.d (.s (.int .i64 (m : Int)))) := by
 intro r a w hr
 obtain ⟨ho, e0, b, vs, ty, l0, c0, hb, e1, e2, e3⟩ := dstOf_sound hr.heap hd hk (evalO_sound hr he)
 refine ⟨_, .d _ _ (.s _), fun w' _ => ?_⟩
 rw [run_builtin hop hc, ha, ht]
 simp [builtin, e1, Builtin.len_, run_underlying hu, goInt]

theorem QOp_indexAddr_part (t e : TypeId) (x y : Operand) (kd : IntKind) (v : AV) (k g lo m : Nat) (cs : List D) (i : Int) (h : o.op = .indexAddr t x y) (hu : P.underlying t = some (.slice e)) (hsz : ∀ w, (sizeOf e).run P w = .ok 1 w)
  (h0 : 0 ≤ i) (h1 : i < (m : Int)) (hx : evalO E x = some v) (hd : dstOf H v = some (k, g, lo, m)) (hk : H[k]? = some (.vec g cs)) (hy : evalO E y = some (.d (.s (.int kd i)))) : QOp P n G o E H (.eptr k g (lo + i.toNat)) := by
 intro r a w hr
 obtain ⟨ho, e0, b, vs, ty, l0, c0, hb, e1, e2, e3⟩ := dstOf_sound hr.heap hd hk (evalO_sound hr hx)
 have hO := hr.heap.obj k _ b hk hb
 cases hO with
 | vec _ _ vs' ty' hw hc hmx hl =>
 rw [hw] at e2
 cases e2
 obtain ⟨rfl, _⟩ := e3 (by omega)
 refine ⟨.pointer (some ⟨b, l0 + i.toNat, none⟩), .eptr k g _ _ ho fun g' cs' b' h2 h3 => ?_, fun w' _ => ?_⟩
 ·rw [hk] at h2; cases h2
  rw [hb] at h3; cases h3
  exact ⟨Nat.le_refl _, fun _ => rfl⟩
 ·simp [execOp, h, Instr.indexAt, run_underlying hu, e1, evalO_s hr hy, asIntOf, hsz, Addr.add_lit, h0, h1]

/-- What lies in an owned slice behind a copy into it. -/
def spliced (cs : List D) (lo m : Nat) (ds : List D) : List D := cs.take lo ++ ds.take m ++ cs.drop (lo + min ds.length m)
theorem spliced_length (cs : List D) (lo m : Nat) (ds : List D) (h : lo + m ≤ cs.length) : (spliced cs lo m ds).length = cs.length := by simp [spliced]; omega

/-- .. of lists. -/
def splicedL {α : Type} (l : List α) (lo m : Nat) (ds : List α) : List α := l.take lo ++ ds.take m ++ l.drop (lo + min ds.length m)
theorem splicedL_length {α : Type} (l : List α) (lo m : Nat) (ds : List α) (h : lo + m ≤ l.length) : (splicedL l lo m ds).length = l.length := by simp [splicedL]; omega
theorem spliced_map {α : Type} (f : α → D) (l : List α) (lo m : Nat) (ds : List α) : spliced (l.map f) lo m (ds.map f) = (splicedL l lo m ds).map f := by simp [spliced, splicedL, List.map_take, List.map_drop]
theorem dt_map {α : Type} (f : α → D) (l : List α) (a b : Nat) : ((l.map f).drop a).take b = ((l.drop a).take b).map f := by simp [List.map_take, List.map_drop]
end
end Go.Proofs.YtldgmcghdohmeaaGreat.Ab
