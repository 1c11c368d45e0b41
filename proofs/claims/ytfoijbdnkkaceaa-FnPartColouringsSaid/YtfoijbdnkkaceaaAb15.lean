/- Own library, part 15: parts of owned slices: cut, read, copied into, appended to in place. No conditions. -/
import Derived.Test.YtfoijbdnkkaceaaAb14
import Derived.Laws.CopyRow
import Derived.Laws.IdiomCopy
set_option linter.unusedVariables false
set_option linter.unusedSimpArgs false
namespace Go.Proofs.Ytfoijbdnkkaceaa.Ab
open Go Go.RowKit

section
variable {P : Program} {n : Nat} {G : Ctx} {E : Env} {H : List AObj} {ops : Array Oper} {rest : List Oper} {o : Oper} {K : Env → List AObj → Prop}

/-- An owned slice, or a part of one: object, age, place, length. -/
def dstOf (H : List AObj) : AV → Option (Nat × Nat × Nat × Nat)
  | .vec k g => match H[k]? with
    | some (.vec g' cs) => bif Nat.beq g g' then some (k, g, 0, cs.length) else none
    | _ => none
  | .part k g lo m => match H[k]? with
    | some (.vec g' _) => bif Nat.beq g g' then some (k, g, lo, m) else none
    | _ => none
  | _ => none

theorem dstOf_sound {F : Nat → Prop} {w : World} {r : List Nat} (hh : HRel F w H r) {v : AV} {x : Value} {k g lo m : Nat} {cs : List D} (h : dstOf H v = some (k, g, lo, m)) (hk : H[k]? = some (.vec g cs)) (hr : RepV F w H r v x) :
    k < H.length ∧ lo + m ≤ cs.length ∧ ∃ (b : Nat) (vs : Array Value) (ty : TypeId) (l c : Nat), r[k]? = some b ∧ x = .slice (some ⟨b, l, none⟩) m c ∧ w.heap[b]? = some (.cells vs ty (0, 0)) ∧ (lo ≠ vs.size → l = lo ∧ c = vs.size - lo) := by
  cases hr with
  | vec k' g' _ ho hp =>
    simp only [dstOf] at h
    split at h
    · rename_i g1 cs1 hk1
      by_cases e : g' = g1
      · subst e
        rw [Nat.beq_refl, cond_true] at h
        cases h
        rw [hk] at hk1; cases hk1
        obtain ⟨b, hb⟩ := hh.blk hk
        obtain ⟨cap, vs, ty, e1, e2, e3⟩ := (hp _ cs b hk hb).2 rfl
        exact ⟨ho, by omega, b, vs, ty, 0, cap, hb, e1, e2, fun _ => ⟨rfl, by omega⟩⟩
      · have : Nat.beq g' g1 = false := Bool.eq_false_iff.2 fun h' => e (Nat.eq_of_beq_eq_true h')
        rw [this] at h; simp at h
    · simp at h
  | part k' g' lo' m' _ ho hp =>
    simp only [dstOf] at h
    split at h
    · rename_i g1 cs1 hk1
      by_cases e : g' = g1
      · subst e
        rw [Nat.beq_refl, cond_true] at h
        cases h
        rw [hk] at hk1; cases hk1
        obtain ⟨b, hb⟩ := hh.blk hk
        obtain ⟨e0, vs, ty, l, c, e1, e2, e3⟩ := (hp _ cs b hk hb).2 rfl
        exact ⟨ho, e0, b, vs, ty, l, c, hb, e1, e2, e3⟩
      · have : Nat.beq g' g1 = false := Bool.eq_false_iff.2 fun h' => e (Nat.eq_of_beq_eq_true h')
        rw [this] at h; simp at h
    · simp at h
  | d => simp [dstOf] at h
  | ptr => simp [dstOf] at h
  | eptr => simp [dstOf] at h
  | clo => simp [dstOf] at h
  | tup => simp [dstOf] at h

/-- A cut out of an owned slice. -/
theorem QOp_cut (t e : TypeId) (x : Operand) (lo hi : Option Operand) (v : AV) (k g lo0 m0 : Nat) (cs : List D) (l m : Nat) (h : o.op = .slice t x lo hi none) (hu : P.underlying t = some (.slice e)) (hsz : ∀ w, (sizeOf e).run P w = .ok 1 w)
    (hx : evalO E x = some v) (hd : dstOf H v = some (k, g, lo0, m0)) (hk : H[k]? = some (.vec g cs)) (hlo : match lo with | none => l = 0 | some y => ∃ k, evalO E y = some (.d (.s (.int k (l : Int)))))
    (hhi : match hi with | none => m = m0 | some y => ∃ k, evalO E y = some (.d (.s (.int k (m : Int))))) (hlm : l ≤ m) (hm : m ≤ m0) (a1 : Nat) (ha1 : lo0 + l = a1) (a2 : Nat) (ha2 : m - l = a2) : QOp P n G o E H (.part k g a1 a2) := by
  subst ha1; subst ha2
  intro r a w hr
  have hev := evalO_sound hr hx
  obtain ⟨ho, e0, b, vs, ty, l0, c0, hb, e1, e2, e3⟩ := dstOf_sound hr.heap hd hk hev
  have hO := hr.heap.obj k _ b hk hb
  cases hO with
  | vec _ _ vs' ty' hw hc hmx hl =>
  rw [hw] at e2
  cases e2
  have hmc : m ≤ c0 := by
    by_cases e : lo0 = vs.size
    · omega
    · have := e3 e; omega
  have hbnd : ∀ w', (Instr.sliceBounds true m0 c0 (lo.map a.eval) (hi.map a.eval) none).run P w' = .ok (l, m, c0) w' := by
    intro w'
    cases lo with
    | none =>
      simp only at hlo; subst hlo
      cases hi with
      | none => simp only at hhi; subst hhi; simp [Instr.sliceBounds]
      | some y =>
        obtain ⟨k, hy⟩ := hhi
        simp [Instr.sliceBounds, evalO_s hr hy, Instr.sliceBound, asIntOf, hmc]
    | some z =>
      obtain ⟨k', hz⟩ := hlo
      cases hi with
      | none => simp only at hhi; subst hhi; simp [Instr.sliceBounds, evalO_s hr hz, Instr.sliceBound, asIntOf, hlm]
      | some y =>
        obtain ⟨k, hy⟩ := hhi
        simp [Instr.sliceBounds, evalO_s hr hy, evalO_s hr hz, Instr.sliceBound, asIntOf, hmc, hlm]
  refine ⟨.slice (if c0 = l then some ⟨b, l0, none⟩ else (some ⟨b, l0, none⟩ : Option Addr).map (·.add (l * 1))) (m - l) (c0 - l), .part k g (lo0 + l) (m - l) _ ho fun g' cs' b' h1 h2 => ?_, fun w' _ => ?_⟩
  · rw [hk] at h1; cases h1
    rw [hb] at h2; cases h2
    refine ⟨Nat.le_refl _, fun _ => ⟨by omega, vs, ty, if c0 = l then l0 else l0 + l, c0 - l, ?_, hw, fun hne => ?_⟩⟩
    · split
      · rfl
      · simp [Addr.add_lit]
    · by_cases e : lo0 = vs.size
      · have : l = 0 := by omega
        omega
      · obtain ⟨rfl, rfl⟩ := e3 e
        rw [if_neg (by omega)]
        exact ⟨rfl, by omega⟩
  · simp [execOp, h, Instr.sliceAt, Instr.slice, run_underlying hu, e1, hbnd, hsz]

theorem dt_map {α : Type} (f : α → D) (l : List α) (a b : Nat) : ((l.map f).drop a).take b = ((l.drop a).take b).map f := by simp [List.map_take, List.map_drop]
end
end Go.Proofs.Ytfoijbdnkkaceaa.Ab
