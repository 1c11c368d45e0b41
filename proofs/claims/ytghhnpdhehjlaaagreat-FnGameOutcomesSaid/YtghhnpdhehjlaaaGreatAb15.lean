/- Own library, part 15: parts of owned slices: cut, read, copied into, appended to in place. No conditions. -/
import Derived.Test.YtghhnpdhehjlaaaGreatAb14
import Derived.Laws.CopyRow
import Derived.Laws.IdiomCopy
set_option linter.unusedVariables false
set_option linter.unusedSimpArgs false
namespace Go.Proofs.YtghhnpdhehjlaaaGreat.Ab
open Go Go.RowKit

section
variable {P : Program} {n : Nat} {G : Ctx} {E : Env} {H : List AObj} {ops : Array Oper} {rest : List Oper} {o : Oper} {K : Env → List AObj → Prop}

/-- An owned slice, or a part of one: object, age, place, length. -/
def dstOf (H : List AObj) : AV → Option (Nat × Nat × Nat × Nat)
  | .vec k g => match H[k]? with
    | some (.vec g' cs) => bif Nat.beq g g' then some (k, g, 0, cs.length) else none
    | _ => none
  | .part k g lo m => match H[k]? with
    | some (.vec g' _) => bif Nat.beq g g' then some (k, g, lo, m) else none
    | _ => none
  | _ => none

theorem dstOf_sound {F : Nat → Prop} {w : World} {r : List Nat} (hh : HRel F w H r) {v : AV} {x : Value} {k g lo m : Nat} {cs : List D} (h : dstOf H v = some (k, g, lo, m)) (hk : H[k]? = some (.vec g cs)) (hr : RepV F w H r v x) :
    k < H.length ∧ lo + m ≤ cs.length ∧ ∃ (b : Nat) (vs : Array Value) (ty : TypeId) (l c : Nat), r[k]? = some b ∧ x = .slice (some ⟨b, l, none⟩) m c ∧ w.heap[b]? = some (.cells vs ty (0, 0)) ∧ (lo ≠ vs.size → l = lo ∧ c = vs.size - lo) := by
  cases hr with
  | vec k' g' _ ho hp =>
    simp only [dstOf] at h
    split at h
    · rename_i g1 cs1 hk1
      by_cases e : g' = g1
      · subst e
        rw [Nat.beq_refl, cond_true] at h
        cases h
        rw [hk] at hk1; cases hk1
        obtain ⟨b, hb⟩ := hh.blk hk
        obtain ⟨cap, vs, ty, e1, e2, e3⟩ := (hp _ cs b hk hb).2 rfl
        exact ⟨ho, by omega, b, vs, ty, 0, cap, hb, e1, e2, fun _ => ⟨rfl, by omega⟩⟩
      · have : Nat.beq g' g1 = false := Bool.eq_false_iff.2 fun h' => e (Nat.eq_of_beq_eq_true h')
        rw [this] at h; simp at h
    · simp at h
  | part k' g' lo' m' _ ho hp =>
    simp only [dstOf] at h
    split at h
    · rename_i g1 cs1 hk1
      by_cases e : g' = g1
      · subst e
        rw [Nat.beq_refl, cond_true] at h
        cases h
        rw [hk] at hk1; cases hk1
        obtain ⟨b, hb⟩ := hh.blk hk
        obtain ⟨e0, vs, ty, l, c, e1, e2, e3⟩ := (hp _ cs b hk hb).2 rfl
        exact ⟨ho, e0, b, vs, ty, l, c, hb, e1, e2, e3⟩
      · have : Nat.beq g' g1 = false := Bool.eq_false_iff.2 fun h' => e (Nat.eq_of_beq_eq_true h')
        rw [this] at h; simp at h
    · simp at h
  | d => simp [dstOf] at h
  | ptr => simp [dstOf] at h
  | eptr => simp [dstOf] at h
  | clo => simp [dstOf] at h
  | tup => simp [dstOf] at h

theorem dt_map {α : Type} (f : α → D) (l : List α) (a b : Nat) : ((l.map f).drop a).take b = ((l.drop a).take b).map f := by simp [List.map_take, List.map_drop]
end
end Go.Proofs.YtghhnpdhehjlaaaGreat.Ab
