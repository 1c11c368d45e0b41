/- Own library, part 15: parts of owned slices: cut, read, copied into, appended to in place. No conditions. -/
import Derived.Test.YtghhnpdhehjlaaaGreatAb14
import Derived.Laws.CopyRow
import Derived.Laws.IdiomCopy
set_option linter.unusedVariables false
set_option linter.unusedSimpArgs false
namespace Go.Proofs.YtghhnpdhehjlaaaGreat.Ab
open Go Go.RowKit

section
variable {P : Program} {n : Nat} {G : Ctx} {E : Env} {H : List AObj} {ops : Array Oper} {rest : List Oper} {o : Oper} {K : Env → List AObj → Prop}

/-- An owned slice, or a part of one: object, age, place, length. -/
def dstOf (H : List AObj) : AV → Option (Nat × Nat × Nat × Nat)
  | .vec k g => match H[k]? with
    | some (.vec g' cs) => bif Nat.beq g g' then some (k, g, 0, cs.length) else none
    | _ => none
  | .part k g lo m => match H[k]? with
    | some (.vec g' _) => bif Nat.beq g g' then some (k, g, lo, m) else none
    | _ => none
  | _ => none

theorem dstOf_sound {F : Nat → Prop} {w : World} {r : List Nat} (hh : HRel F w H r) {v : AV} {x : Value} {k g lo m : Nat} {cs : List D} (h : dstOf H v = some (k, g, lo, m)) (hk : H[k]? = some (.vec g cs)) (hr : RepV F w H r v x) :
    k < H.length ∧ lo + m ≤ cs.length ∧ ∃ (b : Nat) (vs : Array Value) (ty : TypeId) (l c : Nat), r[k]? = some b ∧ x = .slice (some ⟨b, l, none⟩) m c ∧ w.heap[b]? = some (.cells vs ty (0, 0)) ∧ (lo ≠ vs.size → l = lo ∧ c = vs.size - lo) := by
  cases hr with
  | vec k' g' _ ho hp =>
    simp only [dstOf] at h
    split at h
    · rename_i g1 cs1 hk1
      by_cases e : g' = g1
      · subst e
        rw [Nat.beq_refl, cond_true] at h
        cases h
        rw [hk] at hk1; cases hk1
        obtain ⟨b, hb⟩ := hh.blk hk
        obtain ⟨cap, vs, ty, e1, e2, e3⟩ := (hp _ cs b hk hb).2 rfl
        exact ⟨ho, by omega, b, vs, ty, 0, cap, hb, e1, e2, fun _ => ⟨rfl, by omega⟩⟩
      · have : Nat.beq g' g1 = false := Bool.eq_false_iff.2 fun h' => e (Nat.eq_of_beq_eq_true h')
        rw [this] at h; simp at h
    · simp at h
  | part k' g' lo' m' _ ho hp =>
    simp only [dstOf] at h
    split at h
    · rename_i g1 cs1 hk1
      by_cases e : g' = g1
      · subst e
        rw [Nat.beq_refl, cond_true] at h
        cases h
        rw [hk] at hk1; cases hk1
        obtain ⟨b, hb⟩ := hh.blk hk
        obtain ⟨e0, vs, ty, l, c, e1, e2, e3⟩ := (hp _ cs b hk hb).2 rfl
        exact ⟨ho, e0, b, vs, ty, l, c, hb, e1, e2, e3⟩
      · have : Nat.beq g' g1 = false := Bool.eq_false_iff.2 fun h' => e (Nat.eq_of_beq_eq_true h')
        rw [this] at h; simp at h
    · simp at h
  | d => simp [dstOf] at h
  | ptr => simp [dstOf] at h
  | eptr => simp [dstOf] at h
  | clo => simp [dstOf] at h
  | tup => simp [dstOf] at h

/-- What lies in an owned slice behind a copy into it. -/
def spliced (cs : List D) (lo m : Nat) (ds : List D) : List D := cs.take lo ++ ds.take m ++ cs.drop (lo + min ds.length m)
theorem run_copy_part (w : World) (dT sT ty elem : TypeId) (g o' dLen dCap sLen sCap : Nat) (A : Option Addr) (cur : Array Value) (t : TypeId) (vs2 : List Value)
    (hu : P.underlying dT = some (.slice elem)) (hs : (P.info? elem).map (·.size) = some 1) (hg : w.heap[g]? = some (.cells cur t (0, 0))) (h2 : vs2.length = sLen)
    (hsrc : vs2 = [] ∨ ∃ ad, A = some ad ∧ ∀ j u, vs2[j]? = some u → w.cell? (ad.add j) = some u) (l : Nat) (hl : dLen ≠ 0 → l = o') (hfit : o' + dLen ≤ cur.size) (h1 : ∀ v ∈ vs2, v.oneCell' = true) :
    (Builtin.copy_ #[dT, sT] ty #[.slice (some ⟨g, l, none⟩) dLen dCap, .slice A sLen sCap]).run P w =
      .ok (goInt ((min sLen dLen : Nat) : Int)) (w.setRow g (cur.toList.take o' ++ vs2.take dLen ++ cur.toList.drop (o' + min sLen dLen)).toArray) := by
  by_cases hz : Nat.min sLen dLen = 0
  · rw [run_copy_none w dT sT ty elem (some ⟨g, l, none⟩) A dLen dCap sLen sCap hu hs hz]
    have hz' : min sLen dLen = 0 := hz
    rw [hz']
    have : vs2.take dLen = [] := by
      apply List.eq_nil_of_length_eq_zero
      simp [h2]; omega
    rw [this]
    simp only [List.append_nil, Nat.add_zero, List.take_append_drop, Array.toArray_toList]
    rw [setRow_self w g cur t (0, 0) hg]; try rfl
  · have hz' : ¬ min sLen dLen = 0 := hz
    obtain rfl := hl (by omega)
    rcases hsrc with h | ⟨ad, rfl, hc⟩
    · exact absurd (by rw [h] at h2; simp at h2; omega) hz'
    · have := run_copy_row P w dT sT ty elem g l dLen dCap ad sLen sCap cur t (vs2.take dLen) hu hs hg (by simp [h2]; exact Nat.min_comm _ _) (fun j v hv => by
          rw [List.getElem?_take] at hv
          split at hv
          · exact hc j v hv
          · simp at hv) (by simp [h2]; omega) (fun v hv => h1 v (List.mem_of_mem_take hv))
      rw [this]
      have e : (vs2.take dLen).length = min sLen dLen := by simp [h2]; exact Nat.min_comm _ _
      rw [e]

/-- .. of lists. -/
def splicedL {α : Type} (l : List α) (lo m : Nat) (ds : List α) : List α := l.take lo ++ ds.take m ++ l.drop (lo + min ds.length m)
theorem spliced_map {α : Type} (f : α → D) (l : List α) (lo m : Nat) (ds : List α) : spliced (l.map f) lo m (ds.map f) = (splicedL l lo m ds).map f := by simp [spliced, splicedL, List.map_take, List.map_drop]
theorem dt_map {α : Type} (f : α → D) (l : List α) (a b : Nat) : ((l.map f).drop a).take b = ((l.drop a).take b).map f := by simp [List.map_take, List.map_drop]
end
end Go.Proofs.YtghhnpdhehjlaaaGreat.Ab
