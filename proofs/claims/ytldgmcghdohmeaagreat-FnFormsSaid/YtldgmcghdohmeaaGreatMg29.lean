/- Own library: tables of whole numbers whose rows are a call's own. No conditions. -/
import Derived.Test.YtldgmcghdohmeaaGreatAb20
import Derived.Test.YtldgmcghdohmeaaGreatColEq
import Derived.Test.YtldgmcghdohmeaaGreatAb14
import Derived.Sort.OwnSortedInts
import Derived.Shelf.SortG.SortNone
import Derived.Shelf.SortG.Plain
import Derived.Shelf.SlIterI.Sorted
set_option linter.unusedSimpArgs false
set_option linter.unusedVariables false
namespace Go.Proofs.YtldgmcghdohmeaaGreat
open Go Go.RowKit Ab

/-- A row's header: its block, its length, its capacity. -/
def hX (p : Nat × Nat × Nat) : D := .s (.slice (some ⟨p.1, 0, none⟩) p.2.1 p.2.2)
def hdD (l : List (Nat × Nat × Nat)) : List D := l.map hX
theorem hdD_length (l : List (Nat × Nat × Nat)) : (hdD l).length = l.length := by simp [hdD]
theorem hdD_get (l : List (Nat × Nat × Nat)) (i : Nat) (d : Nat × Nat × Nat) (h : i < l.length) : (hdD l)[i]? = some (hX (l.getD i d)) := by simp [hdD, h]
theorem hdD_one (l : List (Nat × Nat × Nat)) : ∀ c ∈ hdD l, c.one = true := by
 intro c hc
 obtain ⟨p, _, rfl⟩ := List.mem_map.1 hc
 rfl
theorem hdD_app (l m : List (Nat × Nat × Nat)) : hdD l ++ hdD m = hdD (l ++ m) := by simp [hdD]
theorem intsD_s (l : List Int) : intsD l = (l.map (Value.int .i64)).map D.s := by simp [intsD, iD]

/-- What stands behind a header. -/
def RowOK (M : Rws) (p : Nat × Nat × Nat) (l : List Int) : Prop := ∃ vs, (p.1, vs) ∈ M ∧ p.2.1 = l.length ∧ p.2.2 = vs.size ∧ l.length ≤ vs.size ∧ vs.size ≤ maxLen ∧ vs.toList.take l.length = l.map (Value.int .i64)
/-- .. behind all but the j-th. -/
def TabX (T : List (List Int)) (hd : List (Nat × Nat × Nat)) (M : Rws) (j : Int) : Prop := T.length = hd.length ∧ ∀ i : Nat, i < hd.length → (i : Int) ≠ j → RowOK M (hd.getD i (0, 0, 0)) (T.getD i [])

section
variable {P : Program} {n : Nat} {G G' : Ctx} {E : Env} {H H0 : List AObj} {ops : Array Oper} {rest l : List Oper} {o : Oper} {M : Rws} {T : List (List Int)} {hd : List (Nat × Nat × Nat)} {j : Int}

theorem MOps_abandonI {KM : Env → List AObj → Rws → Prop} (hG : G.H = []) (t k g : Nat) (zs : List Int) (he : E.get t = some (.vec k g)) (hH : H[k]? = some (.vec g (intsD zs)))
  (h : ∀ b vs, b ∉ M.map (·.1) → RowOK ((b, vs) :: M) (b, zs.length, vs.size) zs → MOps P n G ops l ((t, .d (hX (b, zs.length, vs.size))) :: E) (H.set k .gone) ((b, vs) :: M) KM) : MOps P n G ops l E H M KM := by
 refine MOps_abandon hG t k g (zs.map (Value.int .i64)) he (by rw [hH, intsD_s]) fun b vs h1 h2 h3 h4 => ?_
 rw [List.length_map] at h2 h4 ⊢
 exact h b vs h1 ⟨vs, by simp, rfl, rfl, h2, h3, h4⟩

def TabF (T : List (List Int)) (hd : List (Nat × Nat × Nat)) (M : Rws) : Prop := T.length = hd.length ∧ ∀ i : Nat, i < hd.length → RowOK M (hd.getD i (0, 0, 0)) (T.getD i [])

theorem RowOK.mono {M M' : Rws} {p : Nat × Nat × Nat} {l : List Int} (h : RowOK M p l) (hm : ∀ vs, (p.1, vs) ∈ M → (p.1, vs) ∈ M') : RowOK M' p l := by
 obtain ⟨vs, h1, h2⟩ := h
 exact ⟨vs, hm vs h1, h2⟩

theorem hd_ne {hd : List (Nat × Nat × Nat)} (hnd : (hd.map (·.1)).Nodup) {i j : Nat} (hi : i < hd.length) (hj : j < hd.length) (h : i ≠ j) : (hd.getD i (0, 0, 0)).1 ≠ (hd.getD j (0, 0, 0)).1 := by
 intro e
 have hi' : i < (hd.map (·.1)).length := by simpa using hi
 have hj' : j < (hd.map (·.1)).length := by simpa using hj
 have e1 : (hd.getD i (0, 0, 0)).1 = (hd.map (·.1))[i] := by simp [hi]
 have e2 : (hd.getD j (0, 0, 0)).1 = (hd.map (·.1))[j] := by simp [hj]
 rw [e1, e2] at e
 exact h ((List.getElem_inj hnd).1 e)

theorem tab_rest {M1 M2 : Rws} {vs : Array Value} {j : Nat} (hnd : (hd.map (·.1)).Nodup) (hj : j < hd.length) (hT : TabF T hd (M1 ++ ((hd.getD j (0, 0, 0)).1, vs) :: M2)) : TabX T hd (M1 ++ M2) (j : Int) := by
 refine ⟨hT.1, fun i hi hij => (hT.2 i hi).mono fun us hm => ?_⟩
 have hne := hd_ne hnd hi hj (by omega)
 rcases List.mem_append.1 hm with h | h
 ·exact List.mem_append.2 (.inl h)
 ·rcases List.mem_cons.1 h with h | h
  ·exact absurd (congrArg Prod.fst h) hne
  ·exact List.mem_append.2 (.inr h)

theorem tab_nodup {b : Nat} {q : Nat × Nat} (hnd : (hd.map (·.1)).Nodup) (hT : TabF T hd M) (hb : b ∉ M.map (·.1)) : ((hd ++ [(b, q)]).map (·.1)).Nodup := by
 rw [List.map_append, List.nodup_append]
 refine ⟨hnd, by simp, ?_⟩
 intro x hx c hc
 obtain ⟨p, hp, rfl⟩ := List.mem_map.1 hx
 obtain ⟨i, hi, rfl⟩ := List.getElem_of_mem hp
 obtain ⟨us, hus, _⟩ := hT.2 i hi
 have e : hd.getD i (0, 0, 0) = hd[i] := by simp [hi]
 rw [e] at hus
 simp at hc
 subst hc
 intro e'
 exact hb (List.mem_map.2 ⟨_, hus, e'⟩)

theorem tab_snoc {b : Nat} {vs : Array Value} {q : Nat × Nat} {l : List Int} (hT : TabF T hd M) (hr : RowOK ((b, vs) :: M) (b, q) l) : TabF (T ++ [l]) (hd ++ [(b, q)]) ((b, vs) :: M) := by
 refine ⟨by simp [hT.1], fun i hi => ?_⟩
 have hlen := hT.1
 by_cases e : i < hd.length
 ·have e1 : (hd ++ [(b, q)]).getD i (0, 0, 0) = hd.getD i (0, 0, 0) := by simp [List.getD, List.getElem?_append, e]
  have e2 : (T ++ [l]).getD i [] = T.getD i [] := by simp [List.getD, List.getElem?_append, show i < T.length by omega]
  rw [e1, e2]
  exact (hT.2 i e).mono fun us hm => List.mem_cons_of_mem _ hm
 ·have e0 : i = hd.length := by simp at hi; omega
  subst e0
  have e1 : (hd ++ [(b, q)]).getD hd.length (0, 0, 0) = (b, q) := by simp [List.getD]
  have e2 : (T ++ [l]).getD hd.length [] = l := by simp [List.getD, ← hlen]
  rw [e1, e2]
  exact hr
end
end Go.Proofs.YtldgmcghdohmeaaGreat

namespace Go.Proofs.YtldgmcghdohmeaaGreat.Ab
open Go Go.RowKit Go.Sort

theorem RepL.ints {w : World} {I : Nat → Prop} {zs : List Int} {vs : List Value} (h : RepL w I (intsD zs) vs) : vs = zs.map (Value.int .i64) := by
 have : intsD zs = (zs.map (Value.int .i64)).map D.s := by simp [intsD, iD]
 rw [this] at h
 exact h.of_map_s

theorem RepL.ofInts {w : World} {I : Nat → Prop} (zs : List Int) : RepL w I (intsD zs) (zs.map (Value.int .i64)) := by
 have : intsD zs = (zs.map (Value.int .i64)).map D.s := by simp [intsD, iD]
 rw [this]; exact RepL.map_s _

def sorted (zs : List Int) : List Int := zs.mergeSort fun x y => decide (x ≤ y)
theorem sorted_length (zs : List Int) : (sorted zs).length = zs.length := by simp [sorted]

end Go.Proofs.YtldgmcghdohmeaaGreat.Ab
