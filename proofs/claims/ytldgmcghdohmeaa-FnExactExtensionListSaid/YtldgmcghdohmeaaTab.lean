/- Own library: tables of whole numbers whose rows are a call's own. No conditions. -/
import Derived.Test.YtldgmcghdohmeaaAb20
import Derived.Test.YtldgmcghdohmeaaColEq
set_option linter.unusedVariables false
set_option linter.unusedSimpArgs false
namespace Go.Proofs.Ytldgmcghdohmeaa
open Go Go.RowKit Ab

/-- A row's header: its block, its length, its capacity. -/
def hX (p : Nat × Nat × Nat) : D := .s (.slice (some ⟨p.1, 0, none⟩) p.2.1 p.2.2)
theorem intsD_s (l : List Int) : intsD l = (l.map (Value.int .i64)).map D.s := by simp [intsD, iD]

/-- What stands behind a header. -/
def RowOK (M : Rws) (p : Nat × Nat × Nat) (l : List Int) : Prop := ∃ vs, (p.1, vs) ∈ M ∧ p.2.1 = l.length ∧ p.2.2 = vs.size ∧ l.length ≤ vs.size ∧ vs.size ≤ maxLen ∧ vs.toList.take l.length = l.map (Value.int .i64)
section
variable {P : Program} {n : Nat} {G G' : Ctx} {E : Env} {H H0 : List AObj} {ops : Array Oper} {rest l : List Oper} {o : Oper} {M : Rws} {T : List (List Int)} {hd : List (Nat × Nat × Nat)} {j : Int}

theorem MOps_abandonI {KM : Env → List AObj → Rws → Prop} (hG : G.H = []) (t k g : Nat) (zs : List Int) (he : E.get t = some (.vec k g)) (hH : H[k]? = some (.vec g (intsD zs)))
    (h : ∀ b vs, b ∉ M.map (·.1) → RowOK ((b, vs) :: M) (b, zs.length, vs.size) zs → MOps P n G ops l ((t, .d (hX (b, zs.length, vs.size))) :: E) (H.set k .gone) ((b, vs) :: M) KM) : MOps P n G ops l E H M KM := by
  refine MOps_abandon hG t k g (zs.map (Value.int .i64)) he (by rw [hH, intsD_s]) fun b vs h1 h2 h3 h4 => ?_
  rw [List.length_map] at h2 h4 ⊢
  exact h b vs h1 ⟨vs, by simp, rfl, rfl, h2, h3, h4⟩

def TabF (T : List (List Int)) (hd : List (Nat × Nat × Nat)) (M : Rws) : Prop := T.length = hd.length ∧ ∀ i : Nat, i < hd.length → RowOK M (hd.getD i (0, 0, 0)) (T.getD i [])

theorem RowOK.mono {M M' : Rws} {p : Nat × Nat × Nat} {l : List Int} (h : RowOK M p l) (hm : ∀ vs, (p.1, vs) ∈ M → (p.1, vs) ∈ M') : RowOK M' p l := by
  obtain ⟨vs, h1, h2⟩ := h
  exact ⟨vs, hm vs h1, h2⟩

theorem hd_ne {hd : List (Nat × Nat × Nat)} (hnd : (hd.map (·.1)).Nodup) {i j : Nat} (hi : i < hd.length) (hj : j < hd.length) (h : i ≠ j) : (hd.getD i (0, 0, 0)).1 ≠ (hd.getD j (0, 0, 0)).1 := by
  intro e
  have hi' : i < (hd.map (·.1)).length := by simpa using hi
  have hj' : j < (hd.map (·.1)).length := by simpa using hj
  have e1 : (hd.getD i (0, 0, 0)).1 = (hd.map (·.1))[i] := by simp [hi]
  have e2 : (hd.getD j (0, 0, 0)).1 = (hd.map (·.1))[j] := by simp [hj]
  rw [e1, e2] at e
  exact h ((List.getElem_inj hnd).1 e)

theorem tab_set {M1 M2 : Rws} {vs vs' : Array Value} {j : Nat} {zs : List Int} (hnd : (hd.map (·.1)).Nodup) (hj : j < hd.length) (hT : TabF T hd (M1 ++ ((hd.getD j (0, 0, 0)).1, vs) :: M2))
    (h1 : (hd.getD j (0, 0, 0)).2.1 = zs.length) (h2 : (hd.getD j (0, 0, 0)).2.2 = vs'.size) (h3 : zs.length ≤ vs'.size) (h4 : vs'.size ≤ maxLen) (h5 : vs'.toList.take zs.length = zs.map (Value.int .i64)) :
    TabF (T.set j zs) hd (M1 ++ ((hd.getD j (0, 0, 0)).1, vs') :: M2) := by
  refine ⟨by simp [hT.1], fun i hi => ?_⟩
  by_cases e : i = j
  · subst e
    have : (T.set i zs).getD i [] = zs := by have := hT.1; simp [List.getD, show i < T.length by omega]
    rw [this]
    exact ⟨vs', by simp, h1, h2, h3, h4, h5⟩
  · have : (T.set j zs).getD i [] = T.getD i [] := by simp [List.getD, List.getElem?_set, Ne.symm e]
    rw [this]
    refine (hT.2 i hi).mono fun us hm => ?_
    have hne := hd_ne hnd hi hj e
    rcases List.mem_append.1 hm with h | h
    · exact List.mem_append.2 (.inl h)
    · rcases List.mem_cons.1 h with h | h
      · exact absurd (congrArg Prod.fst h) hne
      · exact List.mem_append.2 (.inr (List.mem_cons_of_mem _ h))

end
end Go.Proofs.Ytldgmcghdohmeaa
