/- Plain laws of lists. (Collected out of the own text PureBase.) No conditions beyond those that each lemma states. -/
import Derived.Test.YtmmiokljmfkoiaaPKit
import Derived.Test.YtmmiokljmfkoiaaGen13
set_option linter.unusedVariables false
set_option linter.unusedSimpArgs false
namespace Go.Proofs.Ytmmiokljmfkoiaa
open Go Go.RowKit Ab

theorem in_eq (a b c : Int) : impl_in a b c = decide (b ≤ a ∧ a ≤ c) := by
  unfold impl_in letO
  by_cases h : b ≤ a <;> by_cases h' : a ≤ c <;> simp [h, h']

theorem specIn_eq (a b c : Int) : spec_l01In a b c = decide (b ≤ a ∧ a ≤ c) := by
  unfold spec_l01In letO
  by_cases h : b ≤ a <;> by_cases h' : a ≤ c <;> simp [h, h']

theorem toInt64S_eq (k : Nat) (l : List Int) (h : l.length + 1 ≤ k) (hl : (l.length : Int) ≤ 1099511627776) : laws_toInt64S k l = some l := by
  unfold laws_toInt64S
  rw [if_pos ⟨by omega, by omega, hl⟩]
  have := loopI (f := fun k i s => laws_toInt64S_l0 l k i s) (l.length : Int) 0 (fun i (s : List Int) => s.length = l.length ∧ ∀ j : Nat, (j : Int) < i → s.getD j 0 = l.getD j 0) (fun y => y = l) ?_ ?_ k 0 (List.replicate (l.length : Int).toNat 0) (by omega) (by omega) ⟨by simp, fun j hj => by omega⟩
  · obtain ⟨r, e, rfl⟩ := this
    rw [e]; rfl
  · intro k i s h0 h1 ⟨q1, q2⟩
    left
    refine ⟨s.set i.toNat (l.getD i.toNat 0), ?_, by simp [q1], ?_⟩
    · show laws_toInt64S_l0 l (k + 1) i s = _
      rw [laws_toInt64S_l0, w64_succ h0 h1 (by omega)]
      have : i < (s.length : Int) := by omega
      simp [h0, h1, this]
    · intro j hj
      by_cases e : i.toNat = j
      · subst e
        simp [List.getD, List.getElem?_set, show i.toNat < s.length by omega]
      · have := q2 j (by omega)
        simp only [List.getD] at this ⊢
        rw [List.getElem?_set_ne e, this]
  · intro k i s h0 h1 ⟨q1, q2⟩
    refine ⟨s, ?_, ?_⟩
    · show laws_toInt64S_l0 l (k + 1) i s = _
      rw [laws_toInt64S_l0]
      have : ¬ i < (l.length : Int) := by omega
      simp [this]
    · refine List.ext_getElem q1 fun j hj hj' => ?_
      have := q2 j (by omega)
      simpa [List.getD, hj, hj'] using this

theorem eqInts_refl (k : Nat) (x : List Int) (h : x.length + 1 ≤ k) (hx : (x.length : Int) ≤ 1099511627776) : laws_eqInt64S k x x = some true := by
  unfold laws_eqInt64S
  have := loopAll (f := fun k' i => laws_eqInt64S_l0 x x k' i) (x.length : Int) false (fun _ => True) 0
    (fun k' i h0 h1 _ => by
      show laws_eqInt64S_l0 x x (k' + 1) i = _
      rw [laws_eqInt64S_l0, w64_succ h0 h1 (by omega)]
      simp [h0, h1])
    (fun k' i h0 h1 hq => (hq trivial).elim)
    (fun k' i h1 => by
      show laws_eqInt64S_l0 x x (k' + 1) i = _
      rw [laws_eqInt64S_l0]
      have : ¬ i < (x.length : Int) := by omega
      simp [this]) k 0 (by omega) (by omega)
  rw [this]; simp

theorem indexF_eq (l : List Int) (f : Int → Option Bool) (g : Int → Bool) (hf : ∀ z ∈ l, f z = some (g z)) (hl : (l.length : Int) ≤ 1099511627776) : ∀ (d k : Nat) (i : Nat), i + d = l.length → d < k →
    ∃ r : Sum Unit Int, slices_IndexFunc_l0 l f k i = some r ∧ ((∃ z : Int, r = .inr z ∧ 0 ≤ z ∧ (l.drop i).any g = true) ∨ (r = .inl () ∧ (l.drop i).any g = false)) := by
  intro d
  induction d with
  | zero =>
    intro k i h hk
    obtain ⟨k, rfl⟩ : ∃ k', k = k' + 1 := ⟨k - 1, by omega⟩
    have : ¬ (i : Int) < (l.length : Int) := by omega
    exact ⟨.inl (), by rw [slices_IndexFunc_l0]; simp [this], .inr ⟨rfl, by rw [List.drop_of_length_le (by omega)]; rfl⟩⟩
  | succ d ih =>
    intro k i h hk
    obtain ⟨k, rfl⟩ : ∃ k', k = k' + 1 := ⟨k - 1, by omega⟩
    have hi : i < l.length := by omega
    have h1 : (i : Int) < (l.length : Int) := by omega
    have hd := List.drop_eq_getElem_cons hi
    have hg : l.getD i 0 = l[i] := by simp [List.getD, hi]
    have hmem : l[i] ∈ l := List.getElem_mem hi
    rw [slices_IndexFunc_l0, if_pos (decide_eq_true h1), if_pos ⟨by omega, h1⟩, Int.toNat_natCast, hg, hf _ hmem, w64_succ (by omega) h1 (by omega)]
    simp only [Option.bind_some]
    rw [hd]
    cases hz : g l[i] with
    | true =>
      refine ⟨.inr i, by simp, .inl ⟨i, rfl, by omega, by rw [List.any_cons, hz]; rfl⟩⟩
    | false =>
      obtain ⟨r, e, hr⟩ := ih k (i + 1) (by omega) (by omega)
      rw [show ((i : Int) + 1) = ((i + 1 : Nat) : Int) by omega, e]
      refine ⟨r, by simp, ?_⟩
      rw [List.any_cons, hz, Bool.false_or]
      exact hr

theorem containsF_eq (k : Nat) (l : List Int) (f : Int → Option Bool) (g : Int → Bool) (hf : ∀ z ∈ l, f z = some (g z)) (hk : l.length + 1 ≤ k) (hl : (l.length : Int) ≤ 1099511627776) : slices_ContainsFunc k l f = some (l.any g) := by
  unfold slices_ContainsFunc slices_IndexFunc
  obtain ⟨r, e, hr⟩ := indexF_eq l f g hf hl l.length k 0 (by omega) (by omega)
  rw [show ((0 : Nat) : Int) = 0 from rfl] at e
  rw [e]
  simp only [Option.bind_some, List.drop_zero] at hr ⊢
  rcases hr with ⟨z, rfl, h0, h1⟩ | ⟨rfl, h1⟩
  · simp [h0, h1]
  · simp [h1]

theorem mem_getD {l : List Int} {x : Int} : x ∈ l ↔ ∃ a, a < l.length ∧ l.getD a 0 = x := by
  constructor
  · intro h
    obtain ⟨a, ha, e⟩ := List.getElem_of_mem h
    exact ⟨a, ha, by simp [List.getD, ha, e]⟩
  · rintro ⟨a, ha, rfl⟩
    simp [List.getD, ha]

end Go.Proofs.Ytmmiokljmfkoiaa
