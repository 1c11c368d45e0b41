/- The plain law of FnExactCupsAndCaps: the program's answer is the reference's. No conditions beyond those that each lemma states. -/
import Derived.Test.YtfnbhfobgimnjaaPureLP28
set_option linter.unusedVariables false
set_option linter.unusedSimpArgs false
namespace Go.Proofs.Ytfnbhfobgimnjaa
open Go Go.RowKit Ab

/-! ### Rows of points -/
def pOK (l : List (List Int)) (i : Nat) : Prop := (l.getD i []).length = 2 ∧ (-1000 ≤ (l.getD i []).getD 0 0 ∧ (l.getD i []).getD 0 0 ≤ 1000) ∧ (-1000 ≤ (l.getD i []).getD 1 0 ∧ (l.getD i []).getD 1 0 ≤ 1000) ∧
  (0 < i → (l.getD (i - 1) []).getD 0 0 < (l.getD i []).getD 0 0)
def rOK (l : List (List Int)) : Prop := (1 ≤ l.length ∧ l.length ≤ 17) ∧ ∀ i, i < l.length → pOK l i

open Classical in
theorem areIn_eq (k : Nat) (q : List Int) (hk : q.length + 1 ≤ k) (hq : (q.length : Int) ≤ 1099511627776) : impl_areIn k q 2 (-1000) 1000 = some (decide (q.length = 2 ∧ (-1000 ≤ q.getD 0 0 ∧ q.getD 0 0 ≤ 1000) ∧ (-1000 ≤ q.getD 1 0 ∧ q.getD 1 0 ≤ 1000))) := by
  unfold impl_areIn impl_size
  by_cases h : q.length = 2
  · have h2 : (q.length : Int) = 2 := by omega
    rw [decide_eq_true h2, containsF_eq k q _ (fun z => !decide (-1000 ≤ z ∧ z ≤ 1000)) (fun z _ => by unfold impl_areIn_c1; rw [in_eq]) hk hq]
    obtain ⟨a, b, rfl⟩ : ∃ a b, q = [a, b] := by
      cases q with
      | nil => cases h
      | cons a q => cases q with
        | nil => cases h
        | cons b q => cases q with
          | nil => exact ⟨a, b, rfl⟩
          | cons c q => simp at h
    · have e : ([a, b] : List Int).any (fun z => !decide (-1000 ≤ z ∧ z ≤ 1000)) = (!decide (-1000 ≤ a ∧ a ≤ 1000) || (!decide (-1000 ≤ b ∧ b ≤ 1000) || false)) := rfl
      rw [e]
      by_cases ha : -1000 ≤ a ∧ a ≤ 1000
      · by_cases hb : -1000 ≤ b ∧ b ≤ 1000
        · rw [decide_eq_true ha, decide_eq_true hb, decide_eq_true (show ([a, b] : List Int).length = 2 ∧ (-1000 ≤ ([a, b] : List Int).getD 0 0 ∧ ([a, b] : List Int).getD 0 0 ≤ 1000) ∧ (-1000 ≤ ([a, b] : List Int).getD 1 0 ∧ ([a, b] : List Int).getD 1 0 ≤ 1000) from ⟨rfl, ha, hb⟩)]
          rfl
        · rw [decide_eq_true ha, decide_eq_false hb, decide_eq_false (show ¬ (([a, b] : List Int).length = 2 ∧ (-1000 ≤ ([a, b] : List Int).getD 0 0 ∧ ([a, b] : List Int).getD 0 0 ≤ 1000) ∧ (-1000 ≤ ([a, b] : List Int).getD 1 0 ∧ ([a, b] : List Int).getD 1 0 ≤ 1000)) from fun c => hb c.2.2)]
          rfl
      · rw [decide_eq_false ha, decide_eq_false (show ¬ (([a, b] : List Int).length = 2 ∧ (-1000 ≤ ([a, b] : List Int).getD 0 0 ∧ ([a, b] : List Int).getD 0 0 ≤ 1000) ∧ (-1000 ≤ ([a, b] : List Int).getD 1 0 ∧ ([a, b] : List Int).getD 1 0 ≤ 1000)) from fun c => ha c.2.1)]
        rfl
  · have h2 : ¬ (q.length : Int) = 2 := by omega
    rw [decide_eq_false h2, decide_eq_false (fun c => h c.1)]
    rfl

open Classical in
theorem implRow_eq (l : List (List Int)) (k : Nat) (hk : l.length + 2 ≤ k) (hl : (l.length : Int) ≤ 1048576) (hq : ∀ q ∈ l, q.length + 2 ≤ k ∧ (q.length : Int) ≤ 1048576) : impl_isRow k l = some (decide (rOK l)) := by
  unfold impl_isRow
  have hrow : ∀ i, i < l.length → (l.getD i []) ∈ l := fun i hi => by
    have : l.getD i [] = l[i] := by simp [hi]
    rw [this]; exact List.getElem_mem hi
  have := loopI (f := fun k' i (_ : Unit) => impl_isRow_l0 k l k' i) (l.length : Int) 0 (fun i _ => i ≤ l.length ∧ ∀ m : Nat, (m : Int) < i → pOK l m) (fun r => (r = .inl () ∧ ∀ m, m < l.length → pOK l m) ∨ (r = .inr false ∧ ¬ ∀ m, m < l.length → pOK l m)) ?_ ?_ k 0 () (by omega) (by omega) ⟨by omega, fun m hm => by omega⟩
  · obtain ⟨r, e, hr⟩ := this
    have e' : impl_isRow_l0 k l k 0 = some r := e
    rw [e']
    rcases hr with ⟨rfl, h⟩ | ⟨rfl, h⟩
    · simp only [Option.bind_some]
      unfold impl_size_R
      rw [in_eq]
      congr 1
      refine decide_eq_decide.2 ⟨fun c => ⟨by omega, h⟩, fun c => ?_⟩
      have := c.1; omega
    · simp only [Option.bind_some]
      rw [decide_eq_false (fun c : rOK l => h c.2)]
  · rintro k' i _ h0 h1 ⟨_, hI⟩
    obtain ⟨m, rfl⟩ := nat_of h0
    have hm : m < l.length := by omega
    obtain ⟨q1, q2⟩ := hq _ (hrow m hm)
    have hsplit : impl_isRow_l0 k l (k' + 1) (m : Int) = if pOK l m then impl_isRow_l0 k l k' ((m : Int) + 1) else some (.inr false) := by
      rw [impl_isRow_l0, if_pos (decide_eq_true h1), if_pos ⟨h0, h1⟩, Int.toNat_natCast, areIn_eq k _ (by omega) (by omega), w64_succ h0 h1 (by omega)]
      by_cases ha : (l.getD m []).length = 2 ∧ (-1000 ≤ (l.getD m []).getD 0 0 ∧ (l.getD m []).getD 0 0 ≤ 1000) ∧ (-1000 ≤ (l.getD m []).getD 1 0 ∧ (l.getD m []).getD 1 0 ≤ 1000)
      · rw [decide_eq_true ha]
        by_cases hm0 : m = 0
        · subst hm0
          have hp : pOK l 0 := ⟨ha.1, ha.2.1, ha.2.2, fun h => by omega⟩
          rw [if_pos hp]
          simp
        · have hp1 := hI (m - 1) (by omega)
          have e1 : w64 ((m : Int) - 1) = ((m - 1 : Nat) : Int) := by rw [w64_id (by omega)]; omega
          have hl1 := hp1.1
          have hl2 := ha.1
          have hlt : (0 : Int) < (m : Int) := by omega
          rw [e1, Int.toNat_natCast, decide_eq_true hlt]
          have hz : (0 : Int).toNat = 0 := rfl
          have g1 : (0 : Int) ≤ ((m - 1 : Nat) : Int) ∧ ((m - 1 : Nat) : Int) < (l.length : Int) := by omega
          have g2 : (0 : Int) ≤ 0 ∧ (0 : Int) < ((l.getD (m - 1) []).length : Int) := by omega
          have g3 : (0 : Int) ≤ 0 ∧ (0 : Int) < ((l.getD m []).length : Int) := by omega
          simp only [Option.bind_some, if_pos g1, if_pos g2, if_pos g3, hz, Bool.not_true, Bool.false_eq_true, if_false, if_true]
          by_cases hc : (l.getD (m - 1) []).getD 0 0 < (l.getD m []).getD 0 0
          · have hp : pOK l m := ⟨ha.1, ha.2.1, ha.2.2, fun _ => hc⟩
            rw [if_pos hp, decide_eq_false (show ¬ (l.getD m []).getD 0 0 ≤ (l.getD (m - 1) []).getD 0 0 by omega)]
            rfl
          · have hp : ¬ pOK l m := fun h => hc (h.2.2.2 (by omega))
            rw [if_neg hp, decide_eq_true (show (l.getD m []).getD 0 0 ≤ (l.getD (m - 1) []).getD 0 0 by omega)]
            rfl
      · have hp : ¬ pOK l m := fun h => ha ⟨h.1, h.2.1, h.2.2.1⟩
        rw [if_neg hp, decide_eq_false ha]
        rfl
    by_cases hp : pOK l m
    · left
      refine ⟨(), by show impl_isRow_l0 k l (k' + 1) (m : Int) = _; rw [hsplit, if_pos hp], by omega, fun a ha => ?_⟩
      by_cases e : a = m
      · subst e; exact hp
      · exact hI a (by omega)
    · right
      exact ⟨.inr false, by show impl_isRow_l0 k l (k' + 1) (m : Int) = _; rw [hsplit, if_neg hp], .inr ⟨rfl, fun h => hp (h m hm)⟩⟩
  · rintro k' i _ h0 h1 ⟨q0, hI⟩
    refine ⟨.inl (), ?_, .inl ⟨rfl, fun m hm => hI m (by omega)⟩⟩
    show impl_isRow_l0 k l (k' + 1) i = _
    have : ¬ i < (l.length : Int) := by omega
    rw [impl_isRow_l0]; simp [this]

open Classical in
theorem specRow_eq (l : List (List Int)) (k : Nat) (hk : l.length + 2 ≤ k) (hl : (l.length : Int) ≤ 1048576) : spec_l10Row k l = some (decide (rOK l)) := by
  unfold spec_l10Row letO
  by_cases hn : 1 ≤ l.length ∧ l.length ≤ 17
  · have n1 : ¬ (l.length : Int) < 1 := by omega
    have n2 : ¬ 17 < (l.length : Int) := by omega
    have := loopI (f := fun k' i (_ : Unit) => spec_l10Row_l0 l k' i) (l.length : Int) 0 (fun i _ => i ≤ l.length ∧ ∀ m : Nat, (m : Int) < i → pOK l m) (fun r => (r = .inl () ∧ ∀ m, m < l.length → pOK l m) ∨ (r = .inr false ∧ ¬ ∀ m, m < l.length → pOK l m)) ?_ ?_ k 0 () (by omega) (by omega) ⟨by omega, fun m hm => by omega⟩
    · obtain ⟨r, e, hr⟩ := this
      have e' : spec_l10Row_l0 l k 0 = some r := e
      rw [decide_eq_false n1, decide_eq_false n2]
      simp only [Bool.false_eq_true, if_false, Option.bind_some]
      rw [e']
      rcases hr with ⟨rfl, h⟩ | ⟨rfl, h⟩
      · simp only [Option.bind_some]
        rw [decide_eq_true (show rOK l from ⟨hn, h⟩)]
      · simp only [Option.bind_some]
        rw [decide_eq_false (fun c : rOK l => h c.2)]
    · rintro k' i _ h0 h1 ⟨_, hI⟩
      obtain ⟨m, rfl⟩ := nat_of h0
      have hm : m < l.length := by omega
      have hz : (0 : Int).toNat = 0 := rfl
      have ho : (1 : Int).toNat = 1 := rfl
      have hsplit : spec_l10Row_l0 l (k' + 1) (m : Int) = if pOK l m then spec_l10Row_l0 l k' ((m : Int) + 1) else some (.inr false) := by
        rw [spec_l10Row_l0, if_pos (decide_eq_true h1)]
        have g0 : (0 : Int) ≤ (m : Int) ∧ (m : Int) < (l.length : Int) := ⟨h0, h1⟩
        simp only [if_pos g0, Int.toNat_natCast, specIn_eq, hz, ho, w64_succ h0 h1 (show (l.length : Int) ≤ 9223372036854775807 by omega)]
        by_cases hl2 : (l.getD m []).length = 2
        · have hl2' : ((l.getD m []).length : Int) = 2 := by omega
          have ga : (0 : Int) ≤ 0 ∧ (0 : Int) < ((l.getD m []).length : Int) := by omega
          have gb : (0 : Int) ≤ 1 ∧ (1 : Int) < ((l.getD m []).length : Int) := by omega
          simp only [decide_eq_true hl2', Bool.not_true, Bool.false_eq_true, if_false, if_pos ga, if_pos gb]
          by_cases hx : -1000 ≤ (l.getD m []).getD 0 0 ∧ (l.getD m []).getD 0 0 ≤ 1000
          · simp only [decide_eq_true hx, Bool.not_true, Bool.false_eq_true, if_false]
            by_cases hy : -1000 ≤ (l.getD m []).getD 1 0 ∧ (l.getD m []).getD 1 0 ≤ 1000
            · simp only [decide_eq_true hy, Bool.not_true, Bool.false_eq_true, if_false]
              by_cases hm0 : m = 0
              · subst hm0
                have hp : pOK l 0 := ⟨hl2, hx, hy, fun h => by omega⟩
                rw [if_pos hp]
                simp
              · have hp1 := hI (m - 1) (by omega)
                have e1 : w64 ((m : Int) - 1) = ((m - 1 : Nat) : Int) := by rw [w64_id (by omega)]; omega
                have hl1 := hp1.1
                have hlt : (0 : Int) < (m : Int) := by omega
                have g1 : (0 : Int) ≤ ((m - 1 : Nat) : Int) ∧ ((m - 1 : Nat) : Int) < (l.length : Int) := by omega
                have g2 : (0 : Int) ≤ 0 ∧ (0 : Int) < ((l.getD (m - 1) []).length : Int) := by omega
                simp only [e1, Int.toNat_natCast, decide_eq_true hlt, if_true, if_pos g1, if_pos g2, Option.bind_some]
                by_cases hc : (l.getD (m - 1) []).getD 0 0 < (l.getD m []).getD 0 0
                · have hp : pOK l m := ⟨hl2, hx, hy, fun _ => hc⟩
                  rw [if_pos hp, decide_eq_false (show ¬ (l.getD m []).getD 0 0 ≤ (l.getD (m - 1) []).getD 0 0 by omega)]
                  rfl
                · have hp : ¬ pOK l m := fun h => hc (h.2.2.2 (by omega))
                  rw [if_neg hp, decide_eq_true (show (l.getD m []).getD 0 0 ≤ (l.getD (m - 1) []).getD 0 0 by omega)]
                  rfl
            · have hp : ¬ pOK l m := fun h => hy h.2.2.1
              rw [if_neg hp]
              simp only [decide_eq_false hy]
              rfl
          · have hp : ¬ pOK l m := fun h => hx h.2.1
            rw [if_neg hp]
            simp only [decide_eq_false hx]
            rfl
        · have hl2' : ¬ ((l.getD m []).length : Int) = 2 := by omega
          have hp : ¬ pOK l m := fun h => hl2 h.1
          rw [if_neg hp]
          simp only [decide_eq_false hl2']
          rfl
      by_cases hp : pOK l m
      · left
        refine ⟨(), by show spec_l10Row_l0 l (k' + 1) (m : Int) = _; rw [hsplit, if_pos hp], by omega, fun a ha => ?_⟩
        by_cases e : a = m
        · subst e; exact hp
        · exact hI a (by omega)
      · right
        exact ⟨.inr false, by show spec_l10Row_l0 l (k' + 1) (m : Int) = _; rw [hsplit, if_neg hp], .inr ⟨rfl, fun h => hp (h m hm)⟩⟩
    · rintro k' i _ h0 h1 ⟨q0, hI⟩
      refine ⟨.inl (), ?_, .inl ⟨rfl, fun m hm => hI m (by omega)⟩⟩
      show spec_l10Row_l0 l (k' + 1) i = _
      have : ¬ i < (l.length : Int) := by omega
      rw [spec_l10Row_l0]; simp [this]
  · rw [decide_eq_false (fun c : rOK l => hn c.1)]
    by_cases n1 : (l.length : Int) < 1
    · simp [n1]
    · have n2 : 17 < (l.length : Int) := by omega
      simp [n2]

/-! ### Bends -/
def bd (a b c : List Int) : Int := (c.getD 1 0 - b.getD 1 0) * (b.getD 0 0 - a.getD 0 0) - (b.getD 1 0 - a.getD 1 0) * (c.getD 0 0 - b.getD 0 0)

theorem mul_le (x y : Int) (hx : -2000 ≤ x ∧ x ≤ 2000) (hy : -2000 ≤ y ∧ y ≤ 2000) : -4000000 ≤ x * y ∧ x * y ≤ 4000000 := by
  have h1 : x.natAbs ≤ 2000 := by omega
  have h2 : y.natAbs ≤ 2000 := by omega
  have h3 : x.natAbs * y.natAbs ≤ 2000 * 2000 := Nat.mul_le_mul h1 h2
  rw [← Int.natAbs_mul] at h3
  omega

def okP (q : List Int) : Prop := q.length = 2 ∧ (-1000 ≤ q.getD 0 0 ∧ q.getD 0 0 ≤ 1000) ∧ (-1000 ≤ q.getD 1 0 ∧ q.getD 1 0 ≤ 1000)
theorem bends_eq (a b c : List Int) (ha : okP a) (hb : okP b) (hc : okP c) : spec_l10Bend a b c = some (bd a b c) ∧ impl_bends a b c = some (bd a b c) ∧ -8000000 ≤ bd a b c ∧ bd a b c ≤ 8000000 := by
  obtain ⟨a1, a2, a3⟩ := ha
  obtain ⟨b1, b2, b3⟩ := hb
  obtain ⟨c1, c2, c3⟩ := hc
  have m1 := mul_le (c.getD 1 0 - b.getD 1 0) (b.getD 0 0 - a.getD 0 0) (by omega) (by omega)
  have m2 := mul_le (b.getD 1 0 - a.getD 1 0) (c.getD 0 0 - b.getD 0 0) (by omega) (by omega)
  have hz : (0 : Int).toNat = 0 := rfl
  have ho : (1 : Int).toNat = 1 := rfl
  have key : w64 ((w64 ((w64 ((c.getD 1 0) - (b.getD 1 0))) * (w64 ((b.getD 0 0) - (a.getD 0 0))))) - (w64 ((w64 ((b.getD 1 0) - (a.getD 1 0))) * (w64 ((c.getD 0 0) - (b.getD 0 0)))))) = bd a b c := by
    rw [w64_id (n := c.getD 1 0 - b.getD 1 0) (by omega), w64_id (n := b.getD 0 0 - a.getD 0 0) (by omega), w64_id (n := b.getD 1 0 - a.getD 1 0) (by omega), w64_id (n := c.getD 0 0 - b.getD 0 0) (by omega), w64_id (n := (c.getD 1 0 - b.getD 1 0) * (b.getD 0 0 - a.getD 0 0)) (by omega), w64_id (n := (b.getD 1 0 - a.getD 1 0) * (c.getD 0 0 - b.getD 0 0)) (by omega), w64_id (by omega)]
    rfl
  refine ⟨?_, ?_, by unfold bd; omega, by unfold bd; omega⟩
  · unfold spec_l10Bend
    rw [hz, ho, a1, b1, c1, if_pos (by omega), if_pos (by omega), if_pos (by omega), if_pos (by omega), if_pos (by omega), if_pos (by omega), if_pos (by omega), if_pos (by omega), key]
  · unfold impl_bends
    rw [hz, ho, a1, b1, c1, if_pos (by omega), if_pos (by omega), if_pos (by omega), if_pos (by omega), if_pos (by omega), if_pos (by omega), if_pos (by omega), if_pos (by omega), key]

/-! ### Chains -/
def cnd (l : List (List Int)) (s : Int) (h i j : Nat) : Prop := 0 < s * bd (l.getD h []) (l.getD i []) (l.getD j [])
instance (l : List (List Int)) (s : Int) (h i j : Nat) : Decidable (cnd l s h i j) := by unfold cnd; infer_instance

/-- The most points of a chain that ends with the points i and j (f: more than i). -/
def Vf (l : List (List Int)) (s : Int) : Nat → Nat → Nat → Int
  | 0, _, _ => 2
  | f + 1, i, j => (List.range i).foldl (fun m h => if cnd l s h i j then max m (Vf l s f h i + 1) else m) 2
def Va (l : List (List Int)) (s : Int) (i j : Nat) : Int := Vf l s i i j

theorem foldl_congr {α β : Type} (f g : β → α → β) (l : List α) (b : β) (h : ∀ a ∈ l, ∀ c, f c a = g c a) : l.foldl f b = l.foldl g b := by
  induction l generalizing b with
  | nil => rfl
  | cons a l ih => rw [List.foldl_cons, List.foldl_cons, h a (by simp)]; exact ih _ (fun x hx c => h x (by simp [hx]) c)

theorem Vf_eq (l : List (List Int)) (s : Int) : ∀ (i f j : Nat), i ≤ f → Vf l s f i j = Va l s i j := by
  intro i
  induction i using Nat.strongRecOn with
  | _ i ih =>
    intro f j hf
    unfold Va
    cases i with
    | zero =>
      cases f with
      | zero => rfl
      | succ f => rfl
    | succ i =>
      obtain ⟨f, rfl⟩ : ∃ f', f = f' + 1 := ⟨f - 1, by omega⟩
      rw [Vf, Vf]
      refine foldl_congr _ _ _ _ fun h hh c => ?_
      have hlt : h < i + 1 := by simpa using hh
      rw [ih h hlt f (i + 1) (by omega), ih h hlt i (i + 1) (by omega)]

def Vp (l : List (List Int)) (s : Int) (i j a : Nat) : Int := (List.range a).foldl (fun m h => if cnd l s h i j then max m (Va l s h i + 1) else m) 2
theorem Va_eq (l : List (List Int)) (s : Int) (i j : Nat) : Va l s i j = Vp l s i j i := by
  unfold Va Vp
  cases i with
  | zero => rfl
  | succ i =>
    rw [Vf]
    refine foldl_congr _ _ _ _ fun h hh c => ?_
    have hlt : h < i + 1 := by simpa using hh
    rw [Vf_eq l s h i (i + 1) (by omega)]
theorem Vp_succ (l : List (List Int)) (s : Int) (i j a : Nat) : Vp l s i j (a + 1) = if cnd l s a i j then max (Vp l s i j a) (Va l s a i + 1) else Vp l s i j a := by
  unfold Vp
  rw [List.range_succ, List.foldl_append]; rfl
theorem Vp_zero (l : List (List Int)) (s : Int) (i j : Nat) : Vp l s i j 0 = 2 := rfl

theorem V_bound (l : List (List Int)) (s : Int) : ∀ i j : Nat, 2 ≤ Va l s i j ∧ Va l s i j ≤ i + 2 := by
  intro i
  induction i using Nat.strongRecOn with
  | _ i ih =>
    intro j
    rw [Va_eq]
    have : ∀ a, a ≤ i → 2 ≤ Vp l s i j a ∧ Vp l s i j a ≤ i + 2 := by
      intro a
      induction a with
      | zero => intro _; rw [Vp_zero]; omega
      | succ a iha =>
        intro ha
        have h1 := iha (by omega)
        have h2 := ih a (by omega) i
        rw [Vp_succ]
        split
        · have := Int.max_le.2 ⟨h1.2, show Va l s a i + 1 ≤ (i : Int) + 2 by omega⟩
          have := Int.le_max_left (Vp l s i j a) (Va l s a i + 1)
          omega
        · exact h1
    exact this i (Nat.le_refl _)

/-- The greatest number, from a start on, of the chains before the point j, and of those that end with j and a point before i. -/
def BestC (l : List (List Int)) (s st : Int) (j i : Nat) (b : Int) : Prop :=
  st ≤ b ∧ (∀ j' i', i' < j' → (j' < j ∨ j' = j ∧ i' < i) → Va l s i' j' ≤ b) ∧ (b = st ∨ ∃ j' i', i' < j' ∧ (j' < j ∨ j' = j ∧ i' < i) ∧ b = Va l s i' j')
theorem BestC_step {l : List (List Int)} {s st : Int} {j i : Nat} {b : Int} (h : BestC l s st j i b) (hi : i < j) : BestC l s st j (i + 1) (if b < Va l s i j then Va l s i j else b) := by
  obtain ⟨h1, h2, h3⟩ := h
  split
  · rename_i hlt
    refine ⟨by omega, fun j' i' a c => ?_, .inr ⟨j, i, hi, .inr ⟨rfl, by omega⟩, rfl⟩⟩
    rcases c with c | ⟨rfl, c⟩
    · have := h2 j' i' a (.inl c); omega
    · by_cases e : i' = i
      · subst e; omega
      · have := h2 j' i' a (.inr ⟨rfl, by omega⟩); omega
  · rename_i hge
    refine ⟨h1, fun j' i' a c => ?_, ?_⟩
    · rcases c with c | ⟨rfl, c⟩
      · exact h2 j' i' a (.inl c)
      · by_cases e : i' = i
        · subst e; omega
        · exact h2 j' i' a (.inr ⟨rfl, by omega⟩)
    · rcases h3 with h3 | ⟨j', i', a, c, e⟩
      · exact .inl h3
      · exact .inr ⟨j', i', a, c.imp id (fun c => ⟨c.1, by omega⟩), e⟩
theorem BestC_next {l : List (List Int)} {s st : Int} {j : Nat} {b : Int} (h : BestC l s st j j b) : BestC l s st (j + 1) 0 b := by
  obtain ⟨h1, h2, h3⟩ := h
  refine ⟨h1, fun j' i' a c => ?_, ?_⟩
  · rcases c with c | ⟨_, c⟩
    · by_cases e : j' = j
      · subst e; exact h2 j' i' a (.inr ⟨rfl, a⟩)
      · exact h2 j' i' a (.inl (by omega))
    · omega
  · rcases h3 with h3 | ⟨j', i', a, c, e⟩
    · exact .inl h3
    · exact .inr ⟨j', i', a, .inl (by omega), e⟩
theorem BestC_same {l : List (List Int)} {s a b : Int} {n : Nat} (hn : 1 ≤ n) (ha : BestC l s 1 n 0 a) (hb : BestC l s (if n = 1 then 1 else 2) n 0 b) : a = b := by
  obtain ⟨a1, a2, a3⟩ := ha
  obtain ⟨b1, b2, b3⟩ := hb
  by_cases e : n = 1
  · subst e
    rw [if_pos rfl] at b1 b3
    have na : a = 1 := by
      rcases a3 with a3 | ⟨j', i', h1, h2, _⟩
      · exact a3
      · omega
    have nb : b = 1 := by
      rcases b3 with b3 | ⟨j', i', h1, h2, _⟩
      · exact b3
      · omega
    omega
  · rw [if_neg e] at b1 b3
    have h01 := a2 1 0 (by omega) (.inl (by omega))
    have g01 := V_bound l s 0 1
    have le1 : a ≤ b := by
      rcases a3 with a3 | ⟨j', i', h1, h2, e'⟩
      · omega
      · rw [e']; exact b2 j' i' h1 h2
    have le2 : b ≤ a := by
      rcases b3 with b3 | ⟨j', i', h1, h2, e'⟩
      · omega
      · rw [e']; exact a2 j' i' h1 h2
    omega

/-! ### The two tables -/
theorem okP_of (l : List (List Int)) (hl : rOK l) (i : Nat) (h : i < l.length) : okP (l.getD i []) := ⟨(hl.2 i h).1, (hl.2 i h).2.1, (hl.2 i h).2.2.1⟩

theorem M17.get_set (x : M17) (a b : Nat) (v : Int) (ha : a < 289) : (x.set a v).get b = if b = a then v else x.get b := by
  unfold M17.get M17.set
  simp only [List.getD, List.getElem?_set]
  by_cases e : a = b
  · subst e; simp [x.h, ha]
  · simp [e, Ne.symm e]

section
variable (l : List (List Int)) (s : Int) (hl : rOK l) (hs : s = 1 ∨ s = -1)
include hl hs

theorem w_bend (h i j : Nat) (hh : h < l.length) (hi : i < l.length) (hj : j < l.length) : w64 (s * bd (l.getD h []) (l.getD i []) (l.getD j [])) = s * bd (l.getD h []) (l.getD i []) (l.getD j []) := by
  obtain ⟨_, _, b1, b2⟩ := bends_eq _ _ _ (okP_of l hl h hh) (okP_of l hl i hi) (okP_of l hl j hj)
  apply w64_id
  rcases hs with rfl | rfl <;> omega

theorem spec_l1 (T : List (List Int)) (j i : Nat) (hij : i < j) (hj : j < l.length) (hT : T.length = l.length) (hTi : (T.getD i []).length = l.length) (hV : ∀ h, h < i → (T.getD i []).getD h 0 = Va l s h i) (own : List Int) (ho : own.length = l.length) (k : Nat) (hk : 40 ≤ k) :
    spec_l10Chain_in_l1 l s T (j : Int) (i : Int) k 0 (own.set i 2) = some (own.set i (Va l s i j)) := by
  have hn := hl.1
  have := loopI (f := fun k' h (o : List Int) => spec_l10Chain_in_l1 l s T (j : Int) (i : Int) k' h o) (i : Int) 0 (fun h o => h ≤ i ∧ o = own.set i (Vp l s i j h.toNat)) (fun r => r = own.set i (Va l s i j)) ?_ ?_ k 0 (own.set i 2) (by omega) (by omega) ⟨by omega, rfl⟩
  · obtain ⟨r, e, rfl⟩ := this
    exact e
  · rintro k' h o h0 h1 ⟨_, rfl⟩
    left
    obtain ⟨a, rfl⟩ := nat_of h0
    have ha : a < i := by omega
    rw [Int.toNat_natCast]
    refine ⟨own.set i (Vp l s i j (a + 1)), ?_, by omega, by rw [show ((a : Int) + 1).toNat = a + 1 by omega]⟩
    show spec_l10Chain_in_l1 l s T (j : Int) (i : Int) (k' + 1) (a : Int) (own.set i (Vp l s i j a)) = _
    obtain ⟨b1, b2, b3, b4⟩ := bends_eq _ _ _ (okP_of l hl a (by omega)) (okP_of l hl i (by omega)) (okP_of l hl j hj)
    have g1 : (0 : Int) ≤ (a : Int) ∧ (a : Int) < (l.length : Int) := by omega
    have g2 : (0 : Int) ≤ (i : Int) ∧ (i : Int) < (l.length : Int) := by omega
    have g3 : (0 : Int) ≤ (j : Int) ∧ (j : Int) < (l.length : Int) := by omega
    rw [spec_l10Chain_in_l1, if_pos (decide_eq_true h1), if_pos g1, if_pos g2, if_pos g3, Int.toNat_natCast, Int.toNat_natCast, Int.toNat_natCast, b1, Option.bind_some, w_bend l s hl hs a i j (by omega) (by omega) hj, w64_succ h0 h1 (by omega)]
    have lo : ((own.set i (Vp l s i j a)).length : Int) = (l.length : Int) := by simp [ho]
    rw [lo, hT]
    by_cases hc : cnd l s a i j
    · have hc' : 0 < s * bd (l.getD a []) (l.getD i []) (l.getD j []) := hc
      have g4 : (i : Int) ≠ (j : Int) ∧ (0 : Int) ≤ (a : Int) ∧ (a : Int) < ((T.getD i []).length : Int) := by rw [hTi]; omega
      have vb := V_bound l s a i
      have e1 : (own.set i (Vp l s i j a)).getD i 0 = Vp l s i j a := by simp [List.getD, show i < own.length by omega]
      rw [decide_eq_true hc', if_pos rfl, if_pos g2, if_pos g2, if_pos g4, if_pos g2, Option.bind_some, hV a ha, w64_id (n := Va l s a i + 1) (by omega), e1, List.set_set, Vp_succ, if_pos hc]
      congr 2
      rw [Int.max_def]
      split <;> split <;> omega
    · have hc' : ¬ 0 < s * bd (l.getD a []) (l.getD i []) (l.getD j []) := hc
      rw [decide_eq_false hc', if_neg (by simp), Option.bind_some, Vp_succ, if_neg hc]
  · rintro k' h o h0 h1 ⟨q0, rfl⟩
    obtain rfl : h = i := by omega
    rw [Int.toNat_natCast, ← Va_eq]
    refine ⟨_, ?_, rfl⟩
    show spec_l10Chain_in_l1 l s T (j : Int) (i : Int) (k' + 1) (i : Int) _ = _
    rw [spec_l10Chain_in_l1]; simp

theorem spec_l0 (T : List (List Int)) (j : Nat) (hj : j < l.length) (hT : T.length = l.length) (hTl : ∀ i, i < l.length → (T.getD i []).length = l.length) (hV : ∀ i, i < j → ∀ h, h < i → (T.getD i []).getD h 0 = Va l s h i) (own : List Int) (ho : own.length = l.length) (b : Int) (hb : BestC l s 1 j 0 b) (k : Nat) (hk : 40 ≤ k) :
    ∃ b' own', spec_l10Chain_in k l s b T (j : Int) own = some (b', own') ∧ BestC l s 1 j j b' ∧ own'.length = l.length ∧ ∀ i, i < j → own'.getD i 0 = Va l s i j := by
  have hn := hl.1
  unfold spec_l10Chain_in
  have := loopI (f := fun k' i (q : Int × List Int) => spec_l10Chain_in_l0 k l s T (j : Int) k' q.1 i q.2) (j : Int) 0 (fun i q => i ≤ j ∧ BestC l s 1 j i.toNat q.1 ∧ q.2.length = l.length ∧ ∀ a : Nat, (a : Int) < i → q.2.getD a 0 = Va l s a j)
    (fun r => BestC l s 1 j j r.1 ∧ r.2.length = l.length ∧ ∀ i, i < j → r.2.getD i 0 = Va l s i j) ?_ ?_ k 0 (b, own) (by omega) (by omega) ⟨by omega, hb, ho, fun a ha => by omega⟩
  · obtain ⟨r, e, h1, h2, h3⟩ := this
    exact ⟨r.1, r.2, e, h1, h2, h3⟩
  · rintro k' i ⟨b0, o⟩ h0 h1 ⟨_, hB, hlo, hvo⟩
    left
    obtain ⟨a, rfl⟩ := nat_of h0
    rw [Int.toNat_natCast] at hB
    have ha : a < j := by omega
    refine ⟨(if b0 < Va l s a j then Va l s a j else b0, o.set a (Va l s a j)), ?_, by omega, ?_, by simpa using hlo, fun c hc => ?_⟩
    · show spec_l10Chain_in_l0 k l s T (j : Int) (k' + 1) b0 (a : Int) o = _
      have g1 : (0 : Int) ≤ (a : Int) ∧ (a : Int) < (o.length : Int) := by have : o.length = l.length := hlo; omega
      have g2 : (0 : Int) ≤ (a : Int) ∧ (a : Int) < ((o.set a (Va l s a j)).length : Int) := by simpa using g1
      have e1 : (o.set a (Va l s a j)).getD a 0 = Va l s a j := by simp [List.getD, show a < o.length by omega]
      rw [spec_l10Chain_in_l0, if_pos (decide_eq_true h1), if_pos g1, Int.toNat_natCast, spec_l1 l s hl hs T j a ha hj hT (hTl a (by omega)) (fun h hh => hV a ha h hh) o hlo k hk, Option.bind_some, if_pos g2, Option.bind_some, e1, w64_succ h0 h1 (by omega)]
    · rw [show ((a : Int) + 1).toNat = a + 1 by omega]
      exact BestC_step hB ha
    · by_cases e : c = a
      · subst e
        have : c < o.length := by have : o.length = l.length := hlo; omega
        simp [List.getD, this]
      · have := hvo c (by omega)
        simp only [List.getD, List.getElem?_set, Ne.symm e, if_false]
        exact this
  · rintro k' i ⟨b0, o⟩ h0 h1 ⟨q0, hB, hlo, hvo⟩
    obtain rfl : i = j := by omega
    rw [Int.toNat_natCast] at hB
    refine ⟨(b0, o), ?_, hB, hlo, fun a ha => hvo a (by omega)⟩
    show spec_l10Chain_in_l0 k l s T (j : Int) (k' + 1) b0 (j : Int) o = _
    rw [spec_l10Chain_in_l0]; simp

theorem spec_chain (k : Nat) (hk : 40 ≤ k) : ∃ b, spec_l10Chain k l s = some b ∧ BestC l s 1 l.length 0 b := by
  have hn := hl.1
  unfold spec_l10Chain
  rw [if_pos (by omega)]
  have := loopI (f := fun k' j (q : Int × List (List Int)) => spec_l10Chain_l3 k l s k' j q.1 q.2) (l.length : Int) 1 (fun j q => j ≤ l.length ∧ BestC l s 1 j.toNat 0 q.1 ∧ q.2.length = l.length ∧ (∀ i, i < l.length → (q.2.getD i []).length = l.length) ∧ ∀ i : Nat, (i : Int) < j → ∀ h, h < i → (q.2.getD i []).getD h 0 = Va l s h i)
    (fun r => BestC l s 1 l.length 0 r) ?_ ?_ k 1 (1, List.replicate l.length (List.replicate l.length 0)) (by omega) (by omega) ⟨by omega, ⟨by omega, fun j' i' a c => by omega, .inl rfl⟩, by simp, fun i hi => by simp [List.getD, List.getElem?_replicate, hi], fun i hi h hh => by omega⟩
  · obtain ⟨r, e, h1⟩ := this
    exact ⟨r, e, h1⟩
  · rintro k' j ⟨b0, T⟩ h0 h1 ⟨_, hB, hT, hTl, hV⟩
    left
    obtain ⟨a, rfl⟩ := nat_of (show 0 ≤ j by omega)
    rw [Int.toNat_natCast] at hB
    have ha : a < l.length := by omega
    have hT' : T.length = l.length := hT
    obtain ⟨b', own', e, hB', hlo, hvo⟩ := spec_l0 l s hl hs T a ha hT hTl (fun i hi h hh => hV i (by omega) h hh) (T.getD a []) (hTl a ha) b0 hB k hk
    refine ⟨(b', T.set a own'), ?_, by omega, ?_, by simpa using hT, fun i hi => ?_, fun i hi h hh => ?_⟩
    · show spec_l10Chain_l3 k l s (k' + 1) (a : Int) b0 T = _
      have g1 : (0 : Int) ≤ (a : Int) ∧ (a : Int) < (T.length : Int) := by omega
      rw [spec_l10Chain_l3, if_pos (decide_eq_true h1), if_pos g1, Int.toNat_natCast, e, Option.bind_some, w64_succ (by omega) h1 (by omega)]
    · rw [show ((a : Int) + 1).toNat = a + 1 by omega]
      exact BestC_next hB'
    · by_cases e : i = a
      · subst e
        have : (T.set i own').getD i [] = own' := by simp [List.getD, show i < T.length by omega]
        rw [this]; exact hlo
      · have : (T.set a own').getD i [] = T.getD i [] := by simp [List.getD, List.getElem?_set, Ne.symm e]
        rw [this]; exact hTl i hi
    · by_cases e : i = a
      · subst e
        have : (T.set i own').getD i [] = own' := by simp [List.getD, show i < T.length by omega]
        rw [this]; exact hvo h hh
      · have : (T.set a own').getD i [] = T.getD i [] := by simp [List.getD, List.getElem?_set, Ne.symm e]
        rw [this]; exact hV i (by omega) h hh
  · rintro k' j ⟨b0, T⟩ h0 h1 ⟨q0, hB, _⟩
    obtain rfl : j = l.length := by omega
    rw [Int.toNat_natCast] at hB
    refine ⟨b0, ?_, hB⟩
    show spec_l10Chain_l3 k l s (k' + 1) (l.length : Int) b0 T = _
    rw [spec_l10Chain_l3]; simp

theorem impl_l2 (x : M17) (kk j : Nat) (hjk : j < kk) (hkn : kk < l.length) (hV : ∀ h, h < j → x.get (h * 17 + j) = Va l s h j) (k : Nat) (hk : 40 ≤ k) :
    impl_greatestBend_l2 l s (kk : Int) (j : Int) k 0 (x.set (j * 17 + kk) 2) = some (x.set (j * 17 + kk) (Va l s j kk)) := by
  have hn := hl.1
  have := loopI (f := fun k' h (o : M17) => impl_greatestBend_l2 l s (kk : Int) (j : Int) k' h o) (j : Int) 0 (fun h o => h ≤ j ∧ o = x.set (j * 17 + kk) (Vp l s j kk h.toNat)) (fun r => r = x.set (j * 17 + kk) (Va l s j kk)) ?_ ?_ k 0 (x.set (j * 17 + kk) 2) (by omega) (by omega) ⟨by omega, rfl⟩
  · obtain ⟨r, e, rfl⟩ := this
    exact e
  · rintro k' h o h0 h1 ⟨_, rfl⟩
    left
    obtain ⟨a, rfl⟩ := nat_of h0
    have ha : a < j := by omega
    rw [Int.toNat_natCast]
    refine ⟨x.set (j * 17 + kk) (Vp l s j kk (a + 1)), ?_, by omega, by rw [show ((a : Int) + 1).toNat = a + 1 by omega]⟩
    show impl_greatestBend_l2 l s (kk : Int) (j : Int) (k' + 1) (a : Int) (x.set (j * 17 + kk) (Vp l s j kk a)) = _
    obtain ⟨b1, b2, b3, b4⟩ := bends_eq _ _ _ (okP_of l hl a (by omega)) (okP_of l hl j (by omega)) (okP_of l hl kk hkn)
    have g1 : (0 : Int) ≤ (a : Int) ∧ (a : Int) < (l.length : Int) := by omega
    have g2 : (0 : Int) ≤ (j : Int) ∧ (j : Int) < (l.length : Int) := by omega
    have g3 : (0 : Int) ≤ (kk : Int) ∧ (kk : Int) < (l.length : Int) := by omega
    rw [impl_greatestBend_l2, if_pos (decide_eq_true h1), if_pos g1, if_pos g2, if_pos g3, Int.toNat_natCast, Int.toNat_natCast, Int.toNat_natCast, b2, Option.bind_some, w_bend l s hl hs a j kk (by omega) (by omega) hkn, w64_succ h0 h1 (by omega)]
    have q1 : (0 : Int) ≤ (a : Int) ∧ (a : Int) < 17 := by omega
    have q2 : (0 : Int) ≤ (j : Int) ∧ (j : Int) < 17 := by omega
    have q3 : (0 : Int) ≤ (kk : Int) ∧ (kk : Int) < 17 := by omega
    by_cases hc : cnd l s a j kk
    · have hc' : 0 < s * bd (l.getD a []) (l.getD j []) (l.getD kk []) := hc
      have vb := V_bound l s a j
      have e1 : (x.set (j * 17 + kk) (Vp l s j kk a)).get (j * 17 + kk) = Vp l s j kk a := by rw [M17.get_set _ _ _ _ (by omega), if_pos rfl]
      have e2 : (x.set (j * 17 + kk) (Vp l s j kk a)).get (a * 17 + j) = Va l s a j := by rw [M17.get_set _ _ _ _ (by omega), if_neg (by omega)]; exact hV a ha
      have e3 : ∀ v, (x.set (j * 17 + kk) (Vp l s j kk a)).set (j * 17 + kk) v = x.set (j * 17 + kk) v := fun v => by unfold M17.set; simp [List.set_set]
      rw [decide_eq_true hc', if_pos rfl, if_pos q2, if_pos q3, if_pos q1, if_pos q2, if_pos q2, if_pos q3, Option.bind_some, e1, e2, e3, w64_id (n := Va l s a j + 1) (by omega), Vp_succ, if_pos hc]
      congr 2
      rw [Int.max_def]
      split <;> split <;> omega
    · have hc' : ¬ 0 < s * bd (l.getD a []) (l.getD j []) (l.getD kk []) := hc
      rw [decide_eq_false hc', if_neg (by simp), Option.bind_some, Vp_succ, if_neg hc]
  · rintro k' h o h0 h1 ⟨q0, rfl⟩
    obtain rfl : h = j := by omega
    rw [Int.toNat_natCast, ← Va_eq]
    refine ⟨_, ?_, rfl⟩
    show impl_greatestBend_l2 l s (kk : Int) (j : Int) (k' + 1) (j : Int) _ = _
    rw [impl_greatestBend_l2]; simp

theorem impl_l1 (x : M17) (kk : Nat) (st : Int) (hkn : kk < l.length) (hV : ∀ j, j < kk → ∀ h, h < j → x.get (h * 17 + j) = Va l s h j) (b : Int) (hb : BestC l s st kk 0 b) (k : Nat) (hk : 40 ≤ k) :
    ∃ b' x', impl_greatestBend_l1 k l s (kk : Int) k b 0 x = some (b', x') ∧ BestC l s st kk kk b' ∧ ∀ j, j ≤ kk → ∀ h, h < j → x'.get (h * 17 + j) = Va l s h j := by
  have hn := hl.1
  have := loopI (f := fun k' j (q : Int × M17) => impl_greatestBend_l1 k l s (kk : Int) k' q.1 j q.2) (kk : Int) 0 (fun j q => j ≤ kk ∧ BestC l s st kk j.toNat q.1 ∧ (∀ j', j' < kk → ∀ h, h < j' → q.2.get (h * 17 + j') = Va l s h j') ∧ ∀ a : Nat, (a : Int) < j → q.2.get (a * 17 + kk) = Va l s a kk)
    (fun r => BestC l s st kk kk r.1 ∧ ∀ j, j ≤ kk → ∀ h, h < j → r.2.get (h * 17 + j) = Va l s h j) ?_ ?_ k 0 (b, x) (by omega) (by omega) ⟨by omega, hb, hV, fun a ha => by omega⟩
  · obtain ⟨r, e, h1, h2⟩ := this
    exact ⟨r.1, r.2, e, h1, h2⟩
  · rintro k' j ⟨b0, o⟩ h0 h1 ⟨_, hB, hvo, hvk⟩
    left
    obtain ⟨a, rfl⟩ := nat_of h0
    rw [Int.toNat_natCast] at hB
    have ha : a < kk := by omega
    refine ⟨(if b0 < Va l s a kk then Va l s a kk else b0, o.set (a * 17 + kk) (Va l s a kk)), ?_, by omega, ?_, fun j' hj' h hh => ?_, fun c hc => ?_⟩
    · show impl_greatestBend_l1 k l s (kk : Int) (k' + 1) b0 (a : Int) o = _
      have q2 : (0 : Int) ≤ (a : Int) ∧ (a : Int) < 17 := by omega
      have q3 : (0 : Int) ≤ (kk : Int) ∧ (kk : Int) < 17 := by omega
      have e1 : (o.set (a * 17 + kk) (Va l s a kk)).get (a * 17 + kk) = Va l s a kk := by rw [M17.get_set _ _ _ _ (by omega), if_pos rfl]
      rw [impl_greatestBend_l1, if_pos (decide_eq_true h1), if_pos q2, if_pos q3, Int.toNat_natCast, Int.toNat_natCast, impl_l2 l s hl hs o kk a ha hkn (fun h hh => hvo a ha h hh) k hk, Option.bind_some, if_pos q2, if_pos q3, Option.bind_some, e1, w64_succ h0 h1 (by omega)]
    · rw [show ((a : Int) + 1).toNat = a + 1 by omega]
      exact BestC_step hB ha
    · show (o.set (a * 17 + kk) (Va l s a kk)).get (h * 17 + j') = _
      rw [M17.get_set _ _ _ _ (by omega), if_neg (by omega)]
      exact hvo j' hj' h hh
    · show (o.set (a * 17 + kk) (Va l s a kk)).get (c * 17 + kk) = _
      rw [M17.get_set _ _ _ _ (by omega)]
      by_cases e : c = a
      · subst e; rw [if_pos rfl]
      · rw [if_neg (by omega)]; exact hvk c (by omega)
  · rintro k' j ⟨b0, o⟩ h0 h1 ⟨q0, hB, hvo, hvk⟩
    obtain rfl : j = kk := by omega
    rw [Int.toNat_natCast] at hB
    refine ⟨(b0, o), ?_, hB, fun j hj h hh => ?_⟩
    · show impl_greatestBend_l1 k l s (kk : Int) (k' + 1) b0 (kk : Int) o = _
      rw [impl_greatestBend_l1]; simp
    · by_cases e : j = kk
      · subst e; exact hvk h (by omega)
      · exact hvo j (by omega) h hh

theorem impl_chain (k : Nat) (hk : 40 ≤ k) : ∃ b, impl_greatestBend k l s = some b ∧ BestC l s (if l.length = 1 then 1 else 2) l.length 0 b := by
  have hn := hl.1
  unfold impl_greatestBend impl_size_R
  have hst : (if 2 < (l.length : Int) then 2 else (l.length : Int)) = (if l.length = 1 then 1 else 2) := by
    by_cases e : l.length = 1
    · simp [e]
    · by_cases e2 : 2 < (l.length : Int)
      · rw [if_pos e2, if_neg e]
      · rw [if_neg e2, if_neg e]; omega
  have := loopI (f := fun k' j (q : Int × M17) => impl_greatestBend_l0 k l s k' q.1 j q.2) (l.length : Int) 0 (fun j q => j ≤ l.length ∧ BestC l s (if l.length = 1 then 1 else 2) j.toNat 0 q.1 ∧ ∀ j' : Nat, (j' : Int) < j → ∀ h, h < j' → q.2.get (h * 17 + j') = Va l s h j')
    (fun r => BestC l s (if l.length = 1 then 1 else 2) l.length 0 r) ?_ ?_ k 0 (if l.length = 1 then 1 else 2, M17.zero) (by omega) (by omega) ⟨by omega, ⟨Int.le_refl _, fun j' i' a c => by omega, .inl rfl⟩, fun j' h' => by omega⟩
  · obtain ⟨r, e, h1⟩ := this
    refine ⟨r, ?_, h1⟩
    rw [hst]
    have e' : impl_greatestBend_l0 k l s k (if l.length = 1 then 1 else 2) 0 M17.zero = some r := e
    rw [e']; rfl
  · rintro k' j ⟨b0, o⟩ h0 h1 ⟨_, hB, hV⟩
    left
    obtain ⟨a, rfl⟩ := nat_of h0
    rw [Int.toNat_natCast] at hB
    have ha : a < l.length := by omega
    obtain ⟨b', x', e, hB', hV'⟩ := impl_l1 l s hl hs o a _ ha (fun j hj h hh => hV j (by omega) h hh) b0 hB k hk
    refine ⟨(b', x'), ?_, by omega, ?_, fun j' hj' h hh => hV' j' (by omega) h hh⟩
    · show impl_greatestBend_l0 k l s (k' + 1) b0 (a : Int) o = _
      rw [impl_greatestBend_l0, if_pos (decide_eq_true h1), e, Option.bind_some, w64_succ h0 h1 (by omega)]
    · rw [show ((a : Int) + 1).toNat = a + 1 by omega]
      exact BestC_next hB'
  · rintro k' j ⟨b0, o⟩ h0 h1 ⟨q0, hB, _⟩
    obtain rfl : j = l.length := by omega
    rw [Int.toNat_natCast] at hB
    refine ⟨b0, ?_, hB⟩
    show impl_greatestBend_l0 k l s (k' + 1) b0 (l.length : Int) o = _
    rw [impl_greatestBend_l0]; simp

theorem chains (k : Nat) (hk : 40 ≤ k) : ∃ b, spec_l10Chain k l s = some b ∧ impl_greatestBend k l s = some b := by
  obtain ⟨a, a1, a2⟩ := spec_chain l s hl hs k hk
  obtain ⟨b, b1, b2⟩ := impl_chain l s hl hs k hk
  have : a = b := BestC_same hl.1.1 a2 b2
  subst this
  exact ⟨a, a1, b1⟩
end

/-! ### Lists of lists -/
end Go.Proofs.Ytfnbhfobgimnjaa
