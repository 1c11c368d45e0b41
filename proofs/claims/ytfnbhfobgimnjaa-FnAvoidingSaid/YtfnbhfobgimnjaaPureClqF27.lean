/- Plain laws: the first clique of some size, and sizes that are avoided. No conditions beyond those that each lemma states. -/
import Derived.Test.YtfnbhfobgimnjaaPureClq27
set_option linter.unusedVariables false
set_option linter.unusedSimpArgs false
namespace Go.Proofs.Ytfnbhfobgimnjaa
open Go Go.RowKit Ab

theorem run_firstOf (m : Int) : ∀ (Ls : List (List Int)) (out : List Int), runL (fun l s => some (impl_Colouring_firstOf_c1 l m s)) Ls out = some (match Ls.find? (fun l => !decide ((l.length : Int) < m)) with | some l => (false, l) | none => (true, out))
  | [], out => rfl
  | a :: t, out => by
    rw [runL, List.find?_cons]
    simp only [Option.bind_some]
    unfold impl_Colouring_firstOf_c1 impl_size
    by_cases h : (a.length : Int) < m
    · simp only [h, decide_true, Bool.not_true, if_true]
      exact run_firstOf m t out
    · simp only [h, decide_false, Bool.not_false, if_false, Bool.false_eq_true]

theorem firstOf_eq {k : Nat} (hk : 5000 ≤ k) (x : Col) (hp : 1 ≤ x.p ∧ x.p ≤ 17) (c m : Int) : impl_Colouring_firstOf k x c m = some (match (acl x c).find? (fun l => !decide ((l.length : Int) < m)) with | some l => (l, true) | none => ([], false)) := by
  unfold impl_Colouring_firstOf
  have := clq_all x hp c (fun l s => some (impl_Colouring_firstOf_c1 l m s)) (fun k l s => impl_Colouring_cliques_on_firstOf_c1 k x c l m s) (fun k l k0 q s => impl_Colouring_cliques_on_firstOf_c1_l0 k (impl_Colouring_cliques_on_firstOf_c1 k) x c l m k0 q s)
    (fun k l s _ => by
      show impl_Colouring_cliques_on_firstOf_c1 (k + 1) x c l m s = _
      rw [impl_Colouring_cliques_on_firstOf_c1, impl_Colouring_cliques_on_firstOf_c1_body]
      simp only [Option.bind_some]
      congr 1; congr 1; funext f; congr 1; funext os; cases os <;> rfl) (fun k l k0 q s hl => by
      rw [impl_Colouring_cliques_on_firstOf_c1_l0]
      by_cases hq : q < x.p
      · simp only [hq, decide_true, if_true]
        cases impl_Colouring_goesWith k x c l q with
        | none => rfl
        | some g =>
          cases g with
          | false => simp
          | true =>
            have hl1 : l.length ≤ 1099511627776 := by omega
            have hl2 : l.length + 1 ≤ 1099511627776 := by omega
            cases l with
            | nil => 
              simp only [Option.bind_some, if_true, List.isEmpty_nil, List.length_cons, List.length_nil, List.nil_append]
              cases impl_Colouring_cliques_on_firstOf_c1 k x c [q] m s with
              | none => rfl
              | some r => cases h : r.1 <;> simp [h]
            | cons a t =>
              simp only [Option.bind_some, if_true, List.isEmpty_cons, Bool.false_eq_true, if_false, cloneA, hl1, List.length_singleton, hl2]
              cases impl_Colouring_cliques_on_firstOf_c1 k x c ((a :: t) ++ [q]) m s with
              | none => rfl
              | some r => cases h : r.1 <;> simp [h]
      · simp [hq]) k (by omega) []
  rw [show impl_Colouring_cliques_on_firstOf_c1 k x c [] m [] = _ from this, run_firstOf]
  cases (acl x c).find? (fun l => !decide ((l.length : Int) < m)) <;> rfl

/-- The first clique that has so many points is the first one of so many. -/
theorem find_cl (x : Col) (c : Int) (m : Nat) : (acl x c).find? (fun l => !decide ((l.length : Int) < (m : Int))) = (cl (aB x c) m (pts x)).head? := by
  have key : ∀ (vs : List Int) (m : Nat), ([] :: ac (aB x c) vs).find? (fun l => !decide (l.length < m)) = ([] :: ac (aB x c) vs).find? (fun l => decide (l.length = m)) := by
    intro vs
    induction vs using len_ind with
    | _ vs ih =>
      intro m
      cases m with
      | zero => simp
      | succ m =>
        rw [List.find?_cons_of_neg (by simp), List.find?_cons_of_neg (by simp)]
        cases vs with
        | nil => rw [ac_nil]; rfl
        | cons v t =>
          have h1 := ih _ (flt_lt (aB x c) v t) m
          have h2 := ih t (by simp) (m + 1)
          rw [List.find?_cons_of_neg (by simp), List.find?_cons_of_neg (by simp)] at h2
          rw [ac_cons, List.find?_append, List.find?_append, List.find?_map, List.find?_map]
          have e1 : (fun l : List Int => !decide (l.length < m + 1)) ∘ (fun z => v :: z) = fun l => !decide (l.length < m) := by funext z; simp
          have e2 : (fun l : List Int => decide (l.length = m + 1)) ∘ (fun z => v :: z) = fun l => decide (l.length = m) := by funext z; simp
          rw [e1, e2, h1, h2]
  have e : (fun l : List Int => !decide ((l.length : Int) < (m : Int))) = fun l => !decide (l.length < m) := by
    funext l
    by_cases h : l.length < m
    · have : (l.length : Int) < m := by omega
      simp [h, this]
    · have : ¬ (l.length : Int) < m := by omega
      simp [h, this]
  unfold acl
  rw [e, key, ← List.head?_filter, ac_filter]

theorem firstOf_cl {k : Nat} (hk : 5000 ≤ k) (x : Col) (hp : 1 ≤ x.p ∧ x.p ≤ 17) (c : Int) (m : Nat) : impl_Colouring_firstOf k x c m = some (match (cl (aB x c) m (pts x)).head? with | some l => (l, true) | none => ([], false)) := by
  rw [firstOf_eq hk x hp c m, find_cl]

theorem anyF_val (k : Nat) (l : List Int) (f : Int → Option Bool) (S : Int → Bool) (hf : ∀ z ∈ l, f z = some (S z)) (hk : l.length + 1 ≤ k) (hl : (l.length : Int) ≤ 1099511627776) : slices_ContainsFunc k l f = some (l.any S) := by
  unfold slices_ContainsFunc slices_IndexFunc
  have hget : ∀ i : Nat, i < l.length → l.getD i 0 ∈ l := fun i hi => by
    have e : l.getD i 0 = l[i] := by simp [List.getD, hi]
    rw [e]; exact List.getElem_mem hi
  have := loopI (f := fun k' i (_ : Unit) => slices_IndexFunc_l0 l f k' i) (l.length : Int) 0
    (fun i _ => i ≤ l.length ∧ ∀ a : Nat, (a : Int) < i → S (l.getD a 0) = false) (fun r => (l.any S = false ∧ r = .inl ()) ∨ (l.any S = true ∧ ∃ i : Int, 0 ≤ i ∧ r = .inr i)) ?_ ?_ k 0 () (by omega) (by omega) ⟨by omega, fun a h => by omega⟩
  · obtain ⟨r, e, h⟩ := this
    rw [e]
    rcases h with ⟨h, rfl⟩ | ⟨h, i, hi, rfl⟩
    · simp [h]
    · simp [h, hi]
  · intro k' i _ h0 h1 ⟨_, q2⟩
    obtain ⟨m, rfl⟩ := nat_of h0
    have hm : m < l.length := by omega
    have hj := hf _ (hget m hm)
    cases hc : S (l.getD m 0) with
    | false =>
      left
      rw [hc] at hj
      refine ⟨(), ?_, by omega, fun a ha => ?_⟩
      · show slices_IndexFunc_l0 l _ (k' + 1) m = _
        rw [slices_IndexFunc_l0, w64_succ h0 h1 (by omega)]
        simp only [Int.toNat_natCast, h1, h0, decide_true, if_true, and_self, hj, Option.bind_some, Bool.false_eq_true, if_false]
      · by_cases e : a = m
        · subst e; exact hc
        · exact q2 a (by omega)
    | true =>
      right
      rw [hc] at hj
      refine ⟨.inr m, ?_, .inr ⟨?_, m, h0, rfl⟩⟩
      · show slices_IndexFunc_l0 l _ (k' + 1) m = _
        rw [slices_IndexFunc_l0]
        simp only [Int.toNat_natCast, h1, h0, decide_true, if_true, and_self, hj, Option.bind_some]
      · rw [List.any_eq_true]
        exact ⟨_, hget m hm, hc⟩
  · intro k' i _ h0 h1 ⟨q1, q2⟩
    refine ⟨.inl (), ?_, .inl ⟨?_, rfl⟩⟩
    · show slices_IndexFunc_l0 l _ (k' + 1) i = _
      rw [slices_IndexFunc_l0]
      have : ¬ i < (l.length : Int) := by omega
      simp [this]
    · rw [List.any_eq_false]
      intro z hz
      obtain ⟨a, ha, rfl⟩ := List.getElem_of_mem hz
      have := q2 a (by omega)
      have e : l.getD a 0 = l[a] := by simp [List.getD, ha]
      rw [e] at this
      simp [this]

theorem areIn_val (k : Nat) (l : List Int) (many lo hi : Int) (hk : l.length + 1 ≤ k) (hl : (l.length : Int) ≤ 1099511627776) : impl_areIn k l many lo hi = some (decide ((l.length : Int) = many ∧ ∀ z ∈ l, lo ≤ z ∧ z ≤ hi)) := by
  unfold impl_areIn impl_size
  by_cases h : (l.length : Int) = many
  · rw [decide_eq_true h, if_pos rfl, anyF_val k l (fun a0 => some (impl_areIn_c1 a0 lo hi)) (fun z => !decide (lo ≤ z ∧ z ≤ hi)) (fun z _ => by unfold impl_areIn_c1; rw [in_eq]) hk hl]
    simp only [Option.bind_some]
    congr 1
    rw [Bool.eq_iff_iff, decide_eq_true_iff, Bool.not_eq_true', List.any_eq_false]
    constructor
    · intro q
      exact ⟨h, fun z hz => by simpa using q z hz⟩
    · rintro ⟨_, q⟩ z hz
      simpa using q z hz
  · rw [decide_eq_false h]
    simp [h]

/-- Sizes that no clique has. -/
def avoidsP (x : Col) (sizes : List Int) : Prop := ∀ c : Nat, c < sizes.length → cl (aB x (c : Int)) (sizes.getD c 0).toNat (pts x) = []

open Classical in
theorem avoids_loop {k : Nat} (hk : 5000 ≤ k) (x : Col) (hp : 1 ≤ x.p ∧ x.p ≤ 17) (sizes : List Int) (hs : ∀ z ∈ sizes, 1 ≤ z ∧ z ≤ 17) (hl : sizes.length ≤ 1000) : impl_Colouring_avoids k x sizes = some (decide (avoidsP x sizes)) := by
  unfold impl_Colouring_avoids
  have hget : ∀ i : Nat, i < sizes.length → sizes.getD i 0 ∈ sizes := fun i hi => by
    have e : sizes.getD i 0 = sizes[i] := by simp [List.getD, hi]
    rw [e]; exact List.getElem_mem hi
  have hf : ∀ i : Nat, i < sizes.length → impl_Colouring_firstOf k x i (sizes.getD i 0) = some (match (cl (aB x i) (sizes.getD i 0).toNat (pts x)).head? with | some l => (l, true) | none => ([], false)) := fun i hi => by
    have h1 := hs _ (hget i hi)
    have := firstOf_cl hk x hp i (sizes.getD i 0).toNat
    rw [show (((sizes.getD i 0).toNat : Nat) : Int) = sizes.getD i 0 by omega] at this
    exact this
  have := loopAll (f := fun k' i => impl_Colouring_avoids_l0 k x sizes k' i) (sizes.length : Int) false (fun i => cl (aB x i) (sizes.getD i.toNat 0).toNat (pts x) = []) 0
    (fun k' i h0 h1 hq => by
      obtain ⟨m, rfl⟩ := nat_of h0
      show impl_Colouring_avoids_l0 k x sizes (k' + 1) m = _
      have e := hf m (by omega)
      rw [Int.toNat_natCast] at hq
      rw [hq] at e
      rw [impl_Colouring_avoids_l0, w64_succ h0 h1 (by omega), Int.toNat_natCast, e]
      simp only [h1, h0, decide_true, if_true, and_self, List.head?_nil, Option.bind_some, Bool.false_eq_true, if_false])
    (fun k' i h0 h1 hq => by
      obtain ⟨m, rfl⟩ := nat_of h0
      show impl_Colouring_avoids_l0 k x sizes (k' + 1) m = _
      have e := hf m (by omega)
      rw [Int.toNat_natCast] at hq
      rw [impl_Colouring_avoids_l0, Int.toNat_natCast, e]
      cases hh : cl (aB x m) (sizes.getD m 0).toNat (pts x) with
      | nil => exact absurd hh hq
      | cons a t => simp only [h1, h0, decide_true, if_true, and_self, List.head?_cons, Option.bind_some])
    (fun k' i h1 => by
      show impl_Colouring_avoids_l0 k x sizes (k' + 1) i = _
      rw [impl_Colouring_avoids_l0]
      have : ¬ i < (sizes.length : Int) := by omega
      simp [this]) k 0 (by omega) (by omega)
  rw [this]
  have e : (∀ j : Int, 0 ≤ j → j < (sizes.length : Int) → cl (aB x j) (sizes.getD j.toNat 0).toNat (pts x) = []) ↔ avoidsP x sizes := by
    constructor
    · intro h c hc
      have := h c (by omega) (by omega)
      rwa [Int.toNat_natCast] at this
    · intro h j h0 h1
      have := h j.toNat (by omega)
      rwa [show ((j.toNat : Nat) : Int) = j by omega] at this
  by_cases q : avoidsP x sizes
  · rw [if_pos (e.2 q), decide_eq_true q]; rfl
  · rw [if_neg (fun z => q (e.1 z)), decide_eq_false q]; rfl

theorem sizesCode_val {k : Nat} (hk : 5000 ≤ k) (x : Col) (sizes : List Int) (hl : sizes.length ≤ 1000) (b : Bool) : (¬ x.is → impl_Colouring_sizesCode k x sizes (some b) = some 1) ∧ (x.is → impl_Colouring_sizesCode k x sizes (some b) = some (if ((sizes.length : Int) = x.k ∧ ∀ z ∈ sizes, 1 ≤ z ∧ z ≤ 17) ∧ b = true then 0 else 2)) := by
  unfold impl_Colouring_sizesCode impl_Colouring_sizesCode_c1 impl_areForbidden impl_Colouring_code
  rw [areIn_val k sizes x.k 1 17 (by omega) (by omega), isColouring_eq k (by omega)]
  constructor
  · intro h; simp [h]
  · intro h
    simp only [h, decide_true, Option.bind_some, Bool.not_true, Bool.false_eq_true, if_false]
    by_cases q : (sizes.length : Int) = x.k ∧ ∀ z ∈ sizes, 1 ≤ z ∧ z ≤ 17
    · rw [decide_eq_true q]
      cases b
      · simp
      · simp only [if_true, Option.bind_some, Bool.not_true, Bool.false_eq_true, if_false, and_true]
        rw [if_pos q]
    · rw [decide_eq_false q]
      simp only [Bool.false_eq_true, if_false, Option.bind_some, Bool.not_false, if_true]
      rw [if_neg (fun z => q z.1)]

open Classical in
theorem implAvoids_val {k : Nat} (hk : 5000 ≤ k) (x : Col) (sizes : List Int) (hl : sizes.length ≤ 1000) : (¬ x.is → impl_AvoidsSizes k x sizes = some (false, 1)) ∧ (x.is → ¬ ((sizes.length : Int) = x.k ∧ ∀ z ∈ sizes, 1 ≤ z ∧ z ≤ 17) → impl_AvoidsSizes k x sizes = some (false, 2)) ∧ (x.is → ((sizes.length : Int) = x.k ∧ ∀ z ∈ sizes, 1 ≤ z ∧ z ≤ 17) → impl_AvoidsSizes k x sizes = some (decide (avoidsP x sizes), 0)) := by
  obtain ⟨c1, c2⟩ := sizesCode_val hk x sizes hl true
  unfold impl_AvoidsSizes impl_always
  refine ⟨fun h => ?_, fun h q => ?_, fun h q => ?_⟩
  · rw [c1 h]; simp
  · rw [c2 h, if_neg (fun z => q z.1)]; simp
  · rw [c2 h, if_pos ⟨q, rfl⟩, avoids_loop hk x h.1 sizes q.2 hl]; simp
end Go.Proofs.Ytfnbhfobgimnjaa
