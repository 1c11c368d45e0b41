/- Plain laws: components of a colour: what the program's walk gives. No conditions beyond those that each lemma states. -/
import Derived.Test.YtfpcopidcagdaaaPureCore17
import Derived.Test.YtfpcopidcagdaaaGen17
set_option linter.unusedVariables false
set_option linter.unusedSimpArgs false
namespace Go.Proofs.Ytfpcopidcagdaaa
open Go Go.RowKit Ab

/-! ### Points joined in a colour; what can be reached -/
def adj (x : Col) (c : Int) (a b : Nat) : Prop := (a : Int) < x.p ∧ (b : Int) < x.p ∧ a ≠ b ∧ x.cc a b = c
instance (x : Col) (c : Int) (a b : Nat) : Decidable (adj x c a b) := by unfold adj; exact inferInstance
theorem adj_symm {x : Col} {c : Int} {a b : Nat} (h : adj x c a b) : adj x c b a :=
  ⟨h.2.1, h.1, h.2.2.1.symm, by rw [← h.2.2.2]; unfold Col.cc; rw [eN_comm]⟩

inductive Rch (A : Nat → Nat → Prop) (s : Nat) : Nat → Prop
  | refl : Rch A s s
  | step {a b : Nat} : Rch A s a → A a b → Rch A s b
theorem Rch.trans {A : Nat → Nat → Prop} {s t u : Nat} (h : Rch A s t) (k : Rch A t u) : Rch A s u := by
  induction k with
  | refl => exact h
  | step _ a ih => exact .step ih a
theorem Rch.symm {A : Nat → Nat → Prop} (hA : ∀ {a b}, A a b → A b a) {s t : Nat} (h : Rch A s t) : Rch A t s := by
  induction h with
  | refl => exact .refl
  | step _ a ih => exact Rch.trans (.step .refl (hA a)) ih
theorem Rch.lt {x : Col} {c : Int} {s t : Nat} (hs : (s : Int) < x.p) (h : Rch (adj x c) s t) : (t : Int) < x.p := by
  induction h with
  | refl => exact hs
  | step _ a _ => exact a.2.1
theorem Rch.closed {x : Col} {c : Int} {S : Nat → Prop} (hS : ∀ a b, S a → adj x c a b → S b) {s t : Nat} (hs : S s) (h : Rch (adj x c) s t) : S t := by
  induction h with
  | refl => exact hs
  | step _ a ih => exact hS _ _ ih a

/-! ### Lists of numbers -/
theorem pw_ext : ∀ (l m : List Int), l.Pairwise (· < ·) → m.Pairwise (· < ·) → (∀ x, x ∈ l ↔ x ∈ m) → l = m
  | [], [], _, _, _ => rfl
  | [], b :: m, _, _, h => by have := (h b).2 (by simp); simp at this
  | a :: l, [], _, _, h => by have := (h a).1 (by simp); simp at this
  | a :: l, b :: m, hl, hm, h => by
    have hl' := List.pairwise_cons.1 hl
    have hm' := List.pairwise_cons.1 hm
    have e : a = b := by
      rcases List.mem_cons.1 ((h a).1 (by simp)) with e | e
      · exact e
      · rcases List.mem_cons.1 ((h b).2 (by simp)) with e' | e'
        · exact e'.symm
        · have := hl'.1 b e'; have := hm'.1 a e; omega
    subst e
    rw [pw_ext l m hl'.2 hm'.2 (fun x => by
      constructor
      · intro hx
        rcases List.mem_cons.1 ((h x).1 (by simp [hx])) with e | e
        · subst e; have := hl'.1 x hx; omega
        · exact e
      · intro hx
        rcases List.mem_cons.1 ((h x).2 (by simp [hx])) with e | e
        · subst e; have := hm'.1 x hx; omega
        · exact e)]

theorem sorted_lt {l : List Int} (h : l.Nodup) : (sorted l).Pairwise (· < ·) := by
  have h1 : (sorted l).Pairwise (· ≤ ·) := by
    unfold sorted
    have := List.pairwise_mergeSort (le := fun x y : Int => decide (x ≤ y)) (fun a b c h1 h2 => by simp at *; omega) (fun a b => by simp; omega) l
    exact this.imp fun h => by simpa using h
  have h2 : (sorted l).Nodup := by unfold sorted; exact (List.mergeSort_perm l _).nodup_iff.2 h
  have := List.Pairwise.and h1 h2
  exact this.imp fun ⟨a, b⟩ => by omega

/-- Numbers 0, .., n - 1 for which something holds. -/
def pick (n : Nat) (P : Nat → Bool) : List Int := ((List.range n).filter P).map Int.ofNat
theorem pick_succ (n : Nat) (P : Nat → Bool) : pick (n + 1) P = pick n P ++ (if P n then [(n : Int)] else []) := by
  unfold pick
  rw [List.range_succ, List.filter_append, List.map_append]
  by_cases h : P n <;> simp [h]
theorem pick_mem {n : Nat} {P : Nat → Bool} {z : Int} : z ∈ pick n P ↔ ∃ v : Nat, z = v ∧ v < n ∧ P v = true := by
  unfold pick
  simp only [List.mem_map, List.mem_filter, List.mem_range]
  constructor
  · rintro ⟨v, ⟨h1, h2⟩, rfl⟩; exact ⟨v, rfl, h1, h2⟩
  · rintro ⟨v, rfl, h1, h2⟩; exact ⟨v, ⟨h1, h2⟩, rfl⟩
theorem pick_pw (n : Nat) (P : Nat → Bool) : (pick n P).Pairwise (· < ·) := by
  unfold pick
  rw [List.pairwise_map]
  exact (List.Pairwise.filter _ List.pairwise_lt_range).imp fun h => by simpa using h
theorem pick_length (n : Nat) (P : Nat → Bool) : (pick n P).length ≤ n := by
  unfold pick
  rw [List.length_map]
  exact Nat.le_trans (List.length_filter_le _ _) (by simp)

/-- Different numbers below n are at most n. -/
theorem nodup_len (n : Nat) (l : List Int) (h : l.Nodup) (hl : ∀ z ∈ l, 0 ≤ z ∧ z < n) : l.length ≤ n := by
  have h1 : sorted l = pick n (fun v => decide ((v : Int) ∈ l)) := pw_ext _ _ (sorted_lt h) (pick_pw _ _) (fun z => by
    unfold sorted
    rw [(List.mergeSort_perm l _).mem_iff, pick_mem]
    constructor
    · intro hz; have := hl z hz; exact ⟨z.toNat, by omega, by omega, by rw [decide_eq_true_eq, Int.toNat_of_nonneg this.1]; exact hz⟩
    · rintro ⟨v, rfl, _, h⟩; simpa using h)
  have h2 : (sorted l).length = l.length := by simp [sorted]
  rw [← h2, h1]
  exact pick_length _ _

/-! ### The points of which something is so; neighbours -/
theorem that_eq (k : Nat) (x : Col) (hx : 1 ≤ x.p ∧ x.p ≤ 17) (hk : 18 ≤ k) (f : Int → Option Bool) (g : Nat → Bool) (hf : ∀ j : Nat, (j : Int) < x.p → f j = some (g j)) : impl_Colouring_that k x f = some (pick x.p.toNat g) := by
  unfold impl_Colouring_that
  have := loopI (f := fun k i (s : List Int) => impl_Colouring_that_l0 x f k i s) x.p 0 (fun i s => i ≤ x.p ∧ s = pick i.toNat g) (fun r => r = pick x.p.toNat g) ?_ ?_ k 0 [] (by omega) (by omega) ⟨by omega, rfl⟩
  · obtain ⟨r, e, rfl⟩ := this
    rw [e]; rfl
  · intro k i s h0 h1 ⟨_, q⟩
    left
    obtain ⟨m, rfl⟩ := nat_of h0
    refine ⟨pick (m + 1) g, ?_, by omega, by rw [show ((m : Int) + 1).toNat = m + 1 by omega]⟩
    show impl_Colouring_that_l0 x f (k + 1) m s = _
    rw [impl_Colouring_that_l0, hf m h1, w64_succ h0 h1 (by omega), q, pick_succ]
    have hl := pick_length m g
    simp only [Int.toNat_natCast, h1, decide_true, if_true, Option.bind_some]
    by_cases hg : g m
    · have : (pick m g).length + 1 ≤ 1099511627776 := by omega
      simp [hg, this]
    · simp [hg]
  · intro k i s h0 h1 ⟨q1, q2⟩
    have : i = x.p := by omega
    subst this
    refine ⟨s, ?_, q2⟩
    show impl_Colouring_that_l0 x f (k + 1) x.p s = _
    rw [impl_Colouring_that_l0]; simp

theorem at_ne (x : Col) (i j : Int) (h0 : 0 ≤ i) (h1 : i < 17) (hj : 0 ≤ j) (hj' : j < 17) (h : i ≠ j) : impl_Colouring_at x i j = some (x.cc i j) := by
  unfold impl_Colouring_at
  rw [number_eq i j ⟨h0, h1⟩ ⟨hj, hj'⟩]
  have := eN_136 (i := i.toNat) (j := j.toNat) (by omega) (by omega) (by omega)
  rw [if_pos ⟨by omega, by omega⟩]
  rfl
theorem specAt_ne (x : Col) (i j : Int) (h0 : 0 ≤ i) (h1 : i < 17) (hj : 0 ≤ j) (hj' : j < 17) (h : i ≠ j) : spec_l01At x i j = some (x.cc i j) := by
  unfold spec_l01At
  rw [edge_eq i j ⟨h0, h1⟩ ⟨hj, hj'⟩]
  have := eN_136 (i := i.toNat) (j := j.toNat) (by omega) (by omega) (by omega)
  rw [if_pos ⟨by omega, by omega⟩]
  rfl

theorem joins_eq (x : Col) (c : Int) (hp : x.p ≤ 17) (i j : Nat) (hi : (i : Int) < x.p) (hj : (j : Int) < x.p) : impl_Colouring_joins x i j c = some (decide (adj x c i j)) := by
  unfold impl_Colouring_joins
  by_cases h : i = j
  · subst h
    have : ¬ adj x c i i := fun h => h.2.2.1 rfl
    simp [this]
  · rw [at_ne x i j (by omega) (by omega) (by omega) (by omega) (by omega)]
    have h' : ¬ (i : Int) = j := by omega
    have : adj x c i j ↔ x.cc i j = c := ⟨fun h => h.2.2.2, fun e => ⟨hi, hj, h, e⟩⟩
    simp [h', this]

theorem nb_eq (k : Nat) (x : Col) (hx : 1 ≤ x.p ∧ x.p ≤ 17) (hk : 18 ≤ k) (c : Int) (i : Nat) (hi : (i : Int) < x.p) : impl_Colouring_neighbours k x i c = some (pick x.p.toNat fun j => decide (adj x c i j)) := by
  unfold impl_Colouring_neighbours
  rw [that_eq k x hx hk _ (fun j => decide (adj x c i j)) (fun j hj => by
    unfold impl_Colouring_neighbours_c1
    rw [joins_eq x c hx.2 i j hi hj]; rfl)]
  rfl

/-! ### Walks -/
/-- Two sides, no edge within one. -/
structure Two (x : Col) (c : Int) (χ : Nat → Int) : Prop where
  val : ∀ v, χ v = 0 ∨ χ v = 1
  edge : ∀ a b, adj x c a b → χ a ≠ χ b

/-- While a component is walked from s: far tells the steps, list the points met. -/
structure Bfs (x : Col) (c : Int) (s : Nat) (far0 far list : List Int) : Prop where
  len : (far.length : Int) = x.p
  nd : list.Nodup
  nat : ∀ z ∈ list, 0 ≤ z
  mem : ∀ v : Nat, (v : Int) ∈ list → (v : Int) < x.p ∧ Rch (adj x c) s v ∧ far0.getD v 0 < 0 ∧ 0 ≤ far.getD v 0 ∧ far.getD v 0 < list.length
  out : ∀ v : Nat, (v : Int) ∉ list → far.getD v 0 = far0.getD v 0
  src : (s : Int) ∈ list ∧ far.getD s 0 = 0
  par : ∀ χ, Two x c χ → χ s = 0 → ∀ v : Nat, (v : Int) ∈ list → far.getD v 0 % 2 = χ v

theorem Bfs.list_len {x : Col} {c : Int} {s : Nat} {far0 far list : List Int} (h : Bfs x c s far0 far list) : (list.length : Int) ≤ x.p := by
  have hp : 0 ≤ x.p := by have := h.len; omega
  obtain ⟨n, hn⟩ := nat_of hp
  have := nodup_len n list h.nd (fun z hz => by
    have h0 := h.nat z hz
    obtain ⟨v, rfl⟩ := nat_of h0
    exact ⟨h0, by rw [← hn]; exact (h.mem v hz).1⟩)
  omega

theorem getD_set_self {l : List Int} {i : Nat} {v : Int} (h : i < l.length) : (l.set i v).getD i 0 = v := by
  simp [List.getD, h]
theorem getD_set_ne {l : List Int} {i j : Nat} {v : Int} (h : i ≠ j) : (l.set i v).getD j 0 = l.getD j 0 := by
  simp only [List.getD, List.getElem?_set_ne h]

/-- One point more is met. -/
theorem Bfs.meet {x : Col} {c : Int} {s : Nat} {far0 far list : List Int} (h : Bfs x c s far0 far list) {q p : Nat} (hq : (q : Int) ∈ list) (ha : adj x c q p) (hp : far.getD p 0 < 0) :
    Bfs x c s far0 (far.set p (far.getD q 0 + 1)) (list ++ [(p : Int)]) := by
  have hpl : p < far.length := by have := ha.2.1; have := h.len; omega
  have hnot : (p : Int) ∉ list := fun hm => by have := (h.mem p hm).2.2.2.1; omega
  have hqp : p ≠ q := fun e => hnot (by rw [e]; exact hq)
  have hm := h.mem q hq
  refine ⟨by simpa using h.len, ?_, ?_, ?_, ?_, ?_, ?_⟩
  · rw [List.nodup_append]
    exact ⟨h.nd, by simp, fun a ha' b hb => by simp at hb; subst hb; intro e; subst e; exact hnot ha'⟩
  · intro z hz
    rcases List.mem_append.1 hz with hz | hz
    · exact h.nat z hz
    · simp at hz; omega
  · intro v hv
    by_cases e : p = v
    · subst e
      rw [getD_set_self hpl, List.length_append]
      have h1 := h.out p hnot
      exact ⟨ha.2.1, .step hm.2.1 ha, by omega, by omega, by simp only [List.length_singleton]; omega⟩
    · have hv' : (v : Int) ∈ list := by
        rcases List.mem_append.1 hv with hv | hv
        · exact hv
        · simp at hv; omega
      have h1 := h.mem v hv'
      rw [getD_set_ne e, List.length_append]
      exact ⟨h1.1, h1.2.1, h1.2.2.1, h1.2.2.2.1, by simp only [List.length_singleton]; omega⟩
  · intro v hv
    have hv1 : (v : Int) ∉ list := fun hm => hv (by simp [hm])
    have hv2 : p ≠ v := fun e => hv (by simp [e])
    rw [getD_set_ne hv2]; exact h.out v hv1
  · refine ⟨by simp [h.src.1], ?_⟩
    have : p ≠ s := fun e => hnot (by rw [e]; exact h.src.1)
    rw [getD_set_ne this]; exact h.src.2
  · intro χ hχ hs v hv
    by_cases e : p = v
    · subst e
      rw [getD_set_self hpl]
      have h1 := h.par χ hχ hs q hq
      have h2 := hχ.edge q p ha
      rcases hχ.val q with h3 | h3 <;> rcases hχ.val p with h4 | h4 <;> omega
    · have hv' : (v : Int) ∈ list := by
        rcases List.mem_append.1 hv with hv | hv
        · exact hv
        · simp at hv; omega
      rw [getD_set_ne e]; exact h.par χ hχ hs v hv'

theorem getD_append_left {l m : List Int} {i : Nat} (h : i < l.length) : (l ++ m).getD i 0 = l.getD i 0 := by
  simp [List.getD, List.getElem?_append, h]
theorem getD_mem {l : List Int} {i : Nat} (h : i < l.length) : l.getD i 0 ∈ l := by
  simp [List.getD, h]

/-- The points behind one point. -/
theorem walk_l2 (x : Col) (hx : 1 ≤ x.p ∧ x.p ≤ 17) (c : Int) (s : Nat) (far0 : List Int) (i q : Nat) (list0 : List Int) (k : Nat) (hk : 20 ≤ k) (far : List Int) (hb : Bfs x c s far0 far list0) (hi : i < list0.length) (hq : list0.getD i 0 = q) :
    ∃ far' list', impl_Colouring_walk_l2 i (pick x.p.toNat fun j => decide (adj x c q j)) k 0 far list0 = some (far', list') ∧ Bfs x c s far0 far' list' ∧ (∀ z ∈ list0, z ∈ list') ∧ (∀ j, j < list0.length → list'.getD j 0 = list0.getD j 0) ∧ list0.length ≤ list'.length ∧
      (∀ v : Nat, 0 ≤ far.getD v 0 → 0 ≤ far'.getD v 0) ∧ ∀ v : Nat, adj x c q v → 0 ≤ far'.getD v 0 := by
  obtain ⟨nb, hnb⟩ : ∃ nb, pick x.p.toNat (fun j => decide (adj x c q j)) = nb := ⟨_, rfl⟩
  have hnbm : ∀ t : Nat, t < nb.length → ∃ v : Nat, nb.getD t 0 = v ∧ adj x c q v := fun t ht => by
    have := getD_mem ht
    rw [← hnb, pick_mem] at this
    obtain ⟨v, e, _, h⟩ := this
    exact ⟨v, by rw [← hnb]; exact e, by simpa using h⟩
  have hnbl : nb.length ≤ x.p.toNat := by rw [← hnb]; exact pick_length _ _
  rw [hnb]
  have := loopI (f := fun k t (s : List Int × List Int) => impl_Colouring_walk_l2 i nb k t s.1 s.2) (nb.length : Int) 0
    (fun t st => t ≤ nb.length ∧ Bfs x c s far0 st.1 st.2 ∧ (∀ z ∈ list0, z ∈ st.2) ∧ (∀ j, j < list0.length → st.2.getD j 0 = list0.getD j 0) ∧ list0.length ≤ st.2.length ∧
      (∀ v : Nat, 0 ≤ far.getD v 0 → 0 ≤ st.1.getD v 0) ∧ ∀ a : Nat, a < t.toNat → 0 ≤ st.1.getD (nb.getD a 0).toNat 0)
    (fun r => Bfs x c s far0 r.1 r.2 ∧ (∀ z ∈ list0, z ∈ r.2) ∧ (∀ j, j < list0.length → r.2.getD j 0 = list0.getD j 0) ∧ list0.length ≤ r.2.length ∧
      (∀ v : Nat, 0 ≤ far.getD v 0 → 0 ≤ r.1.getD v 0) ∧ ∀ a : Nat, a < nb.length → 0 ≤ r.1.getD (nb.getD a 0).toNat 0) ?_ ?_ k 0 (far, list0) (by omega) (by omega)
    ⟨by omega, hb, fun z h => h, fun j h => rfl, Nat.le_refl _, fun v h => h, fun a h => by omega⟩
  · obtain ⟨r, e, h1, h2, h3, h4, h5, h6⟩ := this
    refine ⟨r.1, r.2, e, h1, h2, h3, h4, h5, fun v hv => ?_⟩
    have hm : (v : Int) ∈ nb := by rw [← hnb, pick_mem]; exact ⟨v, rfl, by have := hv.2.1; omega, by simpa using hv⟩
    obtain ⟨a, ha, e⟩ := List.getElem_of_mem hm
    have := h6 a ha
    have e2 : nb.getD a 0 = v := by simp [List.getD, ha, e]
    rw [e2] at this
    simpa using this
  · rintro k t ⟨far1, list1⟩ h0 h1 ⟨_, q1, q2, q3, q4, q5, q6⟩
    left
    obtain ⟨m, rfl⟩ := nat_of h0
    have hm : m < nb.length := by omega
    obtain ⟨p, ep, hpa⟩ := hnbm m hm
    have hi1 : (i : Int) < (list1.length : Int) := by simp only at q4; omega
    have eq1 : list1.getD i 0 = q := by have := q3 i hi; simp only at this; rw [this, hq]
    have hqm : (q : Int) ∈ list1 := by have := q2 _ (getD_mem hi); rw [hq] at this; exact this
    have hlen := q1.len
    have hlist := q1.list_len
    simp only at hlen hlist
    have hp1 : (p : Int) < (far1.length : Int) := by rw [hlen]; exact hpa.2.1
    have hq1 : (q : Int) < (far1.length : Int) := by rw [hlen]; exact hpa.1
    have hqf := (q1.mem q hqm).2.2.2
    simp only at hqf
    have hap : list1.length + 1 ≤ 1099511627776 := by omega
    by_cases hneg : far1.getD p 0 < 0
    · refine ⟨(far1.set p (far1.getD q 0 + 1), list1 ++ [(p : Int)]), ?_, by omega, q1.meet hqm hpa hneg, fun z hz => by simp [q2 z hz], ?_, by simp; simp only at q4; omega, ?_, ?_⟩
      · show impl_Colouring_walk_l2 i nb (k + 1) m far1 list1 = _
        rw [impl_Colouring_walk_l2, w64_succ h0 h1 (by omega)]
        simp only [Int.toNat_natCast, ep, eq1, h1, hi1, hp1, hq1, hneg, hap, decide_true, if_true, Int.natCast_nonneg, and_self, Option.bind_some, List.length_singleton, h0]
        rw [w64_id (by omega)]
      · intro j hj
        simp only
        rw [getD_append_left (by simp only at q4; omega)]
        exact q3 j hj
      · intro v hv
        have := q5 v hv
        simp only at this ⊢
        by_cases e : p = v
        · subst e; rw [getD_set_self (by omega)]; omega
        · rw [getD_set_ne e]; exact this
      · intro a ha
        simp only
        by_cases e : p = (nb.getD a 0).toNat
        · rw [← e, getD_set_self (by omega)]; omega
        · rw [getD_set_ne e]
          by_cases e2 : a = m
          · subst e2; rw [ep] at e; simp at e
          · exact q6 a (by omega)
    · refine ⟨(far1, list1), ?_, by omega, q1, q2, q3, q4, q5, ?_⟩
      · show impl_Colouring_walk_l2 i nb (k + 1) m far1 list1 = _
        rw [impl_Colouring_walk_l2, w64_succ h0 h1 (by omega)]
        simp only [Int.toNat_natCast, ep, h1, hp1, hneg, decide_true, decide_false, Bool.false_eq_true, if_false, if_true, Int.natCast_nonneg, and_self, Option.bind_some, h0]
      · intro a ha
        by_cases e2 : a = m
        · subst e2; rw [ep]; simp only [Int.toNat_natCast]; omega
        · exact q6 a (by omega)
  · rintro k t ⟨far1, list1⟩ h0 h1 ⟨q0, q1, q2, q3, q4, q5, q6⟩
    have : t = nb.length := by omega
    subst this
    refine ⟨(far1, list1), ?_, q1, q2, q3, q4, q5, fun a ha => q6 a (by omega)⟩
    show impl_Colouring_walk_l2 i nb (k + 1) nb.length far1 list1 = _
    rw [impl_Colouring_walk_l2]; simp

/-- A component, whole. -/
theorem walk_l1 (x : Col) (hx : 1 ≤ x.p ∧ x.p ≤ 17) (c : Int) (s : Nat) (far0 : List Int) (k : Nat) (hk : 30 ≤ k) (far list : List Int) (hb : Bfs x c s far0 far list) :
    ∃ far' list', impl_Colouring_walk_l1 k x c k 0 far list = some (far', list') ∧ Bfs x c s far0 far' list' ∧ ∀ u v : Nat, (u : Int) ∈ list' → adj x c u v → 0 ≤ far'.getD v 0 := by
  have := loopI (f := fun k' i (st : List Int × List Int) => impl_Colouring_walk_l1 k x c k' i st.1 st.2) x.p 0
    (fun i st => i ≤ x.p ∧ Bfs x c s far0 st.1 st.2 ∧ i ≤ st.2.length ∧ ∀ (j u v : Nat), j < i.toNat → st.2.getD j 0 = u → adj x c u v → 0 ≤ st.1.getD v 0)
    (fun r => Bfs x c s far0 r.1 r.2 ∧ ∀ u v : Nat, (u : Int) ∈ r.2 → adj x c u v → 0 ≤ r.1.getD v 0) ?_ ?_ k 0 (far, list) (by omega) (by omega) ⟨by omega, hb, by omega, fun j u v h => by omega⟩
  · obtain ⟨r, e, h1, h2⟩ := this
    exact ⟨r.1, r.2, e, h1, h2⟩
  · rintro k' i ⟨far1, list1⟩ h0 h1 ⟨_, q1, q2, q3⟩
    obtain ⟨m, rfl⟩ := nat_of h0
    simp only at q2
    by_cases hm : m < list1.length
    · left
      have hz := getD_mem hm
      obtain ⟨q, hq⟩ := nat_of (q1.nat _ hz)
      have hqx := (q1.mem q (by rw [← hq]; exact hz)).1
      obtain ⟨far2, list2, e, b1, b2, b3, b4, b5, b6⟩ := walk_l2 x hx c s far0 m q list1 k (by omega) far1 q1 hm hq
      refine ⟨(far2, list2), ?_, by omega, b1, by simp only; omega, ?_⟩
      · show impl_Colouring_walk_l1 k x c (k' + 1) m far1 list1 = _
        have h3 : (m : Int) < (list1.length : Int) := by omega
        rw [impl_Colouring_walk_l1, w64_succ h0 h1 (by omega)]
        simp only [Int.toNat_natCast, hq, h3, decide_true, if_true, h0, and_self]
        rw [nb_eq k x hx (by omega) c q hqx]
        simp only [Option.bind_some, e]
      · intro j u v hj hu ha
        simp only at hu ⊢
        by_cases e2 : j = m
        · subst e2
          rw [b3 j hm, hq] at hu
          have : q = u := by omega
          subst this
          exact b6 v ha
        · have hjm : j < m := by omega
          rw [b3 j (by omega)] at hu
          exact b5 v (q3 j u v (by simpa using hjm) hu ha)
    · right
      refine ⟨(far1, list1), ?_, q1, fun u v hu ha => ?_⟩
      · show impl_Colouring_walk_l1 k x c (k' + 1) m far1 list1 = _
        have h3 : ¬ (m : Int) < (list1.length : Int) := by omega
        rw [impl_Colouring_walk_l1]; simp [h3]
      · obtain ⟨j, hj, e⟩ := List.getElem_of_mem hu
        have hj' : j < list1.length := hj
        exact q3 j u v (by simp only [Int.toNat_natCast]; omega) (by simp [List.getD, hj', e]) ha
  · rintro k' i ⟨far1, list1⟩ h0 h1 ⟨q0, q1, q2, q3⟩
    have hl := q1.list_len
    simp only at hl q2
    refine ⟨(far1, list1), ?_, q1, fun u v hu ha => ?_⟩
    · show impl_Colouring_walk_l1 k x c (k' + 1) i far1 list1 = _
      have h3 : ¬ i < (list1.length : Int) := by omega
      rw [impl_Colouring_walk_l1]; simp [h3]
    · obtain ⟨j, hj, e⟩ := List.getElem_of_mem hu
      have hj' : j < list1.length := hj
      exact q3 j u v (by omega) (by simp [List.getD, hj', e]) ha

/-- The points that can be reached; the least of a component. -/
noncomputable def comp (x : Col) (c : Int) (s : Nat) : List Int := by
  classical exact pick x.p.toNat fun v => decide (Rch (adj x c) s v)
def least (x : Col) (c : Int) (v : Nat) : Prop := ∀ u, u < v → ¬ Rch (adj x c) u v
noncomputable def comps (x : Col) (c : Int) (n : Nat) : List (List Int) := by
  classical exact ((List.range n).filter fun v => decide (least x c v)).map (comp x c)

theorem repeat_mono : ∀ (k d : Nat) (i : Int) (s r : List Int), slices_Repeat_l0 k i s = some r → slices_Repeat_l0 (k + d) i s = some r
  | 0, _, _, _, _, h => by simp [slices_Repeat_l0] at h
  | k + 1, d, i, s, r, h => by
    rw [show k + 1 + d = (k + d) + 1 by omega]
    rw [slices_Repeat_l0] at h ⊢
    split
    · rename_i h1
      rw [if_pos h1] at h
      split
      · rename_i h2
        rw [if_pos h2] at h
        split
        · rename_i h3
          rw [if_pos h3] at h
          exact repeat_mono k d _ _ r h
        · rename_i h3
          rw [if_neg h3] at h; cases h
      · rename_i h2
        rw [if_neg h2] at h; cases h
    · rename_i h1
      rw [if_neg h1] at h; exact h

theorem repeat_eq (n : Nat) (h : n ≤ 17) (k : Nat) (hk : 20 ≤ k) : slices_Repeat k [-1] n = some (List.replicate n (-1)) := by
  have h1 : ∀ n : Nat, n ≤ 17 → math_bits_Mul (IntKind.u64.wrap (([(-1)] : List Int).length : Int)) (IntKind.u64.wrap (n : Int)) = (0, (n : Int)) := by decide +kernel
  have h2 : ∀ n : Nat, n ≤ 17 → slices_Repeat_l0 20 ((min ([(-1)] : List Int).length ((List.replicate (w64 (n : Int)).toNat (0 : Int)).length) : Nat) : Int) (splicedL (List.replicate (w64 (n : Int)).toNat (0 : Int)) 0 ((List.replicate (w64 (n : Int)).toNat (0 : Int)).length) [(-1)]) = some (List.replicate n (-1)) := by decide +kernel
  have h3 := repeat_mono 20 (k - 20) _ _ _ (h2 n h)
  rw [show 20 + (k - 20) = k by omega] at h3
  unfold slices_Repeat
  rw [h1 n h]
  have e1 : ¬ ((n : Int) < 0) := by omega
  have e2 : w64 (n : Int) = n := w64_id (by omega)
  have e3 : ¬ (9223372036854775807 : Int) < (n : Int) := by omega
  have e4 : (n : Int) ≤ 1099511627776 := by omega
  rw [e2] at h3
  simp only [e1, e2, e3, e4, decide_false, Bool.false_eq_true, if_false, Option.bind_some, letO, Int.lt_irrefl, Int.natCast_nonneg, Int.le_refl, and_self, if_true]
  rw [h3]
  rfl

theorem comps_succ (x : Col) (c : Int) (n : Nat) [Decidable (least x c n)] : comps x c (n + 1) = comps x c n ++ (if least x c n then [comp x c n] else []) := by
  classical
  unfold comps
  rw [List.range_succ, List.filter_append, List.map_append]
  by_cases h : least x c n <;> simp [h]

theorem comps_len (x : Col) (c : Int) (n : Nat) : (comps x c n).length ≤ n := by
  classical
  unfold comps
  rw [List.length_map]
  exact Nat.le_trans (List.length_filter_le _ _) (by simp)

/-- The program's walk. -/
theorem walk_eq (x : Col) (hx : 1 ≤ x.p ∧ x.p ≤ 17) (c : Int) (k : Nat) (hk : 40 ≤ k) : ∃ far, impl_Colouring_walk k x c = some (comps x c x.p.toNat, far) ∧ (far.length : Int) = x.p ∧ (∀ v : Nat, (v : Int) < x.p → 0 ≤ far.getD v 0) ∧
    (∀ v : Nat, (v : Int) < x.p → least x c v → far.getD v 0 = 0) ∧ (∀ χ, Two x c χ → (∀ v : Nat, (v : Int) < x.p → least x c v → χ v = 0) → ∀ v : Nat, (v : Int) < x.p → far.getD v 0 % 2 = χ v) := by
  classical
  obtain ⟨n, hn⟩ := nat_of (show 0 ≤ x.p by omega)
  unfold impl_Colouring_walk
  rw [hn, repeat_eq n (by omega) k (by omega)]
  simp only [Option.bind_some, Int.toNat_natCast]
  have := loopI (f := fun k' i (st : List Int × List (List Int)) => impl_Colouring_walk_l0 k x c k' i st.1 st.2) (n : Int) 0
    (fun i st => i ≤ n ∧ (st.1.length : Int) = n ∧ (∀ v : Nat, v < n → (0 ≤ st.1.getD v 0 ↔ ∃ u, u < i.toNat ∧ Rch (adj x c) u v)) ∧ st.2 = comps x c i.toNat ∧
      (∀ v : Nat, v < n → least x c v → 0 ≤ st.1.getD v 0 → st.1.getD v 0 = 0) ∧ (∀ χ, Two x c χ → (∀ v : Nat, v < n → least x c v → χ v = 0) → ∀ v : Nat, v < n → 0 ≤ st.1.getD v 0 → st.1.getD v 0 % 2 = χ v))
    (fun r => ((r.1.length : Int) = n ∧ (∀ v : Nat, v < n → (0 ≤ r.1.getD v 0 ↔ ∃ u, u < n ∧ Rch (adj x c) u v)) ∧ r.2 = comps x c n ∧
      (∀ v : Nat, v < n → least x c v → 0 ≤ r.1.getD v 0 → r.1.getD v 0 = 0) ∧ (∀ χ, Two x c χ → (∀ v : Nat, v < n → least x c v → χ v = 0) → ∀ v : Nat, v < n → 0 ≤ r.1.getD v 0 → r.1.getD v 0 % 2 = χ v)))
    ?_ ?_ k 0 (List.replicate n (-1), []) (by omega) (by omega) ⟨by omega, by simp, ?_, rfl, ?_, ?_⟩
  · obtain ⟨r, e, h1, h2, h3, h4, h5⟩ := this
    rw [e]
    have hv : ∀ v : Nat, v < n → 0 ≤ r.1.getD v 0 := fun v hv => (h2 v hv).2 ⟨v, hv, .refl⟩
    refine ⟨r.1, by rw [← h3]; rfl, h1, fun v h => hv v (by omega), fun v h hl => h4 v (by omega) hl (hv v (by omega)), fun χ hχ hs v h => h5 χ hχ (fun u hu => hs u (by omega)) v (by omega) (hv v (by omega))⟩
  · rintro k' i ⟨far, out⟩ h0 h1 ⟨_, q1, q2, q3, q4, q5⟩
    left
    obtain ⟨m, rfl⟩ := nat_of h0
    have hm : m < n := by omega
    simp only [Int.toNat_natCast] at q1 q2 q3 q4 q5
    have hml : (m : Int) < (far.length : Int) := by omega
    have e1 : ((m : Int) + 1).toNat = m + 1 := by omega
    have hcl := comps_len x c m
    by_cases hv : 0 ≤ far.getD m 0
    · -- met before
      obtain ⟨u, hu, hr⟩ := (q2 m hm).1 hv
      have hnl : ¬ least x c m := fun h => h u hu hr
      refine ⟨(far, out), ?_, by omega, q1, ?_, ?_, q4, q5⟩
      · show impl_Colouring_walk_l0 k x c (k' + 1) m far out = _
        rw [impl_Colouring_walk_l0, w64_succ h0 h1 (by omega), hn]
        simp only [Int.toNat_natCast, h1, hml, hv, h0, decide_true, if_true, and_self, Option.bind_some]
      · intro v hvn
        rw [e1]
        simp only
        rw [q2 v hvn]
        constructor
        · rintro ⟨w, hw, h⟩; exact ⟨w, by omega, h⟩
        · rintro ⟨w, hw, h⟩
          by_cases e : w = m
          · subst e; exact ⟨u, hu, hr.trans h⟩
          · exact ⟨w, by omega, h⟩
      · rw [e1, comps_succ, if_neg hnl]; simpa using q3
    · -- a new component
      have hlow : ∀ u, u < m → ¬ Rch (adj x c) u m := fun u hu h => hv ((q2 m hm).2 ⟨u, hu, h⟩)
      have hleast : least x c m := hlow
      have hmp : (m : Int) < x.p := by omega
      have hfar : m < far.length := by omega
      have hb0 : Bfs x c m far (far.set m 0) [(m : Int)] := by
        refine ⟨by simp; omega, by simp, fun z hz => by simp at hz; omega, fun v hv' => ?_, fun v hv' => ?_, ⟨by simp, getD_set_self hfar⟩, fun χ hχ hs v hv' => ?_⟩
        · have e : v = m := by simp at hv'; omega
          subst e
          exact ⟨hmp, .refl, by omega, by rw [getD_set_self hfar]; omega, by rw [getD_set_self hfar]; simp⟩
        · exact getD_set_ne (fun e => hv' (by simp [e]))
        · have e : v = m := by simp at hv'; omega
          subst e
          rw [getD_set_self hfar, hs]; rfl
      obtain ⟨far', list', e, b, cl⟩ := walk_l1 x hx c m far k (by omega) _ _ hb0
      have hmem : ∀ v : Nat, (v : Int) ∈ list' ↔ Rch (adj x c) m v := fun v => by
        constructor
        · intro h; exact (b.mem v h).2.1
        · intro h
          refine Rch.closed (S := fun v => (v : Int) ∈ list') (fun a d ha had => ?_) b.src.1 h
          apply Classical.byContradiction
          intro hnd
          have h1 := cl a d ha had
          rw [b.out d hnd] at h1
          obtain ⟨u, hu, hr⟩ := (q2 d (by have := had.2.1; omega)).1 h1
          have h2 := (q2 a (by have := had.1; omega)).2 ⟨u, hu, .step hr (adj_symm had)⟩
          have := (b.mem a ha).2.2.1
          omega
      have hll := b.list_len
      have hsort : sortI list' = some (comp x c m) := by
        unfold sortI
        rw [if_pos (by omega)]
        congr 1
        refine pw_ext _ _ (sorted_lt b.nd) (pick_pw _ _) fun z => ?_
        unfold sorted comp
        rw [(List.mergeSort_perm list' _).mem_iff, pick_mem]
        constructor
        · intro hz
          obtain ⟨v, rfl⟩ := nat_of (b.nat z hz)
          exact ⟨v, rfl, by have := (b.mem v hz).1; omega, by simpa using (hmem v).1 hz⟩
        · rintro ⟨v, rfl, _, h⟩
          exact (hmem v).2 (by simpa using h)
      refine ⟨(far', out ++ [comp x c m]), ?_, by omega, by rw [← hn]; exact b.len, ?_, ?_, ?_, ?_⟩
      · show impl_Colouring_walk_l0 k x c (k' + 1) m far out = _
        have hol : out.length + 1 ≤ 1099511627776 := by rw [q3]; omega
        rw [impl_Colouring_walk_l0, w64_succ h0 h1 (by omega), hn]
        simp only [Int.toNat_natCast, h1, hml, hv, h0, decide_true, decide_false, Bool.false_eq_true, if_false, if_true, and_self, Option.bind_some, e, hsort, List.length_singleton, hol]
      · intro v hvn
        rw [e1]
        simp only
        by_cases hin : (v : Int) ∈ list'
        · have h1 := (b.mem v hin).2.2.2.1
          exact ⟨fun _ => ⟨m, by omega, (hmem v).1 hin⟩, fun _ => h1⟩
        · rw [b.out v hin, q2 v hvn]
          constructor
          · rintro ⟨w, hw, h⟩; exact ⟨w, by omega, h⟩
          · rintro ⟨w, hw, h⟩
            by_cases e : w = m
            · subst e; exact absurd ((hmem v).2 h) hin
            · exact ⟨w, by omega, h⟩
      · rw [e1, comps_succ, if_pos hleast, q3]
      · intro v hvn hl h0'
        simp only at h0' ⊢
        by_cases hin : (v : Int) ∈ list'
        · have h1 := (hmem v).1 hin
          have h2 : ¬ m < v := fun h => hl m h h1
          have h3 : ¬ v < m := fun h => by
            have := (q2 v hvn).2 ⟨v, h, .refl⟩
            have := (b.mem v hin).2.2.1
            omega
          have : v = m := by omega
          subst this
          exact b.src.2
        · rw [b.out v hin] at h0' ⊢
          exact q4 v hvn hl h0'
      · intro χ hχ hs v hvn h0'
        simp only at h0' ⊢
        by_cases hin : (v : Int) ∈ list'
        · exact b.par χ hχ (hs m hm hleast) v hin
        · rw [b.out v hin] at h0' ⊢
          exact q5 χ hχ hs v hvn h0'
  · rintro k' i ⟨far, out⟩ h0 h1 ⟨q0, q1, q2, q3, q4, q5⟩
    have : i = n := by omega
    subst this
    simp only [Int.toNat_natCast] at q2 q3
    refine ⟨(far, out), ?_, q1, q2, q3, q4, q5⟩
    show impl_Colouring_walk_l0 k x c (k' + 1) n far out = _
    rw [impl_Colouring_walk_l0, hn]; simp
  · intro v hv
    have : (List.replicate n (-1 : Int)).getD v 0 = -1 := by simp [List.getD, hv]
    simp only
    rw [this]
    simp
  · intro v hv _ h
    have : (List.replicate n (-1 : Int)).getD v 0 = -1 := by simp [List.getD, hv]
    simp only at h
    rw [this] at h
    omega
  · intro χ _ _ v hv h
    have : (List.replicate n (-1 : Int)).getD v 0 = -1 := by simp [List.getD, hv]
    simp only at h
    rw [this] at h
    omega
end Go.Proofs.Ytfpcopidcagdaaa
