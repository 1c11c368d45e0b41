/- The plain law of FnExactSidesOf: the program's answer is the reference's. No conditions beyond those that each lemma states. -/
import Derived.Test.YtfpcopidcagdaaaPureConn17
import Derived.Test.YtfpcopidcagdaaaPureCore17
set_option linter.unusedVariables false
set_option linter.unusedSimpArgs false
namespace Go.Proofs.Ytfpcopidcagdaaa
open Go Go.RowKit Ab

/-- Two sides, the least point of each component on the side 0. -/
def Norm (x : Col) (c : Int) (χ : Nat → Int) : Prop := Two x c χ ∧ ∀ v : Nat, (v : Int) < x.p → least x c v → χ v = 0

/-- While the reference walks a component from s. -/
structure Sid (x : Col) (c : Int) (s : Nat) (out0 out list : List Int) : Prop where
  len : (out.length : Int) = x.p
  nd : list.Nodup
  nat : ∀ z ∈ list, 0 ≤ z
  mem : ∀ v : Nat, (v : Int) ∈ list → (v : Int) < x.p ∧ Rch (adj x c) s v ∧ out0.getD v 0 < 0 ∧ (out.getD v 0 = 0 ∨ out.getD v 0 = 1)
  oth : ∀ v : Nat, (v : Int) ∉ list → out.getD v 0 = out0.getD v 0
  src : (s : Int) ∈ list ∧ out.getD s 0 = 0
  par : ∀ χ, Two x c χ → χ s = 0 → ∀ v : Nat, (v : Int) ∈ list → out.getD v 0 = χ v

theorem Sid.list_len {x : Col} {c : Int} {s : Nat} {out0 out list : List Int} (h : Sid x c s out0 out list) : (list.length : Int) ≤ x.p := by
  have hp : 0 ≤ x.p := by have := h.len; omega
  obtain ⟨n, hn⟩ := nat_of hp
  have := nodup_len n list h.nd (fun z hz => by
    have h0 := h.nat z hz
    obtain ⟨v, rfl⟩ := nat_of h0
    exact ⟨h0, by rw [← hn]; exact (h.mem v hz).1⟩)
  omega

theorem Sid.meet {x : Col} {c : Int} {s : Nat} {out0 out list : List Int} (h : Sid x c s out0 out list) {q p : Nat} (hq : (q : Int) ∈ list) (ha : adj x c q p) (hp : out.getD p 0 < 0) :
    Sid x c s out0 (out.set p (1 - out.getD q 0)) (list ++ [(p : Int)]) := by
  have hpl : p < out.length := by have := ha.2.1; have := h.len; omega
  have hnot : (p : Int) ∉ list := fun hm => by rcases (h.mem p hm).2.2.2 with h | h <;> omega
  have hqp : p ≠ q := fun e => hnot (by rw [e]; exact hq)
  have hm := h.mem q hq
  refine ⟨by simpa using h.len, ?_, ?_, ?_, ?_, ?_, ?_⟩
  · rw [List.nodup_append]
    exact ⟨h.nd, by simp, fun a ha' b hb => by simp at hb; subst hb; intro e; subst e; exact hnot ha'⟩
  · intro z hz
    rcases List.mem_append.1 hz with hz | hz
    · exact h.nat z hz
    · simp at hz; omega
  · intro v hv
    by_cases e : p = v
    · subst e
      rw [getD_set_self hpl]
      have h1 := h.oth p hnot
      exact ⟨ha.2.1, .step hm.2.1 ha, by omega, by rcases hm.2.2.2 with h | h <;> omega⟩
    · have hv' : (v : Int) ∈ list := by
        rcases List.mem_append.1 hv with hv | hv
        · exact hv
        · simp at hv; omega
      rw [getD_set_ne e]
      exact h.mem v hv'
  · intro v hv
    have hv1 : (v : Int) ∉ list := fun hm => hv (by simp [hm])
    have hv2 : p ≠ v := fun e => hv (by simp [e])
    rw [getD_set_ne hv2]; exact h.oth v hv1
  · refine ⟨by simp [h.src.1], ?_⟩
    have : p ≠ s := fun e => hnot (by rw [e]; exact h.src.1)
    rw [getD_set_ne this]; exact h.src.2
  · intro χ hχ hs v hv
    by_cases e : p = v
    · subst e
      rw [getD_set_self hpl]
      have h1 := h.par χ hχ hs q hq
      have h2 := hχ.edge q p ha
      rcases hχ.val q with h3 | h3 <;> rcases hχ.val p with h4 | h4 <;> omega
    · have hv' : (v : Int) ∈ list := by
        rcases List.mem_append.1 hv with hv | hv
        · exact hv
        · simp at hv; omega
      rw [getD_set_ne e]; exact h.par χ hχ hs v hv'

/-- The points behind one point, by the reference. -/
theorem sides_l3 (x : Col) (hx : 1 ≤ x.p ∧ x.p ≤ 17) (c : Int) (s : Nat) (out0 : List Int) (hcl : ∀ u v : Nat, 0 ≤ out0.getD u 0 → adj x c u v → 0 ≤ out0.getD v 0) (i q : Nat) (list0 : List Int) (k : Nat) (hk : 20 ≤ k) (out : List Int) (hb : Sid x c s out0 out list0) (hi : i < list0.length) (hq : list0.getD i 0 = q) :
    ∃ r, spec_SidesOf_l3 x (rowsB x c x.p.toNat) i list0 k 0 out list0 = some r ∧ ((∃ out' list', r = .inl (out', list') ∧ Sid x c s out0 out' list' ∧ (∀ z ∈ list0, z ∈ list') ∧ (∀ j, j < list0.length → list'.getD j 0 = list0.getD j 0) ∧ list0.length ≤ list'.length ∧
      (∀ v : Nat, 0 ≤ out.getD v 0 → out'.getD v 0 = out.getD v 0) ∧ ∀ v : Nat, adj x c q v → 0 ≤ out'.getD v 0 ∧ out'.getD v 0 ≠ out'.getD q 0) ∨ (r = .inr (.inr (.inr ([], 4))) ∧ ∀ χ, Two x c χ → χ s ≠ 0)) := by
  obtain ⟨n, hn⟩ := nat_of (show 0 ≤ x.p by omega)
  have hqm0 : (q : Int) ∈ list0 := by rw [← hq]; exact getD_mem hi
  have hqx := (hb.mem q hqm0).1
  have hqn : q < n := by omega
  have hq0 := (hb.mem q hqm0).2.2.2
  have hrow : (rowsB x c n).getD q 0 = ((bitsN (fun j => decide (adj x c q j)) n : Nat) : Int) := by
    have := rowsB_get x c n q hqn
    rw [hn, Int.toNat_natCast] at this
    exact this
  have hr63 := lt63 (lt17 (bitsN_lt (fun j => decide (adj x c q j)) n) (by omega))
  rw [hn, Int.toNat_natCast]
  have := loopI (f := fun k t (st : List Int × List Int) => spec_SidesOf_l3 x (rowsB x c n) i list0 k t st.1 st.2) (n : Int) 0
    (fun t st => t ≤ n ∧ Sid x c s out0 st.1 st.2 ∧ (∀ z ∈ list0, z ∈ st.2) ∧ (∀ j, j < list0.length → st.2.getD j 0 = list0.getD j 0) ∧ list0.length ≤ st.2.length ∧
      (∀ v : Nat, 0 ≤ out.getD v 0 → st.1.getD v 0 = out.getD v 0) ∧ ∀ v : Nat, v < t.toNat → adj x c q v → 0 ≤ st.1.getD v 0 ∧ st.1.getD v 0 ≠ st.1.getD q 0)
    (fun r => (∃ out' list', r = .inl (out', list') ∧ Sid x c s out0 out' list' ∧ (∀ z ∈ list0, z ∈ list') ∧ (∀ j, j < list0.length → list'.getD j 0 = list0.getD j 0) ∧ list0.length ≤ list'.length ∧
      (∀ v : Nat, 0 ≤ out.getD v 0 → out'.getD v 0 = out.getD v 0) ∧ ∀ v : Nat, adj x c q v → 0 ≤ out'.getD v 0 ∧ out'.getD v 0 ≠ out'.getD q 0) ∨ (r = .inr (.inr (.inr ([], 4))) ∧ ∀ χ, Two x c χ → χ s ≠ 0)) ?_ ?_ k 0 (out, list0) (by omega) (by omega)
    ⟨by omega, hb, fun z h => h, fun j h => rfl, Nat.le_refl _, fun v h => rfl, fun v h => by omega⟩
  · exact this
  · rintro k t ⟨out1, list1⟩ h0 h1 ⟨_, q1, q2, q3, q4, q5, q6⟩
    obtain ⟨m, rfl⟩ := nat_of h0
    have hm : m < n := by omega
    simp only [Int.toNat_natCast] at q4 q5 q6
    have hqm : (q : Int) ∈ list1 := q2 _ hqm0
    have hlen := q1.len
    have hlist := q1.list_len
    try simp only at hlen hlist
    have hm1 : (m : Int) < (out1.length : Int) := by omega
    have hq1 : (q : Int) < (out1.length : Int) := by omega
    have hqf := (q1.mem q hqm).2.2.2
    simp only at hqf
    have hap : list1.length + 1 ≤ 1099511627776 := by omega
    have hbit := bit_eq (a := bitsN (fun j => decide (adj x c q j)) n) (i := m) hr63 (by omega)
    have htest : (bitsN (fun j => decide (adj x c q j)) n).testBit m = decide (adj x c q m) := by rw [bitsN_test]; simp [hm]
    rw [htest] at hbit
    have e0 : ((m : Int) + 1).toNat = m + 1 := by omega
    have hqr : (q : Int) < ((rowsB x c n).length : Int) := by rw [rowsB_length]; omega
    by_cases ha : adj x c q m
    · rw [if_pos (by simpa using ha)] at hbit
      by_cases he : out1.getD m 0 = out1.getD q 0
      · -- two neighbours on one side
        right
        refine ⟨_, ?_, .inr ⟨rfl, fun χ hχ hs => ?_⟩⟩
        · show spec_SidesOf_l3 x (rowsB x c n) i list0 (k + 1) m out1 list1 = _
          rw [spec_SidesOf_l3, u64_id (by omega), hn]
          simp only [Int.toNat_natCast, hq, hrow, hbit, h1, hqr, hm1, hq1, he, h0, decide_true, decide_false, Bool.false_eq_true, if_true, if_false, and_self, Int.natCast_nonneg, Option.bind_some, show ¬ ((1 : Int) = 0) by omega]
        · have hmm : (m : Int) ∈ list1 := by
            apply Classical.byContradiction
            intro hno
            have h2 := q1.oth m hno
            simp only at h2
            have h3 := hcl m q (by omega) (adj_symm ha)
            have := (q1.mem q hqm).2.2.1
            omega
          have h2 := q1.par χ hχ hs q hqm
          have h3 := q1.par χ hχ hs m hmm
          exact hχ.edge q m ha (by simp only at h2 h3; omega)
      · left
        by_cases hneg : out1.getD m 0 < 0
        · refine ⟨(out1.set m (1 - out1.getD q 0), list1 ++ [(m : Int)]), ?_, by omega, q1.meet hqm ha hneg, fun z hz => by simp [q2 z hz], ?_, by simp; omega, ?_, ?_⟩
          · show spec_SidesOf_l3 x (rowsB x c n) i list0 (k + 1) m out1 list1 = _
            rw [spec_SidesOf_l3, u64_id (by omega), hn, w64_succ h0 h1 (by omega)]
            simp only [Int.toNat_natCast, hq, hrow, hbit, h1, hqr, hm1, hq1, he, hneg, hap, h0, decide_true, decide_false, Bool.false_eq_true, if_true, if_false, and_self, Int.natCast_nonneg, Option.bind_some, show ¬ ((1 : Int) = 0) by omega, List.length_singleton]
            rw [w64_id (by rcases hqf with h | h <;> omega)]
          · intro j hj
            simp only
            rw [getD_append_left (by omega)]
            exact q3 j hj
          · intro v hv
            have := q5 v hv
            simp only at this ⊢
            by_cases e : m = v
            · subst e; omega
            · rw [getD_set_ne e]; exact this
          · intro v hv hav
            rw [e0] at hv
            simp only
            have hmq : m ≠ q := fun e => by subst e; exact ha.2.2.1 rfl
            rw [getD_set_ne hmq]
            by_cases e : m = v
            · subst e; rw [getD_set_self (by omega)]; rcases hqf with h | h <;> omega
            · rw [getD_set_ne e]; exact q6 v (by omega) hav
        · refine ⟨(out1, list1), ?_, by omega, q1, q2, q3, q4, q5, ?_⟩
          · show spec_SidesOf_l3 x (rowsB x c n) i list0 (k + 1) m out1 list1 = _
            rw [spec_SidesOf_l3, u64_id (by omega), hn, w64_succ h0 h1 (by omega)]
            simp only [Int.toNat_natCast, hq, hrow, hbit, h1, hqr, hm1, hq1, he, hneg, h0, decide_true, decide_false, Bool.false_eq_true, if_true, if_false, and_self, Int.natCast_nonneg, Option.bind_some, show ¬ ((1 : Int) = 0) by omega]
          · intro v hv hav
            rw [e0] at hv
            by_cases e : m = v
            · subst e; exact ⟨by simp only; omega, he⟩
            · exact q6 v (by omega) hav
    · rw [if_neg (by simpa using ha)] at hbit
      left
      refine ⟨(out1, list1), ?_, by omega, q1, q2, q3, q4, q5, ?_⟩
      · show spec_SidesOf_l3 x (rowsB x c n) i list0 (k + 1) m out1 list1 = _
        rw [spec_SidesOf_l3, u64_id (by omega), hn, w64_succ h0 h1 (by omega)]
        simp only [Int.toNat_natCast, hq, hrow, hbit, h1, hqr, h0, decide_true, if_true, and_self, Int.natCast_nonneg, Option.bind_some]
      · intro v hv hav
        rw [e0] at hv
        by_cases e : m = v
        · subst e; exact absurd hav ha
        · exact q6 v (by omega) hav
  · rintro k t ⟨out1, list1⟩ h0 h1 ⟨q0, q1, q2, q3, q4, q5, q6⟩
    have : t = n := by omega
    subst this
    simp only [Int.toNat_natCast] at q6
    refine ⟨_, ?_, .inl ⟨out1, list1, rfl, q1, q2, q3, q4, q5, fun v ha => q6 v (by have := ha.2.1; omega) ha⟩⟩
    show spec_SidesOf_l3 x (rowsB x c n) i list0 (k + 1) n out1 list1 = _
    rw [spec_SidesOf_l3, hn]; simp

theorem sides_l2 (x : Col) (hx : 1 ≤ x.p ∧ x.p ≤ 17) (c : Int) (s : Nat) (out0 : List Int) (hcl : ∀ u v : Nat, 0 ≤ out0.getD u 0 → adj x c u v → 0 ≤ out0.getD v 0) (k : Nat) (hk : 30 ≤ k) (out list : List Int) (hb : Sid x c s out0 out list) :
    ∃ r, spec_SidesOf_l2 k x (rowsB x c x.p.toNat) k 0 out list = some r ∧ ((∃ out' list', r = .inl out' ∧ Sid x c s out0 out' list' ∧ ∀ u v : Nat, (u : Int) ∈ list' → adj x c u v → 0 ≤ out'.getD v 0 ∧ out'.getD v 0 ≠ out'.getD u 0) ∨ (r = .inr (.inr ([], 4)) ∧ ∀ χ, Two x c χ → χ s ≠ 0)) := by
  refine loopI (f := fun k' i (st : List Int × List Int) => spec_SidesOf_l2 k x (rowsB x c x.p.toNat) k' i st.1 st.2) x.p 0
    (fun i st => i ≤ x.p ∧ Sid x c s out0 st.1 st.2 ∧ i ≤ st.2.length ∧ ∀ (j u v : Nat), j < i.toNat → st.2.getD j 0 = u → adj x c u v → 0 ≤ st.1.getD v 0 ∧ st.1.getD v 0 ≠ st.1.getD u 0)
    _ ?_ ?_ k 0 (out, list) (by omega) (by omega) ⟨by omega, hb, by omega, fun j u v h => by omega⟩
  · rintro k' i ⟨out1, list1⟩ h0 h1 ⟨_, q1, q2, q3⟩
    obtain ⟨m, rfl⟩ := nat_of h0
    simp only [Int.toNat_natCast] at q2 q3
    by_cases hm : m < list1.length
    · have hz := getD_mem hm
      obtain ⟨q, hq⟩ := nat_of (q1.nat _ hz)
      have hqm : (q : Int) ∈ list1 := by rw [← hq]; exact hz
      have h3 : (m : Int) < (list1.length : Int) := by omega
      obtain ⟨r, e, h⟩ := sides_l3 x hx c s out0 hcl m q list1 k (by omega) out1 q1 hm hq
      rcases h with ⟨out2, list2, rfl, b1, b2, b3, b4, b5, b6⟩ | ⟨rfl, hno⟩
      · left
        refine ⟨(out2, list2), ?_, by omega, b1, by simp only; omega, ?_⟩
        · show spec_SidesOf_l2 k x (rowsB x c x.p.toNat) (k' + 1) m out1 list1 = _
          rw [spec_SidesOf_l2, w64_succ h0 h1 (by omega)]
          simp only [h3, h0, decide_true, if_true, and_self, e, Option.bind_some]
        · intro j u v hj hu ha
          have e1 : ((m : Int) + 1).toNat = m + 1 := by omega
          rw [e1] at hj
          simp only at hu ⊢
          by_cases e2 : j = m
          · subst e2
            rw [b3 j hm, hq] at hu
            have : q = u := by omega
            subst this
            exact b6 v ha
          · have hjm : j < m := by omega
            rw [b3 j (by omega)] at hu
            have h4 := q3 j u v hjm hu ha
            have hum : (u : Int) ∈ list1 := by rw [← hu]; exact getD_mem (by omega)
            have h5 := (q1.mem u hum).2.2.2
            have h6 := b5 v h4.1
            have h7 := b5 u (by rcases h5 with h | h <;> simp only at h <;> omega)
            rw [h6, h7]; exact h4
      · right
        refine ⟨_, ?_, .inr ⟨rfl, hno⟩⟩
        show spec_SidesOf_l2 k x (rowsB x c x.p.toNat) (k' + 1) m out1 list1 = _
        rw [spec_SidesOf_l2]
        simp only [h3, h0, decide_true, if_true, and_self, e, Option.bind_some]
    · right
      refine ⟨_, ?_, .inl ⟨out1, list1, rfl, q1, fun u v hu ha => ?_⟩⟩
      · show spec_SidesOf_l2 k x (rowsB x c x.p.toNat) (k' + 1) m out1 list1 = _
        have h3 : ¬ (m : Int) < (list1.length : Int) := by omega
        rw [spec_SidesOf_l2]; simp [h3]
      · obtain ⟨j, hj, e⟩ := List.getElem_of_mem hu
        exact q3 j u v (by omega) (by simp [List.getD, hj, e]) ha
  · rintro k' i ⟨out1, list1⟩ h0 h1 ⟨q0, q1, q2, q3⟩
    have hl := q1.list_len
    simp only at hl q2 q3
    refine ⟨_, ?_, .inl ⟨out1, list1, rfl, q1, fun u v hu ha => ?_⟩⟩
    · show spec_SidesOf_l2 k x (rowsB x c x.p.toNat) (k' + 1) i out1 list1 = _
      have h3 : ¬ i < (list1.length : Int) := by omega
      rw [spec_SidesOf_l2]; simp [h3]
    · obtain ⟨j, hj, e⟩ := List.getElem_of_mem hu
      exact q3 j u v (by omega) (by simp [List.getD, hj, e]) ha

theorem sides_l1 (x : Col) (hx : 1 ≤ x.p ∧ x.p ≤ 17) (c : Int) (k : Nat) (hk : 40 ≤ k) :
    ∃ r, spec_SidesOf_l1 k x (rowsB x c x.p.toNat) k 0 (List.replicate x.p.toNat (-1)) = some r ∧ ((∃ out, r = .inl out ∧ (out.length : Int) = x.p ∧ (∀ v : Nat, (v : Int) < x.p → out.getD v 0 = 0 ∨ out.getD v 0 = 1) ∧ (∀ u v : Nat, adj x c u v → out.getD v 0 ≠ out.getD u 0) ∧
      (∀ v : Nat, (v : Int) < x.p → least x c v → out.getD v 0 = 0) ∧ ∀ χ, Norm x c χ → ∀ v : Nat, (v : Int) < x.p → out.getD v 0 = χ v) ∨ (r = .inr ([], 4) ∧ ∀ χ, ¬ Norm x c χ)) := by
  obtain ⟨n, hn⟩ := nat_of (show 0 ≤ x.p by omega)
  have hneg : ∀ v : Nat, v < n → (List.replicate n (-1 : Int)).getD v 0 = -1 := fun v hv => by simp [List.getD, hv]
  rw [hn, Int.toNat_natCast]
  refine loopI (f := fun k' i (st : List Int) => spec_SidesOf_l1 k x (rowsB x c n) k' i st) (n : Int) 0
    (fun i st => i ≤ n ∧ (st.length : Int) = n ∧ (∀ v : Nat, v < n → (0 ≤ st.getD v 0 ↔ ∃ u, u < i.toNat ∧ Rch (adj x c) u v)) ∧ (∀ v : Nat, v < n → 0 ≤ st.getD v 0 → st.getD v 0 = 0 ∨ st.getD v 0 = 1) ∧ (∀ u v : Nat, 0 ≤ st.getD u 0 → adj x c u v → st.getD v 0 ≠ st.getD u 0) ∧
      (∀ v : Nat, v < n → least x c v → 0 ≤ st.getD v 0 → st.getD v 0 = 0) ∧ (∀ χ, Norm x c χ → ∀ v : Nat, v < n → 0 ≤ st.getD v 0 → st.getD v 0 = χ v))
    _ ?_ ?_ k 0 (List.replicate n (-1)) (by omega) (by omega) ⟨by omega, by simp, ?_, ?_, ?_, ?_, ?_⟩
  · rintro k' i out h0 h1 ⟨_, q1, q2, q3, q4, q5, q6⟩
    obtain ⟨m, rfl⟩ := nat_of h0
    have hm : m < n := by omega
    simp only [Int.toNat_natCast] at q2
    have hml : (m : Int) < (out.length : Int) := by omega
    have e1 : ((m : Int) + 1).toNat = m + 1 := by omega
    by_cases hv : 0 ≤ out.getD m 0
    · left
      obtain ⟨u, hu, hr⟩ := (q2 m hm).1 hv
      refine ⟨out, ?_, by omega, q1, ?_, q3, q4, q5, q6⟩
      · show spec_SidesOf_l1 k x (rowsB x c n) (k' + 1) m out = _
        rw [spec_SidesOf_l1, w64_succ h0 h1 (by omega), hn]
        simp only [Int.toNat_natCast, h1, hml, hv, h0, decide_true, if_true, and_self, Option.bind_some]
      · intro v hvn
        rw [e1, q2 v hvn]
        constructor
        · rintro ⟨w, hw, h⟩; exact ⟨w, by omega, h⟩
        · rintro ⟨w, hw, h⟩
          by_cases e : w = m
          · subst e; exact ⟨u, hu, hr.trans h⟩
          · exact ⟨w, by omega, h⟩
    · have hlow : ∀ u, u < m → ¬ Rch (adj x c) u m := fun u hu h => hv ((q2 m hm).2 ⟨u, hu, h⟩)
      have hleast : least x c m := hlow
      have hmp : (m : Int) < x.p := by omega
      have hfar : m < out.length := by omega
      have hcl : ∀ u v : Nat, 0 ≤ out.getD u 0 → adj x c u v → 0 ≤ out.getD v 0 := fun u v hu ha => by
        obtain ⟨w, hw, h⟩ := (q2 u (by have := ha.1; omega)).1 hu
        exact (q2 v (by have := ha.2.1; omega)).2 ⟨w, hw, .step h ha⟩
      have hb0 : Sid x c m out (out.set m 0) [(m : Int)] := by
        refine ⟨by simp; omega, by simp, fun z hz => by simp at hz; omega, fun v hv' => ?_, fun v hv' => ?_, ⟨by simp, getD_set_self hfar⟩, fun χ hχ hs v hv' => ?_⟩
        · have e : v = m := by simp at hv'; omega
          subst e
          exact ⟨hmp, .refl, by omega, by rw [getD_set_self hfar]; omega⟩
        · exact getD_set_ne (fun e => hv' (by simp [e]))
        · have e : v = m := by simp at hv'; omega
          subst e
          rw [getD_set_self hfar, hs]
      obtain ⟨r, e, h⟩ := sides_l2 x hx c m out hcl k (by omega) _ _ hb0
      rw [hn, Int.toNat_natCast] at e
      rcases h with ⟨out', list', rfl, b, cl⟩ | ⟨rfl, hno⟩
      · left
        have hmem : ∀ v : Nat, (v : Int) ∈ list' ↔ Rch (adj x c) m v := fun v => by
          constructor
          · intro h; exact (b.mem v h).2.1
          · intro h
            refine Rch.closed (S := fun v => (v : Int) ∈ list') (fun a d ha had => ?_) b.src.1 h
            apply Classical.byContradiction
            intro hnd
            have h1 := (cl a d ha had).1
            rw [b.oth d hnd] at h1
            have h2 := hcl d a h1 (adj_symm had)
            have := (b.mem a ha).2.2.1
            omega
        have hval : ∀ v : Nat, (v : Int) ∈ list' → 0 ≤ out'.getD v 0 := fun v h => by rcases (b.mem v h).2.2.2 with h | h <;> omega
        refine ⟨out', ?_, by omega, by have := b.len; omega, ?_, ?_, ?_, ?_, ?_⟩
        · show spec_SidesOf_l1 k x (rowsB x c n) (k' + 1) m out = _
          rw [spec_SidesOf_l1, w64_succ h0 h1 (by omega), hn]
          simp only [Int.toNat_natCast, h1, hml, hv, h0, decide_true, decide_false, Bool.false_eq_true, if_false, if_true, and_self, Option.bind_some, e]
        · intro v hvn
          rw [e1]
          by_cases hin : (v : Int) ∈ list'
          · exact ⟨fun _ => ⟨m, by omega, (hmem v).1 hin⟩, fun _ => hval v hin⟩
          · rw [b.oth v hin, q2 v hvn]
            constructor
            · rintro ⟨w, hw, h⟩; exact ⟨w, by omega, h⟩
            · rintro ⟨w, hw, h⟩
              by_cases e : w = m
              · subst e; exact absurd ((hmem v).2 h) hin
              · exact ⟨w, by omega, h⟩
        · intro v hvn h0'
          by_cases hin : (v : Int) ∈ list'
          · exact (b.mem v hin).2.2.2
          · rw [b.oth v hin] at h0' ⊢; exact q3 v hvn h0'
        · intro u v hu ha
          by_cases hin : (u : Int) ∈ list'
          · exact (cl u v hin ha).2
          · have hin2 : (v : Int) ∉ list' := fun h => hin ((hmem u).2 (.step ((hmem v).1 h) (adj_symm ha)))
            rw [b.oth u hin] at hu ⊢
            rw [b.oth v hin2]
            exact q4 u v hu ha
        · intro v hvn hl h0'
          by_cases hin : (v : Int) ∈ list'
          · have h1 := (hmem v).1 hin
            have h2 : ¬ m < v := fun h => hl m h h1
            have h3 : ¬ v < m := fun h => by
              have := (q2 v hvn).2 ⟨v, h, .refl⟩
              have := (b.mem v hin).2.2.1
              omega
            have : v = m := by omega
            subst this
            exact b.src.2
          · rw [b.oth v hin] at h0' ⊢
            exact q5 v hvn hl h0'
        · intro χ hχ v hvn h0'
          by_cases hin : (v : Int) ∈ list'
          · exact b.par χ hχ.1 (hχ.2 m hmp hleast) v hin
          · rw [b.oth v hin] at h0' ⊢
            exact q6 χ hχ v hvn h0'
      · right
        refine ⟨_, ?_, .inr ⟨rfl, fun χ hχ => hno χ hχ.1 (hχ.2 m hmp hleast)⟩⟩
        show spec_SidesOf_l1 k x (rowsB x c n) (k' + 1) m out = _
        rw [spec_SidesOf_l1, hn]
        simp only [Int.toNat_natCast, h1, hml, hv, h0, decide_true, decide_false, Bool.false_eq_true, if_false, if_true, and_self, Option.bind_some, e]
  · rintro k' i out h0 h1 ⟨q0, q1, q2, q3, q4, q5, q6⟩
    have : i = n := by omega
    subst this
    simp only [Int.toNat_natCast] at q2
    have hv : ∀ v : Nat, v < n → 0 ≤ out.getD v 0 := fun v hv => (q2 v hv).2 ⟨v, hv, .refl⟩
    refine ⟨_, ?_, .inl ⟨out, rfl, q1, fun v h => q3 v (by omega) (hv v (by omega)), fun u v ha => q4 u v (hv u (by have := ha.1; omega)) ha, fun v h hl => q5 v (by omega) hl (hv v (by omega)), fun χ hχ v h => q6 χ hχ v (by omega) (hv v (by omega))⟩⟩
    show spec_SidesOf_l1 k x (rowsB x c n) (k' + 1) n out = _
    rw [spec_SidesOf_l1, hn]; simp
  · intro v hv; rw [hneg v hv]; simp
  · intro v hv h; rw [hneg v hv] at h; omega
  · intro u v hu ha
    rw [hneg u (by have := ha.1; omega)] at hu; omega
  · intro v hv _ h; rw [hneg v hv] at h; omega
  · intro χ _ v hv h; rw [hneg v hv] at h; omega

theorem fill_eq (n : Nat) (hn : n ≤ 17) (k : Nat) (hk : 20 ≤ k) : spec_SidesOf_l0 k 0 (List.replicate n 0) = some (List.replicate n (-1)) := by
  have := loopI (f := fun k t (s : List Int) => spec_SidesOf_l0 k t s) (n : Int) 0 (fun t s => t ≤ n ∧ s.length = n ∧ ∀ v : Nat, (v : Int) < t → s.getD v 0 = -1) (fun r => r = List.replicate n (-1)) ?_ ?_ k 0 (List.replicate n 0) (by omega) (by omega) ⟨by omega, by simp, fun v h => by omega⟩
  · obtain ⟨r, e, rfl⟩ := this
    exact e
  · intro k t s h0 h1 ⟨_, q1, q2⟩
    left
    obtain ⟨m, rfl⟩ := nat_of h0
    have hm : m < n := by omega
    refine ⟨s.set m (-1), ?_, by omega, by simpa using q1, fun v hv => ?_⟩
    · show spec_SidesOf_l0 (k + 1) m s = _
      rw [spec_SidesOf_l0, w64_succ h0 h1 (by omega), q1]
      simp [hm]
    · by_cases e : m = v
      · subst e; exact getD_set_self (by omega)
      · rw [getD_set_ne e]; exact q2 v (by omega)
  · intro k t s h0 h1 ⟨q0, q1, q2⟩
    have : t = n := by omega
    subst this
    refine ⟨s, ?_, ?_⟩
    · show spec_SidesOf_l0 (k + 1) n s = _
      rw [spec_SidesOf_l0, q1]; simp
    · refine List.ext_getElem (by simp [q1]) fun j h1 h2 => ?_
      have := q2 j (by omega)
      simp [List.getD, h1] at this
      simp [this]

theorem par_eq (o : List (List Int)) (far : List Int) (n : Nat) (hn : n ≤ 17) (hl : far.length = n) (hp : ∀ v : Nat, v < n → 0 ≤ far.getD v 0) (k : Nat) (hk : 20 ≤ k) :
    ∃ s, impl_SidesOf_l0 (o, far) k 0 far = some s ∧ s.length = n ∧ ∀ v : Nat, v < n → s.getD v 0 = far.getD v 0 % 2 := by
  refine loopI (f := fun k t (s : List Int) => impl_SidesOf_l0 (o, far) k t s) (n : Int) 0 (fun t s => t ≤ n ∧ s.length = n ∧ (∀ v : Nat, (v : Int) < t → s.getD v 0 = far.getD v 0 % 2) ∧ ∀ v : Nat, t ≤ v → s.getD v 0 = far.getD v 0)
    (fun s => s.length = n ∧ ∀ v : Nat, v < n → s.getD v 0 = far.getD v 0 % 2) ?_ ?_ k 0 far (by omega) (by omega) ⟨by omega, hl, fun v h => by omega, fun v h => rfl⟩
  · intro k t s h0 h1 ⟨_, q1, q2, q3⟩
    left
    obtain ⟨m, rfl⟩ := nat_of h0
    have hm : m < n := by omega
    refine ⟨s.set m (far.getD m 0 % 2), ?_, by omega, by simpa using q1, fun v hv => ?_, fun v hv => ?_⟩
    · show impl_SidesOf_l0 (o, far) (k + 1) m s = _
      have e : (s.getD m 0).tmod 2 = far.getD m 0 % 2 := by
        rw [q3 m (Int.le_refl _)]
        exact Int.tmod_eq_emod_of_nonneg (hp m hm)
      rw [impl_SidesOf_l0, w64_succ h0 h1 (by omega), q1, Int.toNat_natCast, e]
      simp [hl, hm]
    · by_cases e : m = v
      · subst e; exact getD_set_self (by omega)
      · rw [getD_set_ne e]; exact q2 v (by omega)
    · rw [getD_set_ne (by omega)]; exact q3 v (by omega)
  · intro k t s h0 h1 ⟨q0, q1, q2, q3⟩
    have : t = n := by omega
    subst this
    refine ⟨s, ?_, q1, fun v hv => q2 v (by omega)⟩
    show impl_SidesOf_l0 (o, far) (k + 1) n s = _
    rw [impl_SidesOf_l0]; simp [hl]

open Classical in
theorem check_l2 (x : Col) (hx : 1 ≤ x.p ∧ x.p ≤ 17) (c : Int) (s : List Int) (hs : (s.length : Int) = x.p) (q : Nat) (hq : (q : Int) < x.p) (k : Nat) (hk : 20 ≤ k) :
    impl_SidesOf_l2 s q (pick x.p.toNat fun j => decide (adj x c q j)) k 0 = some (if ∀ v : Nat, adj x c q v → s.getD q 0 ≠ s.getD v 0 then .inl () else .inr (.inr (none, 4))) := by
  obtain ⟨nb, hnb⟩ : ∃ nb, pick x.p.toNat (fun j => decide (adj x c q j)) = nb := ⟨_, rfl⟩
  have hnbm : ∀ t : Nat, t < nb.length → ∃ v : Nat, nb.getD t 0 = v ∧ adj x c q v := fun t ht => by
    have := getD_mem ht
    rw [← hnb, pick_mem] at this
    obtain ⟨v, e, _, h⟩ := this
    exact ⟨v, by rw [← hnb]; exact e, by simpa using h⟩
  have hnbl : nb.length ≤ x.p.toNat := by rw [← hnb]; exact pick_length _ _
  rw [hnb]
  have := loopAll (f := fun k t => impl_SidesOf_l2 s q nb k t) (nb.length : Int) (.inr (none, 4)) (fun t => s.getD q 0 ≠ s.getD (nb.getD t.toNat 0).toNat 0) 0
    (fun k t h0 h1 hQ => by
      show impl_SidesOf_l2 s q nb (k + 1) t = _
      obtain ⟨m, rfl⟩ := nat_of h0
      obtain ⟨v, ev, hv⟩ := hnbm m (by omega)
      have hvx := hv.2.1
      rw [impl_SidesOf_l2, w64_succ h0 h1 (by omega), hs]
      simp only [Int.toNat_natCast, ev] at hQ ⊢
      simp only [h1, hq, hvx, hQ, decide_true, decide_false, Bool.false_eq_true, if_false, if_true, Int.natCast_nonneg, and_self])
    (fun k t h0 h1 hQ => by
      show impl_SidesOf_l2 s q nb (k + 1) t = _
      obtain ⟨m, rfl⟩ := nat_of h0
      obtain ⟨v, ev, hv⟩ := hnbm m (by omega)
      have hvx := hv.2.1
      have hQ' : s.getD q 0 = s.getD v 0 := by
        apply Classical.byContradiction
        intro h
        apply hQ
        simp only [Int.toNat_natCast, ev]
        exact h
      rw [impl_SidesOf_l2, hs]
      simp only [Int.toNat_natCast, ev]
      simp only [h1, hq, hvx, hQ', decide_true, if_true, Int.natCast_nonneg, and_self, Option.bind_some])
    (fun k t h1 => by
      show impl_SidesOf_l2 s q nb (k + 1) t = _
      rw [impl_SidesOf_l2]
      have : ¬ t < (nb.length : Int) := by omega
      simp [this]) k 0 (by omega) (by omega)
  rw [this]
  have hiff : (∀ j : Int, 0 ≤ j → j < nb.length → s.getD q 0 ≠ s.getD (nb.getD j.toNat 0).toNat 0) ↔ ∀ v : Nat, adj x c q v → s.getD q 0 ≠ s.getD v 0 := by
    constructor
    · intro h v hv
      have hm : (v : Int) ∈ nb := by rw [← hnb, pick_mem]; exact ⟨v, rfl, by have := hv.2.1; omega, by simpa using hv⟩
      obtain ⟨a, ha, e⟩ := List.getElem_of_mem hm
      have := h a (by omega) (by omega)
      have e2 : nb.getD a 0 = v := by simp [List.getD, ha, e]
      rw [Int.toNat_natCast, e2, Int.toNat_natCast] at this
      exact this
    · intro h j h0 h1
      obtain ⟨m, rfl⟩ := nat_of h0
      obtain ⟨v, ev, hv⟩ := hnbm m (by omega)
      rw [Int.toNat_natCast, ev, Int.toNat_natCast]
      exact h v hv
  simp only [hiff]

open Classical in
theorem check_l1 (x : Col) (hx : 1 ≤ x.p ∧ x.p ≤ 17) (c : Int) (s : List Int) (hs : (s.length : Int) = x.p) (k : Nat) (hk : 30 ≤ k) :
    impl_SidesOf_l1 k x c s k 0 = some (if ∀ u v : Nat, adj x c u v → s.getD u 0 ≠ s.getD v 0 then .inl () else .inr (none, 4)) := by
  have := loopAll (f := fun k' t => impl_SidesOf_l1 k x c s k' t) x.p (none, 4) (fun t => ∀ v : Nat, adj x c t.toNat v → s.getD t.toNat 0 ≠ s.getD v 0) 0
    (fun k' t h0 h1 hQ => by
      show impl_SidesOf_l1 k x c s (k' + 1) t = _
      obtain ⟨m, rfl⟩ := nat_of h0
      rw [impl_SidesOf_l1, w64_succ h0 h1 (by omega), nb_eq k x hx (by omega) c m h1]
      simp only [Int.toNat_natCast] at hQ
      simp only [h1, decide_true, if_true, Option.bind_some]
      rw [check_l2 x hx c s hs m h1 k (by omega), if_pos hQ]
      rfl)
    (fun k' t h0 h1 hQ => by
      show impl_SidesOf_l1 k x c s (k' + 1) t = _
      obtain ⟨m, rfl⟩ := nat_of h0
      rw [impl_SidesOf_l1, nb_eq k x hx (by omega) c m h1]
      simp only [Int.toNat_natCast] at hQ
      simp only [h1, decide_true, if_true, Option.bind_some]
      rw [check_l2 x hx c s hs m h1 k (by omega), if_neg hQ]
      rfl)
    (fun k' t h1 => by
      show impl_SidesOf_l1 k x c s (k' + 1) t = _
      rw [impl_SidesOf_l1]
      have : ¬ t < x.p := by omega
      simp [this]) k 0 (by omega) (by omega)
  rw [this]
  have hiff : (∀ j : Int, 0 ≤ j → j < x.p → ∀ v : Nat, adj x c j.toNat v → s.getD j.toNat 0 ≠ s.getD v 0) ↔ ∀ u v : Nat, adj x c u v → s.getD u 0 ≠ s.getD v 0 :=
    ⟨fun h u v ha => by have := h u (by omega) ha.1 v; simpa using this ha, fun h j h0 h1 v ha => h _ v ha⟩
  simp only [hiff]

theorem sides_same (x : Col) (hx : x.is) (c : Int) (k : Nat) (hk : 200 ≤ k) : ∃ (o : Option (List Int)) (e : Int), ((spec_SidesOf_l1 k x (rowsB x c x.p.toNat) k 0 (List.replicate x.p.toNat (-1)) : Option (Sum (List Int) (List Int × Int))).bind fun os39 => (match os39 with | .inl s39 => some (s39, 0) | .inr rr => some rr)) = some (o.getD [], e) ∧
    ((impl_Colouring_walk k x c).bind fun r3 => (impl_SidesOf_l0 r3 k 0 r3.2 : Option (List Int)).bind fun s9 => (impl_SidesOf_l1 k x c s9 k 0 : Option (Sum (Unit) (Option (List Int) × Int))).bind fun os20 => (match os20 with | .inl s20 => some (some s9, 0) | .inr rr => some rr)) = some (o, e) ∧ (o.getD []).length ≤ 17 ∧ ((o = none ∧ e ≠ 0) ∨ (e = 0 ∧ ∃ out, o = some out ∧ (out.length : Int) = x.p ∧ ∀ a b : Nat, adj x c a b → out.getD a 0 ≠ out.getD b 0)) := by
  classical
  have hp := hx.1
  obtain ⟨n, hn⟩ := nat_of (show 0 ≤ x.p by omega)
  obtain ⟨far, ew, w1, w2, w3, w4⟩ := walk_eq x hp c k (by omega)
  obtain ⟨s, es, s1, s2⟩ := par_eq (comps x c x.p.toNat) far n (by omega) (by omega) (fun v hv => w2 v (by omega)) k (by omega)
  obtain ⟨r, er, hr⟩ := sides_l1 x hp c k (by omega)
  rw [ew]
  simp only [Option.bind_some, es, er]
  rw [check_l1 x hp c s (by omega) k (by omega)]
  rcases hr with ⟨out, rfl, o1, o2, o3, o4, o5⟩ | ⟨rfl, hno⟩
  · -- there are two sides
    have hN : Norm x c (fun v => if (v : Int) < x.p then out.getD v 0 else 0) := by
      refine ⟨⟨fun v => ?_, fun a b hab => ?_⟩, fun v hv hl => ?_⟩
      · by_cases hv : (v : Int) < x.p
        · rw [if_pos hv]; exact o2 v hv
        · rw [if_neg hv]; exact .inl rfl
      · rw [if_pos hab.1, if_pos hab.2.1]
        exact (o3 a b hab).symm
      · show (if (v : Int) < x.p then out.getD v 0 else 0) = 0
        rw [if_pos hv]; exact o4 v hv hl
    have hsame : ∀ v : Nat, v < n → s.getD v 0 = out.getD v 0 := fun v hv => by
      rw [s2 v hv, w4 _ hN.1 hN.2 v (by omega), if_pos (by omega)]
    have hso : s = out := List.ext_getElem (by omega) fun j h1 h2 => by
      have := hsame j (by omega)
      simpa [List.getD, h1, h2] using this
    rw [if_pos (fun u v ha => by rw [hso]; exact (o3 u v ha).symm)]
    exact ⟨some out, 0, rfl, by rw [hso]; rfl, by simp; omega, .inr ⟨rfl, out, rfl, by omega, fun a b hab => (o3 a b hab).symm⟩⟩
  · rw [if_neg (fun hall => by
      refine hno (fun v => if (v : Int) < x.p then s.getD v 0 else 0) ⟨⟨fun v => ?_, fun a b hab => ?_⟩, fun v hv hl => ?_⟩
      · by_cases hv : (v : Int) < x.p
        · rw [if_pos hv, s2 v (by omega)]; omega
        · rw [if_neg hv]; exact .inl rfl
      · rw [if_pos hab.1, if_pos hab.2.1]
        exact hall a b hab
      · show (if (v : Int) < x.p then s.getD v 0 else 0) = 0
        rw [if_pos hv, s2 v (by omega), w3 v hv hl]; rfl)]
    exact ⟨none, 4, rfl, rfl, by simp, .inl ⟨rfl, by decide⟩⟩
end Go.Proofs.Ytfpcopidcagdaaa
