/- Plain laws: extensions by degree, their number, the first one, lists, closed colourings: both sides. No conditions beyond those that each lemma states. -/
import Derived.Test.YtjcgphgipleccaaGreatPureExtC26
set_option linter.unusedVariables false
set_option linter.unusedSimpArgs false
namespace Go.Proofs.YtjcgphgipleccaaGreat
open Go Go.RowKit Ab

/-! ### Codes -/
open Classical in
noncomputable def eC (x : Col) (sizes : List Int) : Int := if x.is then (if szOK x sizes then 0 else 2) else 1
open Classical in
noncomputable def eS (x : Col) (sizes : List Int) (lim : Int) : Int := if eC x sizes = 0 then (if avoidsP x sizes then (if lim < x.p then 3 else 0) else 5) else eC x sizes

theorem eC_zero {x : Col} {sizes : List Int} (h : eC x sizes = 0) : x.is ∧ szOK x sizes := by
  unfold eC at h
  split at h
  · split at h
    · exact ⟨by assumption, by assumption⟩
    · omega
  · omega
theorem eS_zero {x : Col} {sizes : List Int} {lim : Int} (h : eS x sizes lim = 0) : x.is ∧ szOK x sizes ∧ avoidsP x sizes ∧ x.p ≤ lim := by
  unfold eS at h
  split at h
  · rename_i h0
    obtain ⟨h1, h2⟩ := eC_zero h0
    split at h
    · split at h
      · omega
      · exact ⟨h1, h2, by assumption, by omega⟩
    · omega
  · exact absurd h (by assumption)
theorem is_range {x : Col} (h : x.is) : (1 ≤ x.p ∧ x.p ≤ 17) ∧ 1 ≤ x.k ∧ x.k ≤ 4 := ⟨h.1, h.2.1⟩

theorem specSizes_val (sizes : List Int) (K : Int) (k : Nat) (hk : sizes.length + 1 ≤ k) (hl : sizes.length ≤ 1000) : spec_l05Sizes k sizes K = some (if (sizes.length : Int) = K ∧ ∀ z ∈ sizes, 1 ≤ z ∧ z ≤ 17 then 0 else 2) := by
  classical
  unfold spec_l05Sizes
  by_cases h : (sizes.length : Int) = K
  · rw [if_neg (by simpa using h), loopAll (f := fun k' i => spec_l05Sizes_l0 sizes k' i) (sizes.length : Int) 2 (fun i => 1 ≤ sizes.getD i.toNat 0 ∧ sizes.getD i.toNat 0 ≤ 17) 0 ?_ ?_ ?_ k 0 (by omega) (by omega), Option.bind_some]
    · by_cases hq : ∀ z ∈ sizes, 1 ≤ z ∧ z ≤ 17
      · rw [if_pos, if_pos ⟨h, hq⟩]
        exact fun j h0 h1 => hq _ (mem_getD.2 ⟨j.toNat, by omega, rfl⟩)
      · rw [if_neg, if_neg (fun q => hq q.2)]
        intro h2
        refine hq fun z hz => ?_
        obtain ⟨a, h3, h4⟩ := mem_getD.1 hz
        have := h2 a (by omega) (by omega)
        rw [Int.toNat_natCast, h4] at this
        exact this
    all_goals intro k' i h0
    · intro h1 hq
      show spec_l05Sizes_l0 sizes (k' + 1) i = _
      rw [spec_l05Sizes_l0, if_pos (decide_eq_true h1), if_pos ⟨h0, h1⟩, specIn_eq, decide_eq_true hq, if_neg (by simp), w64_succ h0 h1 (by omega)]
    · intro h1 hq
      show spec_l05Sizes_l0 sizes (k' + 1) i = _
      rw [spec_l05Sizes_l0, if_pos (decide_eq_true h1), if_pos ⟨h0, h1⟩, specIn_eq, decide_eq_false hq, if_pos (by simp)]
    · show spec_l05Sizes_l0 sizes (k' + 1) i = _
      rw [spec_l05Sizes_l0, if_neg (by simp only [decide_eq_true_eq]; omega)]
  · rw [if_pos (by simpa using h), if_neg (fun q => h q.1)]

theorem specCode_val {k : Nat} (hk : 5000 ≤ k) (x : Col) (sizes : List Int) (hl : sizes.length ≤ 1000) : spec_l05Code k x sizes = some (eC x sizes) := by
  classical
  unfold spec_l05Code eC
  rw [specIs_eq k (by omega), Option.bind_some]
  by_cases h : x.is
  · rw [if_neg (by simpa using h), specSizes_val sizes x.k k (by omega) hl, if_pos h]
    by_cases h2 : szOK x sizes
    · rw [if_pos h2, if_pos (show (sizes.length : Int) = x.k ∧ ∀ z ∈ sizes, 1 ≤ z ∧ z ≤ 17 from h2)]; rfl
    · rw [if_neg h2, if_neg (show ¬ ((sizes.length : Int) = x.k ∧ ∀ z ∈ sizes, 1 ≤ z ∧ z ≤ 17) from h2)]; rfl
  · rw [if_pos (by simpa using h), if_neg h]

theorem whole_all (x : Col) (hp : 1 ≤ x.p ∧ x.p ≤ 17) : w64 ((bShl .i64 1 (IntKind.u64.wrap x.p)) - 1) = ((2 ^ x.p.toNat - 1 : Nat) : Int) ∧ 2 ^ x.p.toNat - 1 < 2 ^ x.p.toNat ∧ (0 : Int) ≤ IntKind.u64.wrap x.p := by
  obtain ⟨n, hn⟩ := nat_of (show 0 ≤ x.p by omega)
  have h2 : 2 ^ n < 2 ^ 18 := Nat.pow_lt_pow_right (by omega) (by omega)
  have h0 : 0 < 2 ^ n := Nat.two_pow_pos n
  rw [u64_id (by omega), hn, bShl_one (by omega)]
  simp only [Int.toNat_natCast]
  refine ⟨?_, by omega, by omega⟩
  rw [w64_id (by omega)]; omega

theorem specAvoids_val {k : Nat} (hk : 5000 ≤ k) (x : Col) (hp : 1 ≤ x.p ∧ x.p ≤ 17) (sizes : List Int) (h : szOK x sizes) (hk4 : 1 ≤ x.k ∧ x.k ≤ 4) : ∃ b, spec_l05Avoids k x sizes = some b ∧ (b = true ↔ avoidsP x sizes) := by
  classical
  obtain ⟨w1, w2, w3⟩ := whole_all x hp
  unfold spec_l05Avoids
  have hval : ∀ c : Nat, (c : Int) < x.k → spec_l03Clique k x c (w64 ((bShl .i64 1 (IntKind.u64.wrap x.p)) - 1)) (sizes.getD c 0) = some (decide (cl (aB x c) (sizes.getD c 0).toNat (pts x) ≠ [])) := fun c hc => by
    obtain ⟨z1, z2, _⟩ := sz_get h hc
    obtain ⟨m, hm⟩ : ∃ m : Nat, sizes.getD c 0 = m := ⟨(sizes.getD c 0).toNat, by omega⟩
    rw [w1, hm, clique3_val x hp c m _ k w2 (by omega), mem_all, Int.toNat_natCast]
    rfl
  rw [loopAll (f := fun k' i => spec_l05Avoids_l0 k x sizes k' i) x.k false (fun i => cl (aB x i) (sizes.getD i.toNat 0).toNat (pts x) = []) 0 ?_ ?_ ?_ k 0 (by omega) (by omega), Option.bind_some]
  · by_cases hq : avoidsP x sizes
    · refine ⟨true, ?_, by simp [hq]⟩
      rw [if_pos]
      intro j h0 h1
      have := hq j.toNat (by have := h.1; omega)
      rw [show ((j.toNat : Nat) : Int) = j by omega] at this
      exact this
    · refine ⟨false, ?_, by simp [hq]⟩
      rw [if_neg]
      intro h2
      refine hq fun c hc => ?_
      have := h2 c (by omega) (by have := h.1; omega)
      rw [Int.toNat_natCast] at this
      exact this
  all_goals intro k' i h0
  · intro h1 hq
    obtain ⟨c, rfl⟩ : ∃ c : Nat, i = c := ⟨i.toNat, by omega⟩
    show spec_l05Avoids_l0 k x sizes (k' + 1) c = _
    rw [Int.toNat_natCast] at hq
    rw [spec_l05Avoids_l0, if_pos (decide_eq_true h1), if_pos w3, if_pos ⟨h0, by have := h.1; omega⟩, Int.toNat_natCast, hval c h1, Option.bind_some, if_neg (by rw [hq]; simp), w64_succ h0 h1 (by omega)]
  · intro h1 hq
    obtain ⟨c, rfl⟩ : ∃ c : Nat, i = c := ⟨i.toNat, by omega⟩
    show spec_l05Avoids_l0 k x sizes (k' + 1) c = _
    rw [Int.toNat_natCast] at hq
    rw [spec_l05Avoids_l0, if_pos (decide_eq_true h1), if_pos w3, if_pos ⟨h0, by have := h.1; omega⟩, Int.toNat_natCast, hval c h1, Option.bind_some, if_pos (decide_eq_true hq)]
  · show spec_l05Avoids_l0 k x sizes (k' + 1) i = _
    rw [spec_l05Avoids_l0, if_neg (by simp only [decide_eq_true_eq]; omega)]

theorem specSmall_val {k : Nat} (hk : 5000 ≤ k) (x : Col) (sizes : List Int) (hl : sizes.length ≤ 1000) : spec_l05Small k x sizes = some (eS x sizes 12) := by
  classical
  unfold spec_l05Small spec_l05Given
  rw [specCode_val hk x sizes hl, Option.bind_some]
  unfold eS
  by_cases h : eC x sizes = 0
  · obtain ⟨hi, hz⟩ := eC_zero h
    obtain ⟨hp, hk4⟩ := is_range hi
    obtain ⟨b, e, hb⟩ := specAvoids_val hk x hp sizes hz hk4
    rw [if_pos (decide_eq_true h), e, if_pos h]
    cases b with
    | true =>
      rw [if_pos (hb.1 rfl), h]
      by_cases h12 : 12 < x.p
      · simp [letO, h12]
      · simp [letO, h12]
    | false =>
      rw [if_neg (fun q => by have := hb.2 q; cases this)]
      simp [letO]
  · rw [if_neg (by simpa using h), if_neg h]
    simp [letO, h]

theorem implExt_val {k : Nat} (hk : 5000 ≤ k) (x : Col) (sizes : List Int) (hl : sizes.length ≤ 1000) (lim : Int) : impl_Colouring_extendingCode k x sizes (some true) lim = some (eS x sizes lim) := by
  classical
  unfold impl_Colouring_extendingCode eS eC
  obtain ⟨s1, s2⟩ := sizesCode_val hk x sizes hl true
  by_cases h : x.is
  · obtain ⟨hp, hk4⟩ := is_range h
    by_cases h2 : szOK x sizes
    · have e1 : impl_Colouring_sizesCode k x sizes (some true) = some 0 := by rw [s2 h, if_pos ⟨h2, rfl⟩]
      rw [e1, Option.bind_some, if_neg (by simp), if_pos h, if_pos h2, if_pos rfl, avoids_loop hk x hp sizes h2.2 hl, Option.bind_some]
      by_cases h3 : avoidsP x sizes
      · rw [if_neg (by simpa using h3), if_pos h3]
        by_cases h4 : lim < x.p
        · rw [if_pos (decide_eq_true h4), if_pos h4]
        · rw [if_neg (by simpa using h4), if_neg h4]
      · rw [if_pos (by simpa using h3), if_neg h3]
    · have e1 : impl_Colouring_sizesCode k x sizes (some true) = some 2 := by rw [s2 h, if_neg (fun q => h2 q.1)]
      rw [e1, Option.bind_some, if_pos (by simp), if_pos h, if_neg h2, if_neg (by omega)]
  · rw [s1 h, Option.bind_some, if_pos (by simp), if_neg h, if_neg (by omega)]

/-! ### All extensions -/
def EX (x : Col) (sizes : List Int) : List (List Int) := exts x.k.toNat (okX x sizes) x.p.toNat []

theorem no_one {x : Col} {sizes : List Int} (hp : 1 ≤ x.p) (h : avoidsP x sizes) : ∀ z ∈ sizes, z ≠ 1 := by
  intro z hz e
  obtain ⟨c, h1, h2⟩ := mem_getD.1 hz
  have := h c h1
  rw [h2, e, show (1 : Int).toNat = 0 + 1 from rfl] at this
  unfold pts at this
  rw [ir_next (by omega : 0 < x.p.toNat), cl_cons, cl_zero] at this
  simp at this

theorem all_val {k : Nat} (hk : 5000 ≤ k) {x : Col} (hp : 1 ≤ x.p ∧ x.p ≤ 17) (hk4 : 1 ≤ x.k ∧ x.k ≤ 4) {sizes : List Int} (h : szOK x sizes) (h1 : ∀ z ∈ sizes, z ≠ 1) (most : Nat) (hm : 1 ≤ most) (hm2 : most ≤ 2097152) :
    spec_l05All k x sizes most = some ((EX x sizes).take most) := by
  unfold spec_l05All
  have hl4 := h.1
  rw [loopAll (f := fun k' i => spec_l05All_l0 sizes k' i) (sizes.length : Int) [] (fun i => sizes.getD i.toNat 0 ≠ 1) 0 ?_ ?_ ?_ k 0 (by omega) (by omega), Option.bind_some, if_pos]
  · dsimp only
    rw [if_pos ⟨by omega, by omega, by omega⟩]
    have hs0 : setsOK x [] (List.replicate x.k.toNat (0 : Int)) := ⟨by simp; omega, fun c hc => by
      rw [setN_nil]
      simp [List.getD, List.getElem?_replicate, show c < x.k.toNat by omega]⟩
    rw [search_val hp (by omega) h x.p.toNat [] _ most k (by simp) hs0 hm hm2 (by omega)]
    rfl
  · exact fun j h0 h2 => h1 _ (mem_getD.2 ⟨j.toNat, by omega, rfl⟩)
  all_goals intro k' i h0
  · intro h2 hq
    show spec_l05All_l0 sizes (k' + 1) i = _
    rw [spec_l05All_l0, if_pos (decide_eq_true h2), if_pos ⟨h0, h2⟩, if_neg (by simpa using hq), w64_succ h0 h2 (by omega)]
  · intro h2 hq
    show spec_l05All_l0 sizes (k' + 1) i = _
    rw [spec_l05All_l0, if_pos (decide_eq_true h2), if_pos ⟨h0, h2⟩, if_pos (decide_eq_true (Classical.not_not.1 hq))]
  · show spec_l05All_l0 sizes (k' + 1) i = _
    rw [spec_l05All_l0, if_neg (by simp only [decide_eq_true_eq]; omega)]

/-! ### Numbers by degree -/
def DG (x : Col) (sizes : List Int) : List Int := (runT cbD (EX x sizes) (List.replicate (x.p.toNat + 1) 0)).2

theorem cbD_val (x : Col) (hp : 1 ≤ x.p ∧ x.p ≤ 16) (k : Nat) (cs s : List Int) (hk : 100 ≤ k) (hcs : cs.length = 17) (hs : s.length = x.p.toNat + 1) :
    impl_ExtensionsByDegree_c1 k cs x.p.toNat s = some ((cbD (cs.take x.p.toNat) s).1, cs, (cbD (cs.take x.p.toNat) s).2) := by
  unfold impl_ExtensionsByDegree_c1
  have hlen : (cs.take x.p.toNat).length = x.p.toNat := by simp; omega
  have hcl := List.count_le_length (a := (0 : Int)) (l := cs.take x.p.toNat)
  have := loopI (f := fun k' j (c : Int) => impl_ExtensionsByDegree_c1_l0 cs x.p.toNat k' c j) (x.p.toNat : Int) 0 (fun j c => j ≤ x.p.toNat ∧ c = (((cs.take j.toNat).count 0 : Nat) : Int)) (fun r => r = (((cs.take x.p.toNat).count 0 : Nat) : Int)) ?_ ?_ k 0 0 (by omega) (by omega) ⟨by omega, by simp⟩
  · obtain ⟨r, e, rfl⟩ := this
    rw [e, Option.bind_some, if_pos ⟨by omega, by omega⟩, if_pos ⟨by omega, by omega⟩, Int.toNat_natCast]
    rfl
  · rintro k' j c h0 h1 ⟨q1, rfl⟩
    left
    obtain ⟨i, rfl⟩ : ∃ i : Nat, j = i := ⟨j.toNat, by omega⟩
    refine ⟨_, ?_, by omega, rfl⟩
    show impl_ExtensionsByDegree_c1_l0 cs x.p.toNat (k' + 1) _ i = _
    have hcl2 := List.count_le_length (a := (0 : Int)) (l := cs.take i)
    have hl2 : (cs.take i).length ≤ 17 := by simp; omega
    rw [impl_ExtensionsByDegree_c1_l0, if_pos (decide_eq_true h1), if_pos ⟨h0, h1, by omega⟩, w64_succ h0 h1 (by omega), Int.toNat_natCast, Nat.zero_add, show ((i : Int) + 1).toNat = i + 1 by omega]
    have hi : i < cs.length := by omega
    rw [List.take_succ_eq_append_getElem hi, List.count_append]
    have hg : cs.getD i 0 = cs[i] := by simp [hi]
    rw [hg]
    by_cases e : cs[i] = 0
    · rw [if_pos (decide_eq_true e), Option.bind_some, w64_id (by omega), e]
      simp
    · rw [if_neg (by simpa using e), Option.bind_some]
      have : List.count 0 [cs[i]] = 0 := by rw [List.count_singleton]; simp [e]
      rw [this]
      simp
  · rintro k' j c h0 h1 ⟨q1, rfl⟩
    refine ⟨(((cs.take x.p.toNat).count 0 : Nat) : Int), ?_, rfl⟩
    show impl_ExtensionsByDegree_c1_l0 cs x.p.toNat (k' + 1) _ j = _
    rw [impl_ExtensionsByDegree_c1_l0, if_neg (by simp only [decide_eq_true_eq]; omega), show j.toNat = x.p.toNat by omega]

theorem deg_val {k : Nat} (hk : 5000 ≤ k) (x : Col) (sizes : List Int) (hl : sizes.length ≤ 1000) : ∃ o, impl_ExtensionsByDegree k x sizes = some (o, eS x sizes 12) ∧ spec_ExtensionsByDegree k x sizes = some (o.getD [], eS x sizes 12) ∧
    (eS x sizes 12 = 0 → o = some (DG x sizes) ∧ spec_l05Degrees k x sizes = some (DG x sizes)) ∧ (o.getD []).length ≤ 100 ∧ (eS x sizes 12 ≠ 0 → o = none) := by
  unfold impl_ExtensionsByDegree spec_ExtensionsByDegree impl_always
  rw [implExt_val hk x sizes hl 12, specSmall_val hk x sizes hl, Option.bind_some, Option.bind_some]
  by_cases h : eS x sizes 12 = 0
  · obtain ⟨hi, hz, ha, h12⟩ := eS_zero h
    obtain ⟨hp, hk4⟩ := is_range hi
    have hw : w64 (x.p + 1) = x.p + 1 := w64_id (by omega)
    have hdl : (DG x sizes).length = x.p.toNat + 1 := by unfold DG; rw [runD_len]; simp
    have hspec : spec_l05Degrees k x sizes = some (DG x sizes) := by
      unfold spec_l05Degrees
      have hl4 := hz.1
      have h1 := no_one hp.1 ha
      rw [hw, if_pos ⟨by omega, by omega, by omega⟩, loopAll (f := fun k' i => spec_l05Degrees_l0 x sizes k' i) (sizes.length : Int) (List.replicate (x.p + 1).toNat (0 : Int)) (fun i => sizes.getD i.toNat 0 ≠ 1) 0 ?_ ?_ ?_ k 0 (by omega) (by omega), Option.bind_some, if_pos]
      · dsimp only
        rw [if_pos ⟨by omega, by omega, by omega⟩]
        have hs0 : setsOK x [] (List.replicate x.k.toNat (0 : Int)) := ⟨by simp; omega, fun c hc => by
          rw [setN_nil]
          simp [List.getD, List.getElem?_replicate, show c < x.k.toNat by omega]⟩
        have := countD_val hp hk4 hz x.p.toNat [] _ (List.replicate (x.p + 1).toNat (0 : Int)) k (by simp) hs0 (by simp; omega) (by omega)
        rw [show ((([] : List Int).length : Nat) : Int) = 0 from rfl] at this
        rw [this, show (x.p + 1).toNat = x.p.toNat + 1 by omega]
        rfl
      · exact fun j h0 h2 => h1 _ (mem_getD.2 ⟨j.toNat, by omega, rfl⟩)
      all_goals intro k' i h0
      · intro h2 hq
        show spec_l05Degrees_l0 x sizes (k' + 1) i = _
        rw [spec_l05Degrees_l0, if_pos (decide_eq_true h2), if_pos ⟨h0, h2⟩, if_neg (by simpa using hq), w64_succ h0 h2 (by omega)]
      · intro h2 hq
        show spec_l05Degrees_l0 x sizes (k' + 1) i = _
        rw [spec_l05Degrees_l0, if_pos (decide_eq_true h2), if_pos ⟨h0, h2⟩, if_pos (decide_eq_true (Classical.not_not.1 hq)), hw]
      · show spec_l05Degrees_l0 x sizes (k' + 1) i = _
        rw [spec_l05Degrees_l0, if_neg (by simp only [decide_eq_true_eq]; omega)]
    refine ⟨some (DG x sizes), ?_, ?_, fun _ => ⟨rfl, hspec⟩, by simp only [Option.getD_some]; omega, fun q => absurd h q⟩
    · rw [h, if_neg (by simp), hw, if_pos ⟨by omega, by omega, by omega⟩]
      unfold impl_Colouring_extend_on_ExtensionsByDegree_c1
      obtain ⟨cs', _, _, e, _⟩ := run_ExtensionsByDegree_c1 x (by omega) (by omega) sizes hz cbD (fun s => s.length = x.p.toNat + 1) (fun k cs s h1 h2 h3 => ⟨cbD_val x (by omega) k cs s h1 h2 h3, fun _ => by simp [cbD]; exact h3⟩)
        x.p.toNat (List.replicate 17 0) 0 (List.replicate (x.p + 1).toNat 0) k (by omega) (by simp) (by simp; omega) (by omega)
      rw [e, List.take_zero, show (x.p + 1).toNat = x.p.toNat + 1 by omega]
      rfl
    · rw [h, if_neg (by simp), hspec]; rfl
  · exact ⟨none, by rw [if_pos (by simpa using h)], by rw [if_pos (by simpa using h)]; rfl, fun q => absurd q h, by simp, fun _ => rfl⟩
end Go.Proofs.YtjcgphgipleccaaGreat
