/- Plain laws: free changes of both sides. No conditions beyond those that each lemma states. -/
import Derived.Test.YtfnbhfobgimnjaaPureAvD27
set_option linter.unusedVariables false
set_option linter.unusedSimpArgs false
namespace Go.Proofs.Ytfnbhfobgimnjaa
open Go Go.RowKit Ab

def nearX (x : Col) (i j : Nat) (c : Int) : List Int := (ir 0 x.p.toNat).filter fun p => aB x c i p && aB x c j p
def freeB (x : Col) (sizes : List Int) (i j c : Nat) : Bool := !decide (x.cc i j = (c : Int)) && decide (cl (aB x c) (sizes.getD c 0 - 2).toNat (nearX x i j c) = [])
def FR2 (x : Col) (sizes : List Int) (i j c : Nat) : List (List Int) := if freeB x sizes i j c then [[(i : Int), (j : Int), (c : Int)]] else []
def FR1 (x : Col) (sizes : List Int) (i j : Nat) : List (List Int) := (List.range' 0 x.k.toNat).flatMap (FR2 x sizes i j)
def FR0 (x : Col) (sizes : List Int) (i : Nat) : List (List Int) := (List.range' (i + 1) (x.p.toNat - (i + 1))).flatMap (FR1 x sizes i)
def FR (x : Col) (sizes : List Int) : List (List Int) := (List.range' 0 x.p.toNat).flatMap (FR0 x sizes)

theorem coll {f : Nat → Int → List (List Int) → Option (List (List Int))} {N B L : Nat} (i0 : Nat) (G : Nat → List (List Int)) (hG : ∀ t, t < N → (G t).length ≤ B)
    (hs : ∀ (k' t : Nat) (s : List (List Int)), i0 ≤ t → t < N → s.length ≤ L → f (k' + 1) t s = f k' ((t + 1 : Nat) : Int) (s ++ G t)) (he : ∀ (k' : Nat) (s : List (List Int)), f (k' + 1) N s = some s) :
    ∀ (d i : Nat) (k : Nat) (s : List (List Int)), i0 ≤ i → i + d = N → d < k → s.length + d * B ≤ L → f k i s = some (s ++ (List.range' i d).flatMap G) := by
  intro d
  induction d with
  | zero =>
    intro i k s h0 h1 h2 h3
    obtain ⟨k, rfl⟩ : ∃ q, k = q + 1 := ⟨k - 1, by omega⟩
    obtain rfl : i = N := by omega
    rw [he]; simp
  | succ d ih =>
    intro i k s h0 h1 h2 h3
    obtain ⟨k, rfl⟩ : ∃ q, k = q + 1 := ⟨k - 1, by omega⟩
    rw [Nat.succ_mul] at h3
    have hg := hG i (by omega)
    rw [hs k i s h0 (by omega) (by omega), ih (i + 1) k (s ++ G i) (by omega) (by omega) (by omega) (by rw [List.length_append]; omega), List.range'_succ, List.flatMap_cons, List.append_assoc]
theorem FR2_le (x : Col) (sizes : List Int) (i j c : Nat) : (FR2 x sizes i j c).length ≤ 1 := by unfold FR2; split <;> simp
theorem FR1_le {x : Col} (hk : x.k ≤ 4) (sizes : List Int) (i j : Nat) : (FR1 x sizes i j).length ≤ 4 := by
  have := flatMap_le (FR2 x sizes i j) 1 (List.range' 0 x.k.toNat) (fun c _ => FR2_le x sizes i j c)
  rw [List.length_range'] at this
  unfold FR1
  omega
theorem FR0_le {x : Col} (hk : x.k ≤ 4) (hp : x.p ≤ 17) (sizes : List Int) (i : Nat) : (FR0 x sizes i).length ≤ 68 := by
  have := flatMap_le (FR1 x sizes i) 4 (List.range' (i + 1) (x.p.toNat - (i + 1))) (fun j _ => FR1_le hk sizes i j)
  rw [List.length_range'] at this
  unfold FR0
  omega
theorem FR_le {x : Col} (hk : x.k ≤ 4) (hp : x.p ≤ 17) (sizes : List Int) : (FR x sizes).length ≤ 1156 := by
  have := flatMap_le (FR0 x sizes) 68 (List.range' 0 x.p.toNat) (fun i _ => FR0_le hk hp sizes i)
  rw [List.length_range'] at this
  unfold FR
  omega
theorem nearX_inR {x : Col} (hp : x.p ≤ 17) (i j : Nat) (c : Int) : inR (nearX x i j c) ∧ (nearX x i j c).length ≤ 17 := by
  constructor
  · intro z hz
    have := mem_ir.1 (List.mem_filter.1 hz).1
    omega
  · refine Nat.le_trans (List.length_filter_le _ _) ?_
    rw [ir_length]; omega
theorem has_free {x : Col} (hp : 1 ≤ x.p ∧ x.p ≤ 17) {sizes : List Int} (hz : szOK x sizes) (i j : Nat) {c : Nat} (hc : (c : Int) < x.k) (k : Nat) (hk : 100 ≤ k) :
    impl_Colouring_hasClique k x c (w64 (sizes.getD c 0 - 2)) (nearX x i j c) = some (!decide (cl (aB x c) (sizes.getD c 0 - 2).toNat (nearX x i j c) = [])) := by
  obtain ⟨h1, h2, h3⟩ := sz_get hz hc
  obtain ⟨n1, n2⟩ := nearX_inR hp.2 i j c
  rw [w64_id (by omega)]
  by_cases h0 : sizes.getD c 0 - 2 ≤ 0
  · rw [hasClique_neg x c _ _ k (by omega) h0, show (sizes.getD c 0 - 2).toNat = 0 by omega, cl_zero]
    simp
  · obtain ⟨m, hm⟩ : ∃ m : Nat, sizes.getD c 0 - 2 = m := ⟨(sizes.getD c 0 - 2).toNat, by omega⟩
    rw [hm, Int.toNat_natCast, hasClique_val x c m _ n1 n2 k (by omega)]
    by_cases e : cl (aB x c) m (nearX x i j c) = [] <;> simp [e]

theorem implFree2 {x : Col} (hx : x.is) {sizes : List Int} (hz : szOK x sizes) {i j : Nat} (hij : i < j) (hj : (j : Int) < x.p) (k k' : Nat) (hk : 100 ≤ k) (hk' : 5 ≤ k') (s : List (List Int)) (hs : s.length ≤ 100000) :
    impl_FreeChanges_l2 k x sizes i j k' 0 s = some (s ++ FR1 x sizes i j) := by
  have hp := hx.1
  have hk4 := hx.2.1
  have hK : ((x.k.toNat : Nat) : Int) = x.k := by omega
  have := coll (f := fun k' t s => impl_FreeChanges_l2 k x sizes i j k' t s) (N := x.k.toNat) (B := 1) (L := 200000) 0 (FR2 x sizes i j) (fun t _ => FR2_le x sizes i j t) ?_ ?_ x.k.toNat 0 k' s (by omega) (by omega) (by omega) (by omega)
  · exact this
  · intro k' c s _ hc hs
    show impl_FreeChanges_l2 k x sizes i j (k' + 1) c s = _
    have hcK : (c : Int) < x.k := by omega
    obtain ⟨z1, z2, z3⟩ := sz_get hz hcK
    have hthat := that_val (k := k) x hp (by omega) (fun a0 => impl_FreeChanges_c1 a0 x i c j) (fun a => aB x c i a && aB x c j a) (fun a ha => by
      show impl_FreeChanges_c1 a x i c j = _
      unfold impl_FreeChanges_c1
      rw [joins_val x _ _ _ (by omega) (by omega), joins_val x _ _ _ (by omega) (by omega), Option.bind_some]
      cases aB x c i a <;> rfl)
    have hw : w64 ((c : Int) + 1) = ((c + 1 : Nat) : Int) := by rw [w64_id (by omega)]; omega
    have hnear : (ir 0 x.p.toNat).filter (fun a => aB x c i a && aB x c j a) = nearX x i j c := rfl
    rw [impl_FreeChanges_l2, if_pos (decide_eq_true hcK), hthat, Option.bind_some, implAt_ne x i j (by omega) (by omega) (by omega) (by omega) (by omega), Option.bind_some, if_pos (show (0 : Int) ≤ c ∧ (c : Int) < sizes.length by omega), Int.toNat_natCast, hnear, has_free hp hz i j hcK k hk, Option.bind_some, hw, Bool.not_not]
    unfold FR2 freeB
    by_cases h1 : x.cc i j = (c : Int)
    · rw [decide_eq_true h1]
      simp
    · rw [decide_eq_false h1]
      simp only [Bool.not_false, if_true, Option.bind_some, Bool.true_and]
      cases decide (cl (aB x c) (sizes.getD c 0 - 2).toNat (nearX x i j c) = []) with
      | true => rw [if_pos rfl, if_pos (by simp only [List.length_singleton]; omega)]; rfl
      | false => rw [if_neg (by simp)]; simp
  · intro k' s
    show impl_FreeChanges_l2 k x sizes i j (k' + 1) (x.k.toNat : Int) s = _
    rw [impl_FreeChanges_l2, if_neg (by simp only [decide_eq_true_eq]; omega)]
theorem implFree1 {x : Col} (hx : x.is) {sizes : List Int} (hz : szOK x sizes) {i : Nat} (hi : (i : Int) < x.p) (k k' : Nat) (hk : 100 ≤ k) (hk' : 18 ≤ k') (s : List (List Int)) (hs : s.length ≤ 90000) :
    impl_FreeChanges_l1 k x sizes i k' s ((i + 1 : Nat) : Int) = some (s ++ FR0 x sizes i) := by
  have hp := hx.1
  have hk4 := hx.2.1
  have := coll (f := fun k' t s => impl_FreeChanges_l1 k x sizes i k' s t) (N := x.p.toNat) (B := 4) (L := 100000) (i + 1) (FR1 x sizes i) (fun t _ => FR1_le hk4.2 sizes i t) ?_ ?_ (x.p.toNat - (i + 1)) (i + 1) k' s (by omega) (by omega) (by omega) (by omega)
  · exact this
  · intro k' j s hij hj hs
    show impl_FreeChanges_l1 k x sizes i (k' + 1) s j = _
    have hw : w64 ((j : Int) + 1) = ((j + 1 : Nat) : Int) := by rw [w64_id (by omega)]; omega
    rw [impl_FreeChanges_l1, if_pos (decide_eq_true (by omega)), implFree2 hx hz (by omega) (by omega) k k hk (by omega) s hs, Option.bind_some, hw]
  · intro k' s
    show impl_FreeChanges_l1 k x sizes i (k' + 1) s (x.p.toNat : Int) = _
    rw [impl_FreeChanges_l1, if_neg (by simp only [decide_eq_true_eq]; omega)]
theorem implFree0 {x : Col} (hx : x.is) {sizes : List Int} (hz : szOK x sizes) (k : Nat) (hk : 100 ≤ k) : impl_FreeChanges_l0 k x sizes k 0 [] = some (FR x sizes) := by
  have hp := hx.1
  have hk4 := hx.2.1
  have := coll (f := fun k' t s => impl_FreeChanges_l0 k x sizes k' t s) (N := x.p.toNat) (B := 68) (L := 80000) 0 (FR0 x sizes) (fun t _ => FR0_le hk4.2 hp.2 sizes t) ?_ ?_ x.p.toNat 0 k [] (by omega) (by omega) (by omega) (by simp; omega)
  · exact this
  · intro k' i s _ hi hs
    show impl_FreeChanges_l0 k x sizes (k' + 1) i s = _
    have hw : w64 ((i : Int) + 1) = ((i + 1 : Nat) : Int) := by rw [w64_id (by omega)]; omega
    rw [impl_FreeChanges_l0, if_pos (decide_eq_true (by omega)), hw, implFree1 hx hz (by omega) k k hk (by omega) s (by omega), Option.bind_some]
  · intro k' s
    show impl_FreeChanges_l0 k x sizes (k' + 1) (x.p.toNat : Int) s = _
    rw [impl_FreeChanges_l0, if_neg (by simp only [decide_eq_true_eq]; omega)]

/-! ### The reference's -/
theorem near_two (x : Col) (i j : Nat) (c : Int) : mem (nb x c i &&& nb x c j) 0 x.p.toNat = nearX x i j c := by
  unfold mem nearX
  refine List.filter_congr fun a ha => ?_
  have hm := mem_ir.1 ha
  obtain ⟨q, rfl⟩ : ∃ q : Nat, a = q := ⟨a.toNat, by omega⟩
  rw [Int.toNat_natCast, Nat.testBit_and, nb_test, nb_test, decide_eq_true (by omega : q < x.p.toNat)]
  rfl
theorem specClq_free {x : Col} (hp : 1 ≤ x.p ∧ x.p ≤ 17) {sizes : List Int} (hz : szOK x sizes) (i j : Nat) {c : Nat} (hc : (c : Int) < x.k) (k : Nat) (hk : 300 ≤ k) (h3 : ¬ sizes.getD c 0 < 3) :
    spec_l03Clique k x c (bAnd .i64 ((nb x c i : Nat) : Int) ((nb x c j : Nat) : Int)) (w64 (sizes.getD c 0 - 2)) = some (!decide (cl (aB x c) (sizes.getD c 0 - 2).toNat (nearX x i j c) = [])) := by
  obtain ⟨z1, z2, z3⟩ := sz_get hz hc
  have hlt : nb x c i &&& nb x c j < 2 ^ x.p.toNat := Nat.lt_of_le_of_lt Nat.and_le_right (bitsN_lt _ _)
  obtain ⟨m, hm⟩ : ∃ m : Nat, sizes.getD c 0 - 2 = m := ⟨(sizes.getD c 0 - 2).toNat, by omega⟩
  rw [bAnd_nat (nb_lt x hp c _) (nb_lt x hp c _), w64_id (by omega), hm, clique3_val x hp c m _ k hlt (by omega), near_two, Int.toNat_natCast]
  by_cases e : cl (aB x c) m (nearX x i j c) = [] <;> simp [e]
theorem specFree2 {x : Col} (hx : x.is) {sizes : List Int} (hz : szOK x sizes) {i j : Nat} (hij : i < j) (hj : (j : Int) < x.p) (k k' : Nat) (hk : 300 ≤ k) (hk' : 5 ≤ k') (s : List (List Int)) (hs : s.length ≤ 100000) :
    spec_FreeChanges_l2 k x sizes i j k' 0 s = some (s ++ FR1 x sizes i j) := by
  have hp := hx.1
  have hk4 := hx.2.1
  have hK : ((x.k.toNat : Nat) : Int) = x.k := by omega
  have := coll (f := fun k' t s => spec_FreeChanges_l2 k x sizes i j k' t s) (N := x.k.toNat) (B := 1) (L := 200000) 0 (FR2 x sizes i j) (fun t _ => FR2_le x sizes i j t) ?_ ?_ x.k.toNat 0 k' s (by omega) (by omega) (by omega) (by omega)
  · exact this
  · intro k' c s _ hc hs
    show spec_FreeChanges_l2 k x sizes i j (k' + 1) c s = _
    have hcK : (c : Int) < x.k := by omega
    obtain ⟨z1, z2, z3⟩ := sz_get hz hcK
    have hw : w64 ((c : Int) + 1) = ((c + 1 : Nat) : Int) := by rw [w64_id (by omega)]; omega
    have hg : (0 : Int) ≤ c ∧ (c : Int) < sizes.length := by omega
    rw [spec_FreeChanges_l2, if_pos (decide_eq_true hcK), specAt_ne x i j (by omega) (by omega) (by omega) (by omega) (by omega), Option.bind_some, if_pos hg, if_pos hg, Int.toNat_natCast, around_nb k x hp (by omega) c i (by omega), Option.bind_some, around_nb k x hp (by omega) c j hj, Option.bind_some, hw]
    unfold FR2 freeB
    by_cases h1 : x.cc i j = (c : Int)
    · rw [decide_eq_true h1, if_pos (decide_eq_true h1.symm)]
      simp
    · have h1' : ¬ (c : Int) = x.cc i j := fun h => h1 h.symm
      rw [decide_eq_false h1, if_neg (by simpa using h1')]
      by_cases h3 : sizes.getD c 0 < 3
      · rw [if_pos (decide_eq_true h3), if_pos (decide_eq_true (by omega : 0 < sizes.getD c 0)), show (sizes.getD c 0 - 2).toNat = 0 by omega, cl_zero]
        simp
      · rw [if_neg (by simpa using h3), if_pos hg, specClq_free hp hz i j hcK k hk h3]
        simp only [Option.bind_some, Bool.not_false, Bool.true_and]
        cases decide (cl (aB x c) (sizes.getD c 0 - 2).toNat (nearX x i j c) = []) with
        | true => rw [if_neg (by simp), if_pos rfl, if_pos (by simp only [List.length_singleton]; omega)]; rfl
        | false => rw [if_pos (by simp)]; simp
  · intro k' s
    show spec_FreeChanges_l2 k x sizes i j (k' + 1) (x.k.toNat : Int) s = _
    rw [spec_FreeChanges_l2, if_neg (by simp only [decide_eq_true_eq]; omega)]
theorem specFree1 {x : Col} (hx : x.is) {sizes : List Int} (hz : szOK x sizes) {i : Nat} (hi : (i : Int) < x.p) (k k' : Nat) (hk : 300 ≤ k) (hk' : 18 ≤ k') (s : List (List Int)) (hs : s.length ≤ 90000) :
    spec_FreeChanges_l1 k x sizes i k' ((i + 1 : Nat) : Int) s = some (s ++ FR0 x sizes i) := by
  have hp := hx.1
  have hk4 := hx.2.1
  have := coll (f := fun k' t s => spec_FreeChanges_l1 k x sizes i k' t s) (N := x.p.toNat) (B := 4) (L := 100000) (i + 1) (FR1 x sizes i) (fun t _ => FR1_le hk4.2 sizes i t) ?_ ?_ (x.p.toNat - (i + 1)) (i + 1) k' s (by omega) (by omega) (by omega) (by omega)
  · exact this
  · intro k' j s hij hj hs
    show spec_FreeChanges_l1 k x sizes i (k' + 1) j s = _
    have hw : w64 ((j : Int) + 1) = ((j + 1 : Nat) : Int) := by rw [w64_id (by omega)]; omega
    rw [spec_FreeChanges_l1, if_pos (decide_eq_true (by omega)), specFree2 hx hz (by omega) (by omega) k k hk (by omega) s hs, Option.bind_some, hw]
  · intro k' s
    show spec_FreeChanges_l1 k x sizes i (k' + 1) (x.p.toNat : Int) s = _
    rw [spec_FreeChanges_l1, if_neg (by simp only [decide_eq_true_eq]; omega)]
theorem specFree0 {x : Col} (hx : x.is) {sizes : List Int} (hz : szOK x sizes) (k : Nat) (hk : 300 ≤ k) : spec_FreeChanges_l0 k x sizes k 0 [] = some (FR x sizes) := by
  have hp := hx.1
  have hk4 := hx.2.1
  have := coll (f := fun k' t s => spec_FreeChanges_l0 k x sizes k' t s) (N := x.p.toNat) (B := 68) (L := 80000) 0 (FR0 x sizes) (fun t _ => FR0_le hk4.2 hp.2 sizes t) ?_ ?_ x.p.toNat 0 k [] (by omega) (by omega) (by omega) (by simp; omega)
  · exact this
  · intro k' i s _ hi hs
    show spec_FreeChanges_l0 k x sizes (k' + 1) i s = _
    have hw : w64 ((i : Int) + 1) = ((i + 1 : Nat) : Int) := by rw [w64_id (by omega)]; omega
    rw [spec_FreeChanges_l0, if_pos (decide_eq_true (by omega)), hw, specFree1 hx hz (by omega) k k hk (by omega) s (by omega), Option.bind_some]
  · intro k' s
    show spec_FreeChanges_l0 k x sizes (k' + 1) (x.p.toNat : Int) s = _
    rw [spec_FreeChanges_l0, if_neg (by simp only [decide_eq_true_eq]; omega)]
theorem specGiven5_val {k : Nat} (hk : 5000 ≤ k) (x : Col) (sizes : List Int) (hl : sizes.length ≤ 1000) : spec_l05Given k x sizes = some (eS x sizes 17) := by
  classical
  unfold spec_l05Given
  rw [specCode_val hk x sizes hl, Option.bind_some]
  unfold eS
  by_cases h : eC x sizes = 0
  · obtain ⟨hi, hz⟩ := eC_zero h
    obtain ⟨hp, hk4⟩ := is_range hi
    obtain ⟨b, e, hb⟩ := specAvoids_val hk x hp sizes hz hk4
    rw [if_pos (decide_eq_true h), e, if_pos h]
    cases b with
    | true => rw [if_pos (hb.1 rfl), h, if_neg (by omega)]; rfl
    | false =>
      rw [if_neg (fun q => by have := hb.2 q; cases this)]
      rfl
  · rw [if_neg (by simpa using h), if_neg h]; rfl
theorem free_val {k : Nat} (hk : 5000 ≤ k) (x : Col) (sizes : List Int) (hl : sizes.length ≤ 1000) : ∃ o c, impl_FreeChanges k x sizes = some (o, c) ∧ spec_FreeChanges k x sizes = some (o.getD [], c) ∧ (c = 0 → x.is ∧ szOK x sizes ∧ avoidsP x sizes ∧ o = some (FR x sizes)) ∧ (c ≠ 0 → o = none) := by
  unfold impl_FreeChanges spec_FreeChanges impl_always
  rw [implExt_val hk x sizes hl 17, specGiven5_val hk x sizes hl, Option.bind_some, Option.bind_some]
  by_cases h : eS x sizes 17 = 0
  · obtain ⟨hi, hz, ha, _⟩ := eS_zero h
    refine ⟨some (FR x sizes), 0, ?_, ?_, fun _ => ⟨hi, hz, ha, rfl⟩, fun q => absurd rfl q⟩
    · rw [if_neg (by simpa using h), implFree0 hi hz k (by omega)]; rfl
    · rw [if_neg (by simpa using h), specFree0 hi hz k (by omega)]; rfl
  · exact ⟨none, _, by rw [if_pos (by simpa using h)], by rw [if_pos (by simpa using h)]; rfl, fun q => absurd q h, fun _ => rfl⟩

/-! ### What the law asks -/
theorem FR_mem {x : Col} {sizes : List Int} {e : List Int} (h : e ∈ FR x sizes) : ∃ i j c : Nat, e = [(i : Int), (j : Int), (c : Int)] ∧ i < j ∧ j < x.p.toNat ∧ c < x.k.toNat ∧ freeB x sizes i j c = true := by
  obtain ⟨i, hi, h⟩ := List.mem_flatMap.1 h
  obtain ⟨j, hj, h⟩ := List.mem_flatMap.1 h
  obtain ⟨c, hc, h⟩ := List.mem_flatMap.1 h
  have hi2 := List.mem_range'_1.1 hi
  have hj2 := List.mem_range'_1.1 hj
  have hc2 := List.mem_range'_1.1 hc
  unfold FR2 at h
  split at h
  · rename_i hb
    simp at h
    exact ⟨i, j, c, h, by omega, by omega, by omega, hb⟩
  · simp at h
def chC (x : Col) (i j c : Nat) : Col := x.set (eN i j) (toByte c)
theorem ch_mk {x : Col} (hx : x.is) {i j c : Nat} (hij : i < j) (hj : j < x.p.toNat) : chC x i j c = mkC x.p.toNat x.k (fun a b => if a = i ∧ b = j then (c : Int) else x.cc a b) := by
  have hp := hx.1
  have h136 := eN_136 (i := i) (j := j) (by omega) (by omega) (by omega)
  have hz : ((x.p.toNat : Nat) : Int) = x.p := by omega
  refine Made.to (g' := fun a b => if a = i ∧ b = j then toByte c else x.e.get (eN a b)) (by omega) ⟨hz.symm, rfl, fun a b hab hb => ?_, fun e he h1 => ?_⟩ fun a b _ _ => ?_
  · show (x.e.set (eN i j) (toByte c)).get (eN a b) = _
    rw [B136.get_set _ _ _ _ h136]
    by_cases q : a = i ∧ b = j
    · rw [q.1, q.2, if_pos rfl, if_pos ⟨rfl, rfl⟩]
    · rw [if_neg q, if_neg (fun e => q (eN_inj hab (by omega) hij (by omega) e))]
  · rw [Int.toNat_natCast] at he
    have hlt := eN_lt hij hj (by omega)
    show (x.e.set (eN i j) (toByte c)).get e = _
    rw [B136.get_set _ _ _ _ h136, if_neg (by omega)]
    exact is_zero hx he h1
  · split
    · rfl
    · rw [cc_nat, tb]
theorem ch_is {x : Col} (hx : x.is) {i j c : Nat} (hij : i < j) (hj : j < x.p.toNat) (hc : c < x.k.toNat) : (chC x i j c).is := by
  have hp := hx.1
  rw [ch_mk hx hij hj]
  refine mkC_is (by omega) (by omega) hx.2.1 _ fun a b hab hb => ?_
  split
  · omega
  · exact is_cc hx (by omega) (by omega) (by omega)
theorem ch_cc {x : Col} (hx : x.is) {i j c : Nat} (hij : i < j) (hj : j < x.p.toNat) (hc : c < x.k.toNat) {a b : Nat} (hab : a < b) (hb : b < x.p.toNat) : (chC x i j c).cc a b = if a = i ∧ b = j then (c : Int) else x.cc a b := by
  have hp := hx.1
  have hk4 := hx.2.1
  rw [ch_mk hx hij hj, mkC_cc (by omega) _ _ hab hb]
  split
  · omega
  · have := is_cc hx (a := a) (b := b) (by omega) (by omega) (by omega)
    omega
theorem ch_ne {x : Col} (hx : x.is) {i j c : Nat} (hij : i < j) (hj : j < x.p.toNat) (hc : c < x.k.toNat) (h : x.cc i j ≠ (c : Int)) : chC x i j c ≠ x := fun e => by
  have := ch_cc hx hij hj hc hij hj
  rw [e, if_pos ⟨rfl, rfl⟩] at this
  exact h this
theorem ch_avoids {x : Col} (hx : x.is) {sizes : List Int} (hz : szOK x sizes) (ha : avoidsP x sizes) {i j c : Nat} (hij : i < j) (hj : j < x.p.toNat) (hc : c < x.k.toNat) (hf : cl (aB x c) (sizes.getD c 0 - 2).toNat (nearX x i j c) = []) : avoidsP (chC x i j c) sizes := by
  have hp := hx.1
  intro d hd
  rw [cl_none]
  intro Z h1 h2 h3
  have hpts : pts (chC x i j c) = pts x := rfl
  rw [hpts] at h1
  have hin : ∀ z ∈ Z, 0 ≤ z ∧ z < x.p.toNat := fun z hzz => by
    have := mem_ir.1 (h1.subset hzz)
    omega
  have hlt : Z.Pairwise (· < ·) := pair_lt h1 ir_pair
  have hold : ∀ a b : Int, a ∈ Z → b ∈ Z → a < b → ¬ (a = i ∧ b = j) → aB (chC x i j c) d a b = true → aB x d a b = true := fun a b hA hB hab hne hh => by
    have q1 := hin a hA
    have q2 := hin b hB
    obtain ⟨a, rfl⟩ : ∃ i : Nat, a = i := ⟨a.toNat, by omega⟩
    obtain ⟨b, rfl⟩ : ∃ i : Nat, b = i := ⟨b.toNat, by omega⟩
    unfold aB at hh ⊢
    rw [ch_cc hx hij hj hc (by omega) (by omega), if_neg (by omega)] at hh
    exact hh
  have hold2 := (cl_none.1 (ha d hd)) Z h1
  by_cases hb : d = c ∧ (i : Int) ∈ Z ∧ (j : Int) ∈ Z
  · obtain ⟨rfl, hi, hj2⟩ := hb
    have hnd : Z.Nodup := hlt.imp fun h => by omega
    have hnd2 := hnd.erase (i : Int)
    have hj3 : (j : Int) ∈ Z.erase (i : Int) := (hnd.mem_erase_iff).2 ⟨by omega, hj2⟩
    have hlen : ((Z.erase (i : Int)).erase (j : Int)).length = (sizes.getD d 0 - 2).toNat := by
      rw [List.length_erase_of_mem hj3, List.length_erase_of_mem hi]
      omega
    have hsub : ((Z.erase (i : Int)).erase (j : Int)).Sublist Z := (List.erase_sublist).trans List.erase_sublist
    have hmem : ∀ z ∈ (Z.erase (i : Int)).erase (j : Int), z ∈ Z ∧ z ≠ i ∧ z ≠ j := fun z hzz => by
      obtain ⟨q1, q2⟩ := (hnd2.mem_erase_iff).1 hzz
      obtain ⟨q3, q4⟩ := (hnd.mem_erase_iff).1 q2
      exact ⟨q4, q3, q1⟩
    have hadj : ∀ a b : Int, a ∈ Z → b ∈ Z → a ≠ b → aB (chC x i j d) d a b = true := fun a b hA hB hab => by
      have key : ∀ a b : Int, a ∈ Z → b ∈ Z → a < b → aB (chC x i j d) d a b = true := fun a b hA hB hab => by
        obtain ⟨p, hp1, hp2⟩ := List.getElem_of_mem hA
        obtain ⟨q, hq1, hq2⟩ := List.getElem_of_mem hB
        rcases Nat.lt_trichotomy p q with w | w | w
        · have := (List.pairwise_iff_getElem.1 h2) p q hp1 hq1 w
          rw [hp2, hq2] at this
          exact this
        · subst w; rw [hp2] at hq2; omega
        · have := (List.pairwise_iff_getElem.1 hlt) q p hq1 hp1 w
          rw [hp2, hq2] at this
          omega
      rcases Int.lt_or_gt_of_ne hab with w | w
      · exact key a b hA hB w
      · rw [aB_comm]; exact key b a hB hA w
    have hold3 : ∀ a b : Int, a ∈ Z → b ∈ Z → a ≠ b → ¬ (a = i ∧ b = j) → ¬ (a = j ∧ b = i) → aB x d a b = true := fun a b hA hB hab n1 n2 => by
      rcases Int.lt_or_gt_of_ne hab with w | w
      · exact hold a b hA hB w n1 (hadj a b hA hB hab)
      · rw [aB_comm]
        exact hold b a hB hA w (fun q => n2 ⟨q.2, q.1⟩) (hadj b a hB hA (by omega))
    refine (cl_none.1 hf) ((Z.erase (i : Int)).erase (j : Int)) ?_ ?_ hlen
    · have hfil : ((Z.erase (i : Int)).erase (j : Int)) = ((Z.erase (i : Int)).erase (j : Int)).filter (fun p => aB x d i p && aB x d j p) := by
        symm
        refine List.filter_eq_self.2 fun z hzz => ?_
        obtain ⟨q1, q2, q3⟩ := hmem z hzz
        rw [hold3 i z hi q1 (fun e => q2 e.symm) (by omega) (by omega), hold3 j z hj2 q1 (fun e => q3 e.symm) (by omega) (by omega)]
        rfl
      rw [hfil]
      exact (hsub.trans h1).filter _
    · refine List.Pairwise.imp_of_mem (R := fun a b : Int => a < b) (fun {a b} hA hB hab => ?_) (hlt.sublist hsub)
      obtain ⟨q1, q2, q3⟩ := hmem a hA
      obtain ⟨r1, r2, r3⟩ := hmem b hB
      exact hold3 a b q1 r1 (by omega) (fun q => q2 q.1) (fun q => q3 q.1)
  · refine hold2 ?_ h3
    refine List.Pairwise.imp_of_mem (R := fun a b : Int => a < b ∧ aB (chC x i j c) d a b = true) (fun {a b} hA hB hab => ?_) (hlt.and h2)
    by_cases hne : a = i ∧ b = j
    · obtain ⟨rfl, rfl⟩ := hne
      exfalso
      have hh := hab.2
      unfold aB at hh
      rw [ch_cc hx hij hj hc hij hj, if_pos ⟨rfl, rfl⟩] at hh
      simp at hh
      exact hb ⟨by omega, hA, hB⟩
    · exact hold a b hA hB hab.1 hne hab.2
theorem change_val {k : Nat} (hk : 5000 ≤ k) {x : Col} (hx : x.is) {i j c : Nat} (hij : i < j) (hj : j < x.p.toNat) (hc : c < x.k.toNat) : impl_ChangeEdge k x i j c = some (chC x i j c, 0) := by
  have hp := hx.1
  have hk4 := hx.2.1
  have h1 : impl_ChangeEdge_c1 x i j c = true := by
    unfold impl_ChangeEdge_c1 impl_Colouring_hasTwo impl_Colouring_hasColour impl_Colouring_has
    rw [in_eq, in_eq, in_eq, w64_id (by omega), w64_id (by omega)]
    simp only [letO]
    rw [decide_eq_true (show 0 ≤ (i : Int) ∧ (i : Int) ≤ x.p - 1 by omega), decide_eq_true (show 0 ≤ (j : Int) ∧ (j : Int) ≤ x.p - 1 by omega), decide_eq_true (show 0 ≤ (c : Int) ∧ (c : Int) ≤ x.k - 1 by omega), decide_eq_false (show ¬ (i : Int) = j by omega)]
    rfl
  unfold impl_ChangeEdge
  rw [h1, ((code_cases hk x).1 hx).1, Option.bind_some, if_neg (by simp), put_at x c hij (by omega)]
  rfl
theorem free_law {k : Nat} (hk : 5000 ≤ k) {x : Col} (hx : x.is) {sizes : List Int} (hl : sizes.length ≤ 1000) (hz : szOK x sizes) (ha : avoidsP x sizes) {e : List Int} (he : e ∈ FR x sizes) :
    e.length = 3 ∧ ∃ y, impl_ChangeEdge k x (e.getD 0 0) (e.getD 1 0) (e.getD 2 0) = some (y, 0) ∧ impl_AvoidsSizes k y sizes = some (true, 0) ∧ y.eqb x = false := by
  classical
  obtain ⟨i, j, c, rfl, hij, hj, hc, hb⟩ := FR_mem he
  unfold freeB at hb
  rw [Bool.and_eq_true, Bool.not_eq_true', decide_eq_false_iff_not, decide_eq_true_eq] at hb
  refine ⟨rfl, chC x i j c, change_val hk hx hij hj hc, ?_, ?_⟩
  · rw [(implAvoids_val hk (chC x i j c) sizes hl).2.2 (ch_is hx hij hj hc) hz, decide_eq_true (ch_avoids hx hz ha hij hj hc hb.2)]
  · cases h : (chC x i j c).eqb x with
    | false => rfl
    | true => exact absurd ((Col.eqb_iff _ _).1 h) (ch_ne hx hij hj hc hb.1)
end Go.Proofs.Ytfnbhfobgimnjaa
