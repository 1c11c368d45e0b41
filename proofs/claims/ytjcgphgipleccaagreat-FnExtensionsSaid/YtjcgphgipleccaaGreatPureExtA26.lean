/- Plain laws: whether points have a clique, by both sides. No conditions beyond those that each lemma states. -/
import Derived.Test.YtjcgphgipleccaaGreatPureClqF26
set_option linter.unusedVariables false
set_option linter.unusedSimpArgs false
namespace Go.Proofs.YtjcgphgipleccaaGreat
open Go Go.RowKit Ab

/-- The neighbours of a point, as bits. -/
def nb (x : Col) (c : Int) (p : Nat) : Nat := bitsN (fun j => aB x c (p : Int) (j : Int)) x.p.toNat

theorem nb_test (x : Col) (c : Int) (p j : Nat) : (nb x c p).testBit j = (decide (j < x.p.toNat) && aB x c (p : Int) (j : Int)) := bitsN_test _ _ _

theorem nb_lt (x : Col) (hp : 1 ≤ x.p ∧ x.p ≤ 17) (c : Int) (p : Nat) : nb x c p < 2 ^ 63 := lt63 (lt17 (bitsN_lt _ _) (by omega))

theorem around_nb (k : Nat) (x : Col) (hx : 1 ≤ x.p ∧ x.p ≤ 17) (hk : 20 ≤ k) (c : Int) (i : Nat) (hi : (i : Int) < x.p) : spec_l01Around k x i c = some ((nb x c i : Nat) : Int) := by
  unfold spec_l01Around nb
  generalize hP : (fun j : Nat => aB x c (i : Int) (j : Int)) = P
  have hP' : ∀ j : Nat, P j = aB x c (i : Int) (j : Int) := fun j => by rw [← hP]
  have := loopI (f := fun k t (s : Int) => spec_l01Around_l0 x i c k s t) x.p 0 (fun t s => t ≤ x.p ∧ s = ((bitsN P t.toNat : Nat) : Int)) (fun r => r = ((bitsN P x.p.toNat : Nat) : Int)) ?_ ?_ k 0 0 (by omega) (by omega) ⟨by omega, rfl⟩
  · obtain ⟨r, e, rfl⟩ := this
    rw [e]; rfl
  · intro k t s h0 h1 ⟨_, q⟩
    left
    obtain ⟨m, rfl⟩ := nat_of h0
    refine ⟨_, ?_, by omega, rfl⟩
    show spec_l01Around_l0 x i c (k + 1) s m = _
    have e0 : ((m : Int) + 1).toNat = m + 1 := by omega
    rw [spec_l01Around_l0, w64_succ h0 h1 (by omega), e0, u64_id (by omega)]
    simp only [Int.toNat_natCast] at q
    have hb := lt63 (lt17 (bitsN_lt P m) (by omega))
    have hor := bOr_nat (a := bitsN P m) (b := 2 ^ m) hb (Nat.pow_lt_pow_right (by omega) (by omega))
    simp only [h1, decide_true, if_true]
    have hPm := hP' m
    unfold aB at hPm
    by_cases e : m = i
    · subst e
      simp only [ne_eq, not_true_eq_false, false_and, decide_false] at hPm
      simp [hPm, bitsN, q]
    · have e' : ¬ (m : Int) = i := by omega
      have e'' : ¬ (i : Int) = m := by omega
      rw [specAt_ne x i m (by omega) (by omega) (by omega) (by omega) (by omega)]
      by_cases h : x.cc i m = c
      · simp only [ne_eq, e'', not_false_eq_true, h, and_self, decide_true] at hPm
        simp only [e', h, decide_false, Bool.not_false, if_true, Option.bind_some, decide_true, h0, q]
        rw [bShl_one (by omega), hor]
        simp [bitsN, hPm]
      · simp only [ne_eq, e'', not_false_eq_true, h, and_false, decide_false] at hPm
        simp [e', h, bitsN, hPm, q]
  · intro k t s h0 h1 ⟨q1, q2⟩
    have : t = x.p := by omega
    subst this
    refine ⟨s, ?_, q2⟩
    show spec_l01Around_l0 x i c (k + 1) s x.p = _
    rw [spec_l01Around_l0]; simp

theorem ones_loop : ∀ (m s : Nat) (cnt : Int) (k : Nat), s < 2 ^ m → m ≤ 60 → m < k → 0 ≤ cnt → cnt + m ≤ 1000 → spec_l01Ones_l0 k (s : Int) cnt = some (cnt + (mem s 0 m).length) := by
  intro m
  induction m with
  | zero =>
    intro s cnt k hs hm hk h0 h1
    obtain ⟨k, rfl⟩ : ∃ q, k = q + 1 := ⟨k - 1, by omega⟩
    have : s = 0 := by simpa using hs
    subst this
    rw [spec_l01Ones_l0, mem_end (by omega)]; simp
  | succ m ih =>
    intro s cnt k hs hm hk h0 h1
    obtain ⟨k, rfl⟩ : ∃ q, k = q + 1 := ⟨k - 1, by omega⟩
    rw [spec_l01Ones_l0]
    by_cases h : s = 0
    · subst h
      have : mem 0 0 (m + 1) = [] := by
        unfold mem
        rw [List.filter_eq_nil_iff]
        intro a _; simp
      rw [this]; simp
    · have hp : (0 : Int) < (s : Int) := by omega
      have hb : s < 2 ^ 61 := Nat.lt_of_lt_of_le hs (Nat.pow_le_pow_right (by omega) (by omega))
      have e1 : (s : Int).tdiv 2 = ((s / 2 : Nat) : Int) := by rw [Int.tdiv_eq_ediv_of_nonneg (by omega)]; omega
      have e2 : (s : Int).tmod 2 = ((s % 2 : Nat) : Int) := by rw [Int.tmod_eq_emod_of_nonneg (by omega)]; omega
      rw [decide_eq_true hp, if_pos rfl, e1, e2, w64_id (by omega), w64_id (by omega), ih (s / 2) _ k (by rw [Nat.pow_succ] at hs; omega) (by omega) (by omega) (by omega) (by omega), mem_half]
      congr 1
      rw [Int.natCast_add]
      omega

theorem ones_val {k n s : Nat} (hk : 100 ≤ k) (hn : n ≤ 60) (hs : s < 2 ^ n) : spec_l01Ones k (s : Int) = some ((mem s 0 n).length : Int) := by
  unfold spec_l01Ones
  rw [ones_loop n s 0 k hs hn (by omega) (by omega) (by omega)]
  simp

theorem joins_val (x : Col) (p q c : Int) (hp : 0 ≤ p ∧ p < 17) (hq : 0 ≤ q ∧ q < 17) : impl_Colouring_joins x p q c = some (aB x c p q) := by
  unfold impl_Colouring_joins aB
  by_cases e : p = q
  · subst e; simp
  · rw [implAt_ne x p q hp.1 hp.2 hq.1 hq.2 e]
    simp [e]

/-! ### The program's -/
theorem rest_val (x : Col) (c : Int) (pts : List Int) (hr : inR pts) (hl : pts.length ≤ 17) (i : Nat) (hi : i < pts.length) (k : Nat) (hk : 20 ≤ k) :
    impl_Colouring_hasClique_l1 x c pts i k 0 [] = some ((pts.drop (i + 1)).filter fun q => aB x c (pts.getD i 0) q) := by
  have hw : w64 ((i : Int) + 1) = ((i + 1 : Nat) : Int) := by rw [w64_id (by omega)]; omega
  have hgr : ∀ j : Nat, j < pts.length → 0 ≤ pts.getD j 0 ∧ pts.getD j 0 < 17 := fun j hj => hr _ (mem_getD.2 ⟨j, hj, rfl⟩)
  obtain ⟨R, hR⟩ : ∃ R, R = pts.drop (i + 1) := ⟨_, rfl⟩
  have hRr : ∀ j : Nat, j < R.length → 0 ≤ R.getD j 0 ∧ R.getD j 0 < 17 := fun j hj => by
    have hsub : ∀ z ∈ R, z ∈ pts := fun z hz => by rw [hR] at hz; exact List.mem_of_mem_drop hz
    exact hr _ (hsub _ (mem_getD.2 ⟨j, hj, rfl⟩))
  have hRl : R.length ≤ 17 := by rw [hR, List.length_drop]; omega
  have hpi := hgr i hi
  have := loopI (f := fun k' j (s : List Int) => impl_Colouring_hasClique_l1 x c pts i k' j s) (R.length : Int) 0 (fun j s => j ≤ R.length ∧ s = (R.take j.toNat).filter fun q => aB x c (pts.getD i 0) q) (fun s => s = R.filter fun q => aB x c (pts.getD i 0) q) ?_ ?_ k 0 [] (by omega) (by omega) ⟨by omega, by simp⟩
  · obtain ⟨s, e, rfl⟩ := this
    rw [← hR]; exact e
  · rintro k' j s h0 h1 ⟨q1, rfl⟩
    left
    refine ⟨(R.take (j + 1).toNat).filter fun q => aB x c (pts.getD i 0) q, ?_, by omega, rfl⟩
    show impl_Colouring_hasClique_l1 x c pts i (k' + 1) j _ = _
    rw [impl_Colouring_hasClique_l1, hw, Int.toNat_natCast, List.take_length, ← hR, Int.toNat_natCast, w64_succ h0 h1 (by omega)]
    rw [if_pos (decide_eq_true h1), if_pos ⟨h0, h1⟩, joins_val x _ _ c hpi (hRr j.toNat (by omega)), Option.bind_some]
    have eR : R[j.toNat]'(by omega) = R.getD j.toNat 0 := by simp [show j.toNat < R.length by omega]
    rw [show (j + 1).toNat = j.toNat + 1 by omega, List.take_succ_eq_append_getElem (show j.toNat < R.length by omega), List.filter_append, eR]
    have hlen : ((R.take j.toNat).filter fun q => aB x c (pts.getD i 0) q).length ≤ 17 := Nat.le_trans (List.length_filter_le _ _) (by simp; omega)
    cases hb : aB x c (pts.getD i 0) (R.getD j.toNat 0) with
    | true =>
      have hf : [R.getD j.toNat 0].filter (fun q => aB x c (pts.getD i 0) q) = [R.getD j.toNat 0] := by rw [List.filter_cons, if_pos hb]; rfl
      rw [if_pos rfl, if_pos (by simp only [List.length_singleton]; omega), hf]; rfl
    | false =>
      have hf : [R.getD j.toNat 0].filter (fun q => aB x c (pts.getD i 0) q) = [] := by rw [List.filter_cons, if_neg (by rw [hb]; simp)]; rfl
      rw [if_neg (by simp), hf, List.append_nil]; rfl
  · rintro k' j s h0 h1 ⟨q1, rfl⟩
    refine ⟨R.filter fun q => aB x c (pts.getD i 0) q, ?_, rfl⟩
    show impl_Colouring_hasClique_l1 x c pts i (k' + 1) j _ = _
    rw [impl_Colouring_hasClique_l1, hw, Int.toNat_natCast, List.take_length, ← hR, if_neg (by simp only [decide_eq_true_eq]; omega), show j.toNat = R.length by omega, List.take_length]

theorem hasClique_val (x : Col) (c : Int) : ∀ (m : Nat) (pts : List Int), inR pts → pts.length ≤ 17 → ∀ k, m + 50 ≤ k → impl_Colouring_hasClique k x c m pts = some (decide (cl (aB x c) m pts ≠ [])) := by
  intro m
  induction m with
  | zero =>
    intro pts _ _ k hk
    obtain ⟨k, rfl⟩ : ∃ q, k = q + 1 := ⟨k - 1, by omega⟩
    rw [impl_Colouring_hasClique, impl_Colouring_hasClique_body, cl_zero]
    simp
  | succ m ih =>
    intro pts hr hl k hk
    obtain ⟨k, rfl⟩ : ∃ q, k = q + 1 := ⟨k - 1, by omega⟩
    rw [impl_Colouring_hasClique, impl_Colouring_hasClique_body, if_neg (by simp only [decide_eq_true_eq]; omega)]
    unfold impl_size
    by_cases hs : (pts.length : Int) < ((m + 1 : Nat) : Int)
    · rw [if_pos (decide_eq_true hs), cl_short _ pts (m + 1) (by omega)]; simp
    · rw [if_neg (by simpa using hs)]
      have hw : w64 (((m + 1 : Nat) : Int) - 1) = (m : Int) := by rw [w64_id (by omega)]; omega
      have := loopI (f := fun k' j (_ : Unit) => impl_Colouring_hasClique_l0 k (impl_Colouring_hasClique k) x c ((m + 1 : Nat) : Int) pts k' j) (pts.length : Int) 0
        (fun j _ => j ≤ pts.length ∧ (cl (aB x c) (m + 1) pts ≠ [] ↔ cl (aB x c) (m + 1) (pts.drop j.toNat) ≠ [])) (fun r => r = if cl (aB x c) (m + 1) pts ≠ [] then .inr true else .inl ()) ?_ ?_ k 0 () (by omega) (by omega) ⟨by omega, by simp⟩
      · obtain ⟨r, e, rfl⟩ := this
        rw [e]
        by_cases h : cl (aB x c) (m + 1) pts ≠ [] <;> simp [h]
      · rintro k' j _ h0 h1 ⟨q1, q2⟩
        obtain ⟨i, rfl⟩ : ∃ i : Nat, j = i := ⟨j.toNat, by omega⟩
        have hi : i < pts.length := by omega
        rw [Int.toNat_natCast] at q2
        have hd : pts.drop i = pts.getD i 0 :: pts.drop (i + 1) := by
          rw [List.drop_eq_getElem_cons hi]; simp [hi]
        rw [hd, cl_cons] at q2
        have hrest : inR ((pts.drop (i + 1)).filter fun q => aB x c (pts.getD i 0) q) := fun z hz => hr z (List.mem_of_mem_drop (List.mem_filter.1 hz).1)
        have hrl : ((pts.drop (i + 1)).filter fun q => aB x c (pts.getD i 0) q).length ≤ 17 := Nat.le_trans (List.length_filter_le _ _) (by rw [List.length_drop]; omega)
        have hih := ih _ hrest hrl k (by omega)
        have hstep : impl_Colouring_hasClique_l0 k (impl_Colouring_hasClique k) x c ((m + 1 : Nat) : Int) pts (k' + 1) i = (if cl (aB x c) m ((pts.drop (i + 1)).filter fun q => aB x c (pts.getD i 0) q) ≠ [] then some (.inr true) else impl_Colouring_hasClique_l0 k (impl_Colouring_hasClique k) x c ((m + 1 : Nat) : Int) pts k' ((i : Int) + 1)) := by
          rw [impl_Colouring_hasClique_l0, if_pos (decide_eq_true h1), if_pos ⟨h0, h1⟩, w64_succ h0 h1 (by omega), if_pos ⟨by omega, by omega, by omega⟩, rest_val x c pts hr hl i hi k (by omega), Option.bind_some, hw, hih]
          by_cases h : cl (aB x c) m ((pts.drop (i + 1)).filter fun q => aB x c (pts.getD i 0) q) ≠ []
          · rw [decide_eq_true h, if_pos h]; rfl
          · rw [decide_eq_false h, if_neg h]; rfl
        by_cases h : cl (aB x c) m ((pts.drop (i + 1)).filter fun q => aB x c (pts.getD i 0) q) ≠ []
        · right
          refine ⟨.inr true, ?_, ?_⟩
          · show impl_Colouring_hasClique_l0 k (impl_Colouring_hasClique k) x c ((m + 1 : Nat) : Int) pts (k' + 1) i = _
            rw [hstep, if_pos h]
          · rw [if_pos]
            rw [q2]
            intro h2
            have := List.append_eq_nil_iff.1 h2
            exact h (List.map_eq_nil_iff.1 this.1)
        · left
          refine ⟨(), ?_, by omega, ?_⟩
          · show impl_Colouring_hasClique_l0 k (impl_Colouring_hasClique k) x c ((m + 1 : Nat) : Int) pts (k' + 1) i = _
            rw [hstep, if_neg h]
          · rw [q2, show ((i : Int) + 1).toNat = i + 1 by omega]
            have h' : cl (aB x c) m ((pts.drop (i + 1)).filter fun q => aB x c (pts.getD i 0) q) = [] := Classical.not_not.1 h
            have h'' : cl (aB x c) m ((pts.drop (i + 1)).filter (aB x c (pts.getD i 0))) = [] := h'
            rw [h'']
            simp
      · rintro k' j _ h0 h1 ⟨q1, q2⟩
        have hj : j = pts.length := by omega
        subst hj
        rw [Int.toNat_natCast, List.drop_length, cl_nil] at q2
        refine ⟨.inl (), ?_, by rw [if_neg (by rw [q2]; simp)]⟩
        show impl_Colouring_hasClique_l0 k (impl_Colouring_hasClique k) x c ((m + 1 : Nat) : Int) pts (k' + 1) _ = _
        rw [impl_Colouring_hasClique_l0]; simp

theorem hasClique_neg (x : Col) (c m : Int) (pts : List Int) (k : Nat) (hk : 1 ≤ k) (hm : m ≤ 0) : impl_Colouring_hasClique k x c m pts = some true := by
  obtain ⟨k, rfl⟩ : ∃ q, k = q + 1 := ⟨k - 1, by omega⟩
  rw [impl_Colouring_hasClique, impl_Colouring_hasClique_body, if_pos (decide_eq_true hm)]

/-! ### The reference's -/
theorem xor_sub {s p : Nat} (hb : s.testBit p = true) (hlow : ∀ i, i < p → s.testBit i = false) : (s ^^^ 2 ^ p) + 2 ^ p = s := by
  have hm : s % 2 ^ (p + 1) = 2 ^ p := by
    apply bits_eq
    intro i
    rw [Nat.testBit_mod_two_pow, Nat.testBit_two_pow]
    by_cases h1 : i < p
    · rw [hlow i h1]
      have : ¬ p = i := by omega
      simp [this]
    · by_cases h2 : p = i
      · subst h2; simp [hb]
      · have : ¬ i < p + 1 := by omega
        simp [this, h2]
  have hx : s ^^^ 2 ^ p = 2 ^ (p + 1) * (s / 2 ^ (p + 1)) := by
    apply bits_eq
    intro i
    rw [Nat.testBit_xor, Nat.testBit_two_pow, Nat.testBit_two_pow_mul, Nat.testBit_div_two_pow]
    by_cases h1 : i < p
    · rw [hlow i h1]
      have h3 : ¬ p = i := by omega
      have h4 : ¬ i ≥ p + 1 := by omega
      simp [h3, h4]
    · by_cases h2 : p = i
      · subst h2
        have h4 : ¬ p ≥ p + 1 := by omega
        rw [hb, decide_eq_false h4]; simp
      · have h4 : i ≥ p + 1 := by omega
        rw [show i - (p + 1) + (p + 1) = i by omega]
        simp [h2, h4]
  have hd := Nat.div_add_mod s (2 ^ (p + 1))
  rw [hm] at hd
  rw [hx]
  exact hd

section
variable (x : Col) (hp : 1 ≤ x.p ∧ x.p ≤ 17) (c : Int)
include hp
theorem sp63 {s : Nat} (hs : s < 2 ^ x.p.toNat) : s < 2 ^ 63 := lt63 (lt17 hs (by omega))

theorem takebit {s p : Nat} (hs : s < 2 ^ x.p.toNat) (hpn : p < x.p.toNat) (hb : s.testBit p = true) (hlow : ∀ i, i < p → s.testBit i = false) :
    w64 ((s : Int) - bShl .i64 1 (p : Int)) = ((s ^^^ 2 ^ p : Nat) : Int) ∧ bAnd .i64 ((s ^^^ 2 ^ p : Nat) : Int) ((nb x c p : Nat) : Int) = (((s ^^^ 2 ^ p) &&& nb x c p : Nat) : Int) ∧ s ^^^ 2 ^ p < 2 ^ x.p.toNat ∧
    (s ^^^ 2 ^ p) &&& nb x c p < 2 ^ x.p.toNat ∧ (∀ i, i < p + 1 → (s ^^^ 2 ^ p).testBit i = false) ∧ mem s p x.p.toNat = (p : Int) :: mem (s ^^^ 2 ^ p) (p + 1) x.p.toNat ∧
    mem ((s ^^^ 2 ^ p) &&& nb x c p) 0 x.p.toNat = (mem (s ^^^ 2 ^ p) (p + 1) x.p.toNat).filter (aB x c p) := by
  have h2 : 2 ^ p < 2 ^ x.p.toNat := Nat.pow_lt_pow_right (by omega) hpn
  have hx := Nat.xor_lt_two_pow hs h2
  have ht : ∀ i, (s ^^^ 2 ^ p).testBit i = (s.testBit i && !decide (p = i)) := fun i => by
    rw [Nat.testBit_xor, Nat.testBit_two_pow]
    by_cases e : p = i
    · subst e; simp [hb]
    · simp [e]
  have hlow' : ∀ i, i < p + 1 → (s ^^^ 2 ^ p).testBit i = false := fun i hi => by
    rw [ht]
    by_cases e : p = i
    · simp [e]
    · rw [hlow i (by omega)]; simp
  have hsum : (s ^^^ 2 ^ p) + 2 ^ p = s := xor_sub hb hlow
  refine ⟨?_, bAnd_nat (sp63 x hp hx) (nb_lt x hp c p), hx, Nat.lt_of_le_of_lt Nat.and_le_left hx, hlow', ?_, ?_⟩
  · rw [bShl_one (by omega)]
    have h63 := sp63 x hp hs
    have e63 : (2 : Nat) ^ 63 = 9223372036854775808 := by decide
    rw [e63] at h63
    generalize 2 ^ p = u at *
    generalize s ^^^ u = v at *
    rw [w64_id (by omega)]
    omega
  · rw [mem_yes hpn hb]
    congr 1
    exact mem_congr fun i h1 h2 => by rw [ht]; have : ¬ p = i := by omega
                                      simp [this]
  · rw [mem_low (p := p + 1) fun i hi => by rw [Nat.testBit_and, hlow' i hi]; rfl]
    refine mem_flt fun i h1 h2 => ?_
    rw [Nat.testBit_and, nb_test]
    simp [h2]

theorem clique3_val : ∀ (m s k : Nat), s < 2 ^ x.p.toNat → m + 200 ≤ k → spec_l03Clique k x c (s : Int) (m : Int) = some (decide (cl (aB x c) m (mem s 0 x.p.toNat) ≠ [])) := by
  intro m
  induction m with
  | zero =>
    intro s k hs hk
    obtain ⟨k, rfl⟩ : ∃ q, k = q + 1 := ⟨k - 1, by omega⟩
    rw [spec_l03Clique, spec_l03Clique_body, cl_zero]
    simp
  | succ m ih =>
    intro s0 k hs0 hk
    obtain ⟨k, rfl⟩ : ∃ q, k = q + 1 := ⟨k - 1, by omega⟩
    rw [spec_l03Clique, spec_l03Clique_body, if_neg (by simp only [decide_eq_true_eq]; omega), ones_val (n := x.p.toNat) (by omega) (by omega) hs0, Option.bind_some]
    by_cases hs : ((mem s0 0 x.p.toNat).length : Int) < ((m + 1 : Nat) : Int)
    · rw [if_pos (decide_eq_true hs), cl_short _ _ (m + 1) (by omega)]; simp
    rw [if_neg (by simpa using hs)]
    have hml := mem_length s0 0 x.p.toNat
    have hw : w64 (((m + 1 : Nat) : Int) - 1) = (m : Int) := by rw [w64_id (by omega)]; omega
    have loop : ∀ (d p s : Nat) (f : Nat), x.p.toNat - p = d → d < f → p ≤ x.p.toNat → s < 2 ^ x.p.toNat → (∀ i, i < p → s.testBit i = false) →
        spec_l03Clique_l0 k (spec_l03Clique k) x c ((m + 1 : Nat) : Int) f (s : Int) (p : Int) = some (if cl (aB x c) (m + 1) (mem s p x.p.toNat) ≠ [] then .inr true else .inl ()) := by
      intro d
      induction d with
      | zero =>
        intro p s f hd hf hpn hs hlow
        obtain ⟨f, rfl⟩ : ∃ q, f = q + 1 := ⟨f - 1, by omega⟩
        rw [spec_l03Clique_l0, if_neg (by simp only [decide_eq_true_eq]; omega), mem_end (by omega), cl_nil]
        simp
      | succ d ihd =>
        intro p s f hd hf hpn hs hlow
        obtain ⟨f, rfl⟩ : ∃ q, f = q + 1 := ⟨f - 1, by omega⟩
        have hpx : p < x.p.toNat := by omega
        have hu : IntKind.u64.wrap (p : Int) = p := u64_id (by omega)
        have hw2 : w64 ((p : Int) + 1) = ((p + 1 : Nat) : Int) := by rw [w64_id (by omega)]; omega
        rw [spec_l03Clique_l0, if_pos (decide_eq_true (by omega)), hu, if_pos (by omega), bit_eq (sp63 x hp hs) (by omega), hw2]
        cases hb : s.testBit p with
        | false =>
          simp only [Bool.false_eq_true, if_false, decide_true, if_true, Option.bind_some]
          rw [ihd (p + 1) s f (by omega) (by omega) (by omega) hs (fun i hi => by
            by_cases e : i = p
            · subst e; exact hb
            · exact hlow i (by omega)), mem_no hpx hb]
        | true =>
          obtain ⟨t1, t2, t3, t4, t5, t6, t7⟩ := takebit x hp c hs hpx hb hlow
          rw [if_pos rfl, if_neg (by simp), if_pos (by omega), around_nb k x hp (by omega) c p (by omega), Option.bind_some, t1, t2, hw, ih _ k t4 (by omega), Option.bind_some, t6, cl_cons, ← t7]
          by_cases h : cl (aB x c) m (mem ((s ^^^ 2 ^ p) &&& nb x c p) 0 x.p.toNat) ≠ []
          · rw [decide_eq_true h, if_pos rfl]
            simp [h]
          · have h' := Classical.not_not.1 h
            rw [decide_eq_false h, if_neg (by simp), Option.bind_some]
            dsimp only
            rw [ihd (p + 1) _ f (by omega) (by omega) (by omega) t3 t5, h']
            simp
    have := loop x.p.toNat 0 s0 k (by omega) (by omega) (by omega) hs0 (fun i hi => by omega)
    rw [show ((0 : Nat) : Int) = 0 from rfl] at this
    rw [this]
    by_cases h : cl (aB x c) (m + 1) (mem s0 0 x.p.toNat) ≠ [] <;> simp [h]
end
end Go.Proofs.YtjcgphgipleccaaGreat
