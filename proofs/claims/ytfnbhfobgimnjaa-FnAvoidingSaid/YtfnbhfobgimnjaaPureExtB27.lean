/- Plain laws: whether points have a clique, by both sides. No conditions beyond those that each lemma states. -/
import Derived.Test.YtfnbhfobgimnjaaPureClqF27
set_option linter.unusedVariables false
set_option linter.unusedSimpArgs false
namespace Go.Proofs.Ytfnbhfobgimnjaa
open Go Go.RowKit Ab

/-- The neighbours of a point, as bits. -/
def nb (x : Col) (c : Int) (p : Nat) : Nat := bitsN (fun j => aB x c (p : Int) (j : Int)) x.p.toNat

theorem nb_test (x : Col) (c : Int) (p j : Nat) : (nb x c p).testBit j = (decide (j < x.p.toNat) && aB x c (p : Int) (j : Int)) := bitsN_test _ _ _

theorem nb_lt (x : Col) (hp : 1 ≤ x.p ∧ x.p ≤ 17) (c : Int) (p : Nat) : nb x c p < 2 ^ 63 := lt63 (lt17 (bitsN_lt _ _) (by omega))

theorem around_nb (k : Nat) (x : Col) (hx : 1 ≤ x.p ∧ x.p ≤ 17) (hk : 20 ≤ k) (c : Int) (i : Nat) (hi : (i : Int) < x.p) : spec_l01Around k x i c = some ((nb x c i : Nat) : Int) := by
  unfold spec_l01Around nb
  generalize hP : (fun j : Nat => aB x c (i : Int) (j : Int)) = P
  have hP' : ∀ j : Nat, P j = aB x c (i : Int) (j : Int) := fun j => by rw [← hP]
  have := loopI (f := fun k t (s : Int) => spec_l01Around_l0 x i c k s t) x.p 0 (fun t s => t ≤ x.p ∧ s = ((bitsN P t.toNat : Nat) : Int)) (fun r => r = ((bitsN P x.p.toNat : Nat) : Int)) ?_ ?_ k 0 0 (by omega) (by omega) ⟨by omega, rfl⟩
  · obtain ⟨r, e, rfl⟩ := this
    rw [e]; rfl
  · intro k t s h0 h1 ⟨_, q⟩
    left
    obtain ⟨m, rfl⟩ := nat_of h0
    refine ⟨_, ?_, by omega, rfl⟩
    show spec_l01Around_l0 x i c (k + 1) s m = _
    have e0 : ((m : Int) + 1).toNat = m + 1 := by omega
    rw [spec_l01Around_l0, w64_succ h0 h1 (by omega), e0, u64_id (by omega)]
    simp only [Int.toNat_natCast] at q
    have hb := lt63 (lt17 (bitsN_lt P m) (by omega))
    have hor := bOr_nat (a := bitsN P m) (b := 2 ^ m) hb (Nat.pow_lt_pow_right (by omega) (by omega))
    simp only [h1, decide_true, if_true]
    have hPm := hP' m
    unfold aB at hPm
    by_cases e : m = i
    · subst e
      simp only [ne_eq, not_true_eq_false, false_and, decide_false] at hPm
      simp [hPm, bitsN, q]
    · have e' : ¬ (m : Int) = i := by omega
      have e'' : ¬ (i : Int) = m := by omega
      rw [specAt_ne x i m (by omega) (by omega) (by omega) (by omega) (by omega)]
      by_cases h : x.cc i m = c
      · simp only [ne_eq, e'', not_false_eq_true, h, and_self, decide_true] at hPm
        simp only [e', h, decide_false, Bool.not_false, if_true, Option.bind_some, decide_true, h0, q]
        rw [bShl_one (by omega), hor]
        simp [bitsN, hPm]
      · simp only [ne_eq, e'', not_false_eq_true, h, and_false, decide_false] at hPm
        simp [e', h, bitsN, hPm, q]
  · intro k t s h0 h1 ⟨q1, q2⟩
    have : t = x.p := by omega
    subst this
    refine ⟨s, ?_, q2⟩
    show spec_l01Around_l0 x i c (k + 1) s x.p = _
    rw [spec_l01Around_l0]; simp

theorem ones_loop : ∀ (m s : Nat) (cnt : Int) (k : Nat), s < 2 ^ m → m ≤ 60 → m < k → 0 ≤ cnt → cnt + m ≤ 1000 → spec_l01Ones_l0 k (s : Int) cnt = some (cnt + (mem s 0 m).length) := by
  intro m
  induction m with
  | zero =>
    intro s cnt k hs hm hk h0 h1
    obtain ⟨k, rfl⟩ : ∃ q, k = q + 1 := ⟨k - 1, by omega⟩
    have : s = 0 := by simpa using hs
    subst this
    rw [spec_l01Ones_l0, mem_end (by omega)]; simp
  | succ m ih =>
    intro s cnt k hs hm hk h0 h1
    obtain ⟨k, rfl⟩ : ∃ q, k = q + 1 := ⟨k - 1, by omega⟩
    rw [spec_l01Ones_l0]
    by_cases h : s = 0
    · subst h
      have : mem 0 0 (m + 1) = [] := by
        unfold mem
        rw [List.filter_eq_nil_iff]
        intro a _; simp
      rw [this]; simp
    · have hp : (0 : Int) < (s : Int) := by omega
      have hb : s < 2 ^ 61 := Nat.lt_of_lt_of_le hs (Nat.pow_le_pow_right (by omega) (by omega))
      have e1 : (s : Int).tdiv 2 = ((s / 2 : Nat) : Int) := by rw [Int.tdiv_eq_ediv_of_nonneg (by omega)]; omega
      have e2 : (s : Int).tmod 2 = ((s % 2 : Nat) : Int) := by rw [Int.tmod_eq_emod_of_nonneg (by omega)]; omega
      rw [decide_eq_true hp, if_pos rfl, e1, e2, w64_id (by omega), w64_id (by omega), ih (s / 2) _ k (by rw [Nat.pow_succ] at hs; omega) (by omega) (by omega) (by omega) (by omega), mem_half]
      congr 1
      rw [Int.natCast_add]
      omega

theorem ones_val {k n s : Nat} (hk : 100 ≤ k) (hn : n ≤ 60) (hs : s < 2 ^ n) : spec_l01Ones k (s : Int) = some ((mem s 0 n).length : Int) := by
  unfold spec_l01Ones
  rw [ones_loop n s 0 k hs hn (by omega) (by omega) (by omega)]
  simp

theorem joins_val (x : Col) (p q c : Int) (hp : 0 ≤ p ∧ p < 17) (hq : 0 ≤ q ∧ q < 17) : impl_Colouring_joins x p q c = some (aB x c p q) := by
  unfold impl_Colouring_joins aB
  by_cases e : p = q
  · subst e; simp
  · rw [implAt_ne x p q hp.1 hp.2 hq.1 hq.2 e]
    simp [e]

/-! ### The program's -/
theorem rest_val (x : Col) (c : Int) (pts : List Int) (hr : inR pts) (hl : pts.length ≤ 17) (i : Nat) (hi : i < pts.length) (k : Nat) (hk : 20 ≤ k) :
    impl_Colouring_hasClique_l1 x c pts i k 0 [] = some ((pts.drop (i + 1)).filter fun q => aB x c (pts.getD i 0) q) := by
  have hw : w64 ((i : Int) + 1) = ((i + 1 : Nat) : Int) := by rw [w64_id (by omega)]; omega
  have hgr : ∀ j : Nat, j < pts.length → 0 ≤ pts.getD j 0 ∧ pts.getD j 0 < 17 := fun j hj => hr _ (mem_getD.2 ⟨j, hj, rfl⟩)
  obtain ⟨R, hR⟩ : ∃ R, R = pts.drop (i + 1) := ⟨_, rfl⟩
  have hRr : ∀ j : Nat, j < R.length → 0 ≤ R.getD j 0 ∧ R.getD j 0 < 17 := fun j hj => by
    have hsub : ∀ z ∈ R, z ∈ pts := fun z hz => by rw [hR] at hz; exact List.mem_of_mem_drop hz
    exact hr _ (hsub _ (mem_getD.2 ⟨j, hj, rfl⟩))
  have hRl : R.length ≤ 17 := by rw [hR, List.length_drop]; omega
  have hpi := hgr i hi
  have := loopI (f := fun k' j (s : List Int) => impl_Colouring_hasClique_l1 x c pts i k' j s) (R.length : Int) 0 (fun j s => j ≤ R.length ∧ s = (R.take j.toNat).filter fun q => aB x c (pts.getD i 0) q) (fun s => s = R.filter fun q => aB x c (pts.getD i 0) q) ?_ ?_ k 0 [] (by omega) (by omega) ⟨by omega, by simp⟩
  · obtain ⟨s, e, rfl⟩ := this
    rw [← hR]; exact e
  · rintro k' j s h0 h1 ⟨q1, rfl⟩
    left
    refine ⟨(R.take (j + 1).toNat).filter fun q => aB x c (pts.getD i 0) q, ?_, by omega, rfl⟩
    show impl_Colouring_hasClique_l1 x c pts i (k' + 1) j _ = _
    rw [impl_Colouring_hasClique_l1, hw, Int.toNat_natCast, List.take_length, ← hR, Int.toNat_natCast, w64_succ h0 h1 (by omega)]
    rw [if_pos (decide_eq_true h1), if_pos ⟨h0, h1⟩, joins_val x _ _ c hpi (hRr j.toNat (by omega)), Option.bind_some]
    have eR : R[j.toNat]'(by omega) = R.getD j.toNat 0 := by simp [show j.toNat < R.length by omega]
    rw [show (j + 1).toNat = j.toNat + 1 by omega, List.take_succ_eq_append_getElem (show j.toNat < R.length by omega), List.filter_append, eR]
    have hlen : ((R.take j.toNat).filter fun q => aB x c (pts.getD i 0) q).length ≤ 17 := Nat.le_trans (List.length_filter_le _ _) (by simp; omega)
    cases hb : aB x c (pts.getD i 0) (R.getD j.toNat 0) with
    | true =>
      have hf : [R.getD j.toNat 0].filter (fun q => aB x c (pts.getD i 0) q) = [R.getD j.toNat 0] := by rw [List.filter_cons, if_pos hb]; rfl
      rw [if_pos rfl, if_pos (by simp only [List.length_singleton]; omega), hf]; rfl
    | false =>
      have hf : [R.getD j.toNat 0].filter (fun q => aB x c (pts.getD i 0) q) = [] := by rw [List.filter_cons, if_neg (by rw [hb]; simp)]; rfl
      rw [if_neg (by simp), hf, List.append_nil]; rfl
  · rintro k' j s h0 h1 ⟨q1, rfl⟩
    refine ⟨R.filter fun q => aB x c (pts.getD i 0) q, ?_, rfl⟩
    show impl_Colouring_hasClique_l1 x c pts i (k' + 1) j _ = _
    rw [impl_Colouring_hasClique_l1, hw, Int.toNat_natCast, List.take_length, ← hR, if_neg (by simp only [decide_eq_true_eq]; omega), show j.toNat = R.length by omega, List.take_length]

theorem hasClique_val (x : Col) (c : Int) : ∀ (m : Nat) (pts : List Int), inR pts → pts.length ≤ 17 → ∀ k, m + 50 ≤ k → impl_Colouring_hasClique k x c m pts = some (decide (cl (aB x c) m pts ≠ [])) := by
  intro m
  induction m with
  | zero =>
    intro pts _ _ k hk
    obtain ⟨k, rfl⟩ : ∃ q, k = q + 1 := ⟨k - 1, by omega⟩
    rw [impl_Colouring_hasClique, impl_Colouring_hasClique_body, cl_zero]
    simp
  | succ m ih =>
    intro pts hr hl k hk
    obtain ⟨k, rfl⟩ : ∃ q, k = q + 1 := ⟨k - 1, by omega⟩
    rw [impl_Colouring_hasClique, impl_Colouring_hasClique_body, if_neg (by simp only [decide_eq_true_eq]; omega)]
    unfold impl_size
    by_cases hs : (pts.length : Int) < ((m + 1 : Nat) : Int)
    · rw [if_pos (decide_eq_true hs), cl_short _ pts (m + 1) (by omega)]; simp
    · rw [if_neg (by simpa using hs)]
      have hw : w64 (((m + 1 : Nat) : Int) - 1) = (m : Int) := by rw [w64_id (by omega)]; omega
      have := loopI (f := fun k' j (_ : Unit) => impl_Colouring_hasClique_l0 k (impl_Colouring_hasClique k) x c ((m + 1 : Nat) : Int) pts k' j) (pts.length : Int) 0
        (fun j _ => j ≤ pts.length ∧ (cl (aB x c) (m + 1) pts ≠ [] ↔ cl (aB x c) (m + 1) (pts.drop j.toNat) ≠ [])) (fun r => r = if cl (aB x c) (m + 1) pts ≠ [] then .inr true else .inl ()) ?_ ?_ k 0 () (by omega) (by omega) ⟨by omega, by simp⟩
      · obtain ⟨r, e, rfl⟩ := this
        rw [e]
        by_cases h : cl (aB x c) (m + 1) pts ≠ [] <;> simp [h]
      · rintro k' j _ h0 h1 ⟨q1, q2⟩
        obtain ⟨i, rfl⟩ : ∃ i : Nat, j = i := ⟨j.toNat, by omega⟩
        have hi : i < pts.length := by omega
        rw [Int.toNat_natCast] at q2
        have hd : pts.drop i = pts.getD i 0 :: pts.drop (i + 1) := by
          rw [List.drop_eq_getElem_cons hi]; simp [hi]
        rw [hd, cl_cons] at q2
        have hrest : inR ((pts.drop (i + 1)).filter fun q => aB x c (pts.getD i 0) q) := fun z hz => hr z (List.mem_of_mem_drop (List.mem_filter.1 hz).1)
        have hrl : ((pts.drop (i + 1)).filter fun q => aB x c (pts.getD i 0) q).length ≤ 17 := Nat.le_trans (List.length_filter_le _ _) (by rw [List.length_drop]; omega)
        have hih := ih _ hrest hrl k (by omega)
        have hstep : impl_Colouring_hasClique_l0 k (impl_Colouring_hasClique k) x c ((m + 1 : Nat) : Int) pts (k' + 1) i = (if cl (aB x c) m ((pts.drop (i + 1)).filter fun q => aB x c (pts.getD i 0) q) ≠ [] then some (.inr true) else impl_Colouring_hasClique_l0 k (impl_Colouring_hasClique k) x c ((m + 1 : Nat) : Int) pts k' ((i : Int) + 1)) := by
          rw [impl_Colouring_hasClique_l0, if_pos (decide_eq_true h1), if_pos ⟨h0, h1⟩, w64_succ h0 h1 (by omega), if_pos ⟨by omega, by omega, by omega⟩, rest_val x c pts hr hl i hi k (by omega), Option.bind_some, hw, hih]
          by_cases h : cl (aB x c) m ((pts.drop (i + 1)).filter fun q => aB x c (pts.getD i 0) q) ≠ []
          · rw [decide_eq_true h, if_pos h]; rfl
          · rw [decide_eq_false h, if_neg h]; rfl
        by_cases h : cl (aB x c) m ((pts.drop (i + 1)).filter fun q => aB x c (pts.getD i 0) q) ≠ []
        · right
          refine ⟨.inr true, ?_, ?_⟩
          · show impl_Colouring_hasClique_l0 k (impl_Colouring_hasClique k) x c ((m + 1 : Nat) : Int) pts (k' + 1) i = _
            rw [hstep, if_pos h]
          · rw [if_pos]
            rw [q2]
            intro h2
            have := List.append_eq_nil_iff.1 h2
            exact h (List.map_eq_nil_iff.1 this.1)
        · left
          refine ⟨(), ?_, by omega, ?_⟩
          · show impl_Colouring_hasClique_l0 k (impl_Colouring_hasClique k) x c ((m + 1 : Nat) : Int) pts (k' + 1) i = _
            rw [hstep, if_neg h]
          · rw [q2, show ((i : Int) + 1).toNat = i + 1 by omega]
            have h' : cl (aB x c) m ((pts.drop (i + 1)).filter fun q => aB x c (pts.getD i 0) q) = [] := Classical.not_not.1 h
            have h'' : cl (aB x c) m ((pts.drop (i + 1)).filter (aB x c (pts.getD i 0))) = [] := h'
            rw [h'']
            simp
      · rintro k' j _ h0 h1 ⟨q1, q2⟩
        have hj : j = pts.length := by omega
        subst hj
        rw [Int.toNat_natCast, List.drop_length, cl_nil] at q2
        refine ⟨.inl (), ?_, by rw [if_neg (by rw [q2]; simp)]⟩
        show impl_Colouring_hasClique_l0 k (impl_Colouring_hasClique k) x c ((m + 1 : Nat) : Int) pts (k' + 1) _ = _
        rw [impl_Colouring_hasClique_l0]; simp

theorem hasClique_neg (x : Col) (c m : Int) (pts : List Int) (k : Nat) (hk : 1 ≤ k) (hm : m ≤ 0) : impl_Colouring_hasClique k x c m pts = some true := by
  obtain ⟨k, rfl⟩ : ∃ q, k = q + 1 := ⟨k - 1, by omega⟩
  rw [impl_Colouring_hasClique, impl_Colouring_hasClique_body, if_pos (decide_eq_true hm)]

/-! ### The reference's -/
theorem xor_sub {s p : Nat} (hb : s.testBit p = true) (hlow : ∀ i, i < p → s.testBit i = false) : (s ^^^ 2 ^ p) + 2 ^ p = s := by
  have hm : s % 2 ^ (p + 1) = 2 ^ p := by
    apply bits_eq
    intro i
    rw [Nat.testBit_mod_two_pow, Nat.testBit_two_pow]
    by_cases h1 : i < p
    · rw [hlow i h1]
      have : ¬ p = i := by omega
      simp [this]
    · by_cases h2 : p = i
      · subst h2; simp [hb]
      · have : ¬ i < p + 1 := by omega
        simp [this, h2]
  have hx : s ^^^ 2 ^ p = 2 ^ (p + 1) * (s / 2 ^ (p + 1)) := by
    apply bits_eq
    intro i
    rw [Nat.testBit_xor, Nat.testBit_two_pow, Nat.testBit_two_pow_mul, Nat.testBit_div_two_pow]
    by_cases h1 : i < p
    · rw [hlow i h1]
      have h3 : ¬ p = i := by omega
      have h4 : ¬ i ≥ p + 1 := by omega
      simp [h3, h4]
    · by_cases h2 : p = i
      · subst h2
        have h4 : ¬ p ≥ p + 1 := by omega
        rw [hb, decide_eq_false h4]; simp
      · have h4 : i ≥ p + 1 := by omega
        rw [show i - (p + 1) + (p + 1) = i by omega]
        simp [h2, h4]
  have hd := Nat.div_add_mod s (2 ^ (p + 1))
  rw [hm] at hd
  rw [hx]
  exact hd

section
variable (x : Col) (hp : 1 ≤ x.p ∧ x.p ≤ 17) (c : Int)
include hp
theorem sp63 {s : Nat} (hs : s < 2 ^ x.p.toNat) : s < 2 ^ 63 := lt63 (lt17 hs (by omega))

theorem takebit {s p : Nat} (hs : s < 2 ^ x.p.toNat) (hpn : p < x.p.toNat) (hb : s.testBit p = true) (hlow : ∀ i, i < p → s.testBit i = false) :
    w64 ((s : Int) - bShl .i64 1 (p : Int)) = ((s ^^^ 2 ^ p : Nat) : Int) ∧ bAnd .i64 ((s ^^^ 2 ^ p : Nat) : Int) ((nb x c p : Nat) : Int) = (((s ^^^ 2 ^ p) &&& nb x c p : Nat) : Int) ∧ s ^^^ 2 ^ p < 2 ^ x.p.toNat ∧
    (s ^^^ 2 ^ p) &&& nb x c p < 2 ^ x.p.toNat ∧ (∀ i, i < p + 1 → (s ^^^ 2 ^ p).testBit i = false) ∧ mem s p x.p.toNat = (p : Int) :: mem (s ^^^ 2 ^ p) (p + 1) x.p.toNat ∧
    mem ((s ^^^ 2 ^ p) &&& nb x c p) 0 x.p.toNat = (mem (s ^^^ 2 ^ p) (p + 1) x.p.toNat).filter (aB x c p) := by
  have h2 : 2 ^ p < 2 ^ x.p.toNat := Nat.pow_lt_pow_right (by omega) hpn
  have hx := Nat.xor_lt_two_pow hs h2
  have ht : ∀ i, (s ^^^ 2 ^ p).testBit i = (s.testBit i && !decide (p = i)) := fun i => by
    rw [Nat.testBit_xor, Nat.testBit_two_pow]
    by_cases e : p = i
    · subst e; simp [hb]
    · simp [e]
  have hlow' : ∀ i, i < p + 1 → (s ^^^ 2 ^ p).testBit i = false := fun i hi => by
    rw [ht]
    by_cases e : p = i
    · simp [e]
    · rw [hlow i (by omega)]; simp
  have hsum : (s ^^^ 2 ^ p) + 2 ^ p = s := xor_sub hb hlow
  refine ⟨?_, bAnd_nat (sp63 x hp hx) (nb_lt x hp c p), hx, Nat.lt_of_le_of_lt Nat.and_le_left hx, hlow', ?_, ?_⟩
  · rw [bShl_one (by omega)]
    have h63 := sp63 x hp hs
    have e63 : (2 : Nat) ^ 63 = 9223372036854775808 := by decide
    rw [e63] at h63
    generalize 2 ^ p = u at *
    generalize s ^^^ u = v at *
    rw [w64_id (by omega)]
    omega
  · rw [mem_yes hpn hb]
    congr 1
    exact mem_congr fun i h1 h2 => by rw [ht]; have : ¬ p = i := by omega
                                      simp [this]
  · rw [mem_low (p := p + 1) fun i hi => by rw [Nat.testBit_and, hlow' i hi]; rfl]
    refine mem_flt fun i h1 h2 => ?_
    rw [Nat.testBit_and, nb_test]
    simp [h2]

theorem clique3_val : ∀ (m s k : Nat), s < 2 ^ x.p.toNat → m + 200 ≤ k → spec_l03Clique k x c (s : Int) (m : Int) = some (decide (cl (aB x c) m (mem s 0 x.p.toNat) ≠ [])) := by
  intro m
  induction m with
  | zero =>
    intro s k hs hk
    obtain ⟨k, rfl⟩ : ∃ q, k = q + 1 := ⟨k - 1, by omega⟩
    rw [spec_l03Clique, spec_l03Clique_body, cl_zero]
    simp
  | succ m ih =>
    intro s0 k hs0 hk
    obtain ⟨k, rfl⟩ : ∃ q, k = q + 1 := ⟨k - 1, by omega⟩
    rw [spec_l03Clique, spec_l03Clique_body, if_neg (by simp only [decide_eq_true_eq]; omega), ones_val (n := x.p.toNat) (by omega) (by omega) hs0, Option.bind_some]
    by_cases hs : ((mem s0 0 x.p.toNat).length : Int) < ((m + 1 : Nat) : Int)
    · rw [if_pos (decide_eq_true hs), cl_short _ _ (m + 1) (by omega)]; simp
    rw [if_neg (by simpa using hs)]
    have hml := mem_length s0 0 x.p.toNat
    have hw : w64 (((m + 1 : Nat) : Int) - 1) = (m : Int) := by rw [w64_id (by omega)]; omega
    have loop : ∀ (d p s : Nat) (f : Nat), x.p.toNat - p = d → d < f → p ≤ x.p.toNat → s < 2 ^ x.p.toNat → (∀ i, i < p → s.testBit i = false) →
        spec_l03Clique_l0 k (spec_l03Clique k) x c ((m + 1 : Nat) : Int) f (s : Int) (p : Int) = some (if cl (aB x c) (m + 1) (mem s p x.p.toNat) ≠ [] then .inr true else .inl ()) := by
      intro d
      induction d with
      | zero =>
        intro p s f hd hf hpn hs hlow
        obtain ⟨f, rfl⟩ : ∃ q, f = q + 1 := ⟨f - 1, by omega⟩
        rw [spec_l03Clique_l0, if_neg (by simp only [decide_eq_true_eq]; omega), mem_end (by omega), cl_nil]
        simp
      | succ d ihd =>
        intro p s f hd hf hpn hs hlow
        obtain ⟨f, rfl⟩ : ∃ q, f = q + 1 := ⟨f - 1, by omega⟩
        have hpx : p < x.p.toNat := by omega
        have hu : IntKind.u64.wrap (p : Int) = p := u64_id (by omega)
        have hw2 : w64 ((p : Int) + 1) = ((p + 1 : Nat) : Int) := by rw [w64_id (by omega)]; omega
        rw [spec_l03Clique_l0, if_pos (decide_eq_true (by omega)), hu, if_pos (by omega), bit_eq (sp63 x hp hs) (by omega), hw2]
        cases hb : s.testBit p with
        | false =>
          simp only [Bool.false_eq_true, if_false, decide_true, if_true, Option.bind_some]
          rw [ihd (p + 1) s f (by omega) (by omega) (by omega) hs (fun i hi => by
            by_cases e : i = p
            · subst e; exact hb
            · exact hlow i (by omega)), mem_no hpx hb]
        | true =>
          obtain ⟨t1, t2, t3, t4, t5, t6, t7⟩ := takebit x hp c hs hpx hb hlow
          rw [if_pos rfl, if_neg (by simp), if_pos (by omega), around_nb k x hp (by omega) c p (by omega), Option.bind_some, t1, t2, hw, ih _ k t4 (by omega), Option.bind_some, t6, cl_cons, ← t7]
          by_cases h : cl (aB x c) m (mem ((s ^^^ 2 ^ p) &&& nb x c p) 0 x.p.toNat) ≠ []
          · rw [decide_eq_true h, if_pos rfl]
            simp [h]
          · have h' := Classical.not_not.1 h
            rw [decide_eq_false h, if_neg (by simp), Option.bind_some]
            dsimp only
            rw [ihd (p + 1) _ f (by omega) (by omega) (by omega) t3 t5, h']
            simp
    have := loop x.p.toNat 0 s0 k (by omega) (by omega) (by omega) hs0 (fun i hi => by omega)
    rw [show ((0 : Nat) : Int) = 0 from rfl] at this
    rw [this]
    by_cases h : cl (aB x c) (m + 1) (mem s0 0 x.p.toNat) ≠ [] <;> simp [h]
end

/-- Those of the points of l that go with the next one in a colour. -/
def nearL (x : Col) (l : List Int) (c : Nat) : List Int := (ir 0 l.length).filter fun p => decide (l.getD p.toNat 0 = (c : Int)) && aB x c p l.length
def okX (x : Col) (sizes l : List Int) (c : Nat) : Bool := decide (cl (aB x c) (sizes.getD c 0 - 2).toNat (nearL x l c) = [])

theorem ir_split {n N : Nat} (h : n ≤ N) : ir 0 N = ir 0 n ++ ir n N := by
  unfold ir
  rw [← List.map_append]
  congr 1
  have := @List.range'_append_1 0 n (N - n)
  rw [Nat.zero_add] at this
  rw [Nat.sub_zero, Nat.sub_zero, this, show n + (N - n) = N by omega]
theorem nearL_inR {x : Col} {l : List Int} {c : Nat} (hl : l.length ≤ 17) : inR (nearL x l c) ∧ (nearL x l c).length ≤ 17 := by
  constructor
  · intro z hz
    have := mem_ir.1 (List.mem_filter.1 hz).1
    omega
  · have := List.length_filter_le (fun p : Int => decide (l.getD p.toNat 0 = (c : Int)) && aB x c p l.length) (ir 0 l.length)
    rw [ir_length] at this
    unfold nearL
    omega

def szOK (x : Col) (sizes : List Int) : Prop := (sizes.length : Int) = x.k ∧ ∀ z ∈ sizes, 1 ≤ z ∧ z ≤ 17
theorem sz_get {x : Col} {sizes : List Int} (h : szOK x sizes) {c : Nat} (hc : (c : Int) < x.k) : 1 ≤ sizes.getD c 0 ∧ sizes.getD c 0 ≤ 17 ∧ c < sizes.length := by
  have := h.1
  have hl : c < sizes.length := by omega
  have := h.2 _ (mem_getD.2 ⟨c, hl, rfl⟩)
  omega

theorem has_okX {x : Col} {sizes : List Int} (h : szOK x sizes) {c : Nat} (hc : (c : Int) < x.k) (l : List Int) (hl : l.length ≤ 17) (k : Nat) (hk : 100 ≤ k) :
    impl_Colouring_hasClique k x c (w64 (sizes.getD c 0 - 2)) (nearL x l c) = some (!okX x sizes l c) := by
  obtain ⟨h1, h2, h3⟩ := sz_get h hc
  obtain ⟨n1, n2⟩ := nearL_inR (x := x) (c := c) hl
  rw [w64_id (by omega)]
  unfold okX
  by_cases h0 : sizes.getD c 0 - 2 ≤ 0
  · rw [hasClique_neg x c _ _ k (by omega) h0, show (sizes.getD c 0 - 2).toNat = 0 by omega, cl_zero]
    simp
  · obtain ⟨m, hm⟩ : ∃ m : Nat, sizes.getD c 0 - 2 = m := ⟨(sizes.getD c 0 - 2).toNat, by omega⟩
    rw [hm, Int.toNat_natCast, hasClique_val x c m _ n1 n2 k (by omega)]
    by_cases e : cl (aB x c) m (nearL x l c) = [] <;> simp [e]

/-! ### A walk that stops -/
def runT {α σ : Type} (cb : α → σ → Bool × σ) : List α → σ → Bool × σ
  | [], s => (true, s)
  | a :: t, s => if (cb a s).1 then runT cb t (cb a s).2 else (false, (cb a s).2)
theorem runT_app {α σ : Type} (cb : α → σ → Bool × σ) (B : List α) : ∀ (A : List α) (s : σ), runT cb (A ++ B) s = if (runT cb A s).1 then runT cb B (runT cb A s).2 else (false, (runT cb A s).2)
  | [], s => by simp [runT]
  | a :: t, s => by
    rw [List.cons_append, runT, runT]
    by_cases h : (cb a s).1 = true
    · rw [if_pos h, if_pos h, runT_app cb B t]
    · rw [if_neg h, if_neg h]; simp
theorem runT_nil {α σ : Type} (cb : α → σ → Bool × σ) (s : σ) : runT cb [] s = (true, s) := rfl
theorem runT_one {α σ : Type} (cb : α → σ → Bool × σ) (a : α) (s : σ) : runT cb [a] s = cb a s := by
  rw [runT]
  cases h : (cb a s).1 with
  | true => rw [if_pos rfl, runT_nil, ← h]
  | false => rw [if_neg (by simp), ← h]

theorem spl_one (cs : List Int) (n : Nat) (c : Int) (h : n < cs.length) : (splicedL cs (0 + n) ([c].length) [c]).length = cs.length ∧ (splicedL cs (0 + n) ([c].length) [c]).take (n + 1) = cs.take n ++ [c] := by
  constructor
  · rw [splicedL_length _ _ _ _ (by simp; omega)]
  · unfold splicedL
    rw [Nat.zero_add]
    rw [List.take_append_of_le_length (by simp; omega), List.take_of_length_le (by simp; omega)]
    simp

/-! ### The walk for ExtensionsByDegree_c1 -/
/-! ### The walk for firstExtension_c1 -/
theorem near_firstExtension_c1 (x : Col) (hp : 1 ≤ x.p ∧ x.p ≤ 17) (cs0 cs : List Int) (n c : Nat) (h0' : n ≤ cs0.length) (h1' : n ≤ cs.length) (hn : n ≤ 16) (k : Nat) (hk : 20 ≤ k) :
    impl_Colouring_extensions_on_firstExtension_c1_l1 x cs0 n c cs k 0 [] = some (nearL x (cs.take n) c) := by
  have hsz : impl_size ((cs0.drop 0).take n) = (n : Int) := by unfold impl_size; simp; omega
  have hlen : (cs.take n).length = n := by simp; omega
  have := loopI (f := fun k' j (s : List Int) => impl_Colouring_extensions_on_firstExtension_c1_l1 x cs0 n c cs k' j s) (n : Int) 0
    (fun j s => j ≤ n ∧ s = (ir 0 j.toNat).filter fun p => decide ((cs.take n).getD p.toNat 0 = (c : Int)) && aB x c p n) (fun s => s = nearL x (cs.take n) c) ?_ ?_ k 0 [] (by omega) (by omega) ⟨by omega, rfl⟩
  · obtain ⟨s, e, rfl⟩ := this
    exact e
  · rintro k' j s h0 h1 ⟨q1, rfl⟩
    left
    refine ⟨_, ?_, by omega, rfl⟩
    show impl_Colouring_extensions_on_firstExtension_c1_l1 x cs0 n c cs (k' + 1) j _ = _
    obtain ⟨i, rfl⟩ : ∃ i : Nat, j = i := ⟨j.toNat, by omega⟩
    have hi : i < n := by omega
    rw [impl_Colouring_extensions_on_firstExtension_c1_l1, hsz, if_pos (decide_eq_true h1), if_pos ⟨h0, h1, by omega⟩, w64_succ h0 h1 (by omega), joins_val x _ _ _ (by omega) (by omega), Int.toNat_natCast, show ((i : Int) + 1).toNat = i + 1 by omega]
    have hg : cs.getD (0 + i) 0 = (cs.take n).getD i 0 := by simp [List.getD, List.getElem?_take, hi]
    have hsp : ir 0 (i + 1) = ir 0 i ++ [(i : Int)] := by
      rw [ir_split (show i ≤ i + 1 by omega)]
      congr 1
      rw [ir_next (show i < i + 1 by omega), ir_end (Nat.le_refl _)]
    rw [hg, hsp, List.filter_append]
    have hll : ((ir 0 i).filter fun p => decide ((cs.take n).getD p.toNat 0 = (c : Int)) && aB x c p n).length ≤ 17 := Nat.le_trans (List.length_filter_le _ _) (by rw [ir_length]; omega)
    have key : ∀ b : Bool, (decide ((cs.take n).getD i 0 = (c : Int)) && aB x c i n) = b → [(i : Int)].filter (fun p => decide ((cs.take n).getD p.toNat 0 = (c : Int)) && aB x c p n) = if b then [(i : Int)] else [] := fun b hb => by
      rw [List.filter_cons, Int.toNat_natCast, hb]
      cases b <;> rfl
    by_cases ha : (cs.take n).getD i 0 = (c : Int)
    · rw [if_pos (decide_eq_true ha)]
      cases hb : aB x c i n with
      | true =>
        rw [key true (by rw [decide_eq_true ha, hb]; rfl), if_pos rfl, Option.bind_some, Option.bind_some, if_pos rfl, if_pos (by simp only [List.length_singleton]; omega)]; rfl
      | false =>
        rw [key false (by rw [decide_eq_true ha, hb]; rfl), Option.bind_some, Option.bind_some, if_neg (by simp)]
        simp
    · rw [if_neg (by simpa using ha), key false (by rw [decide_eq_false ha]; rfl), Option.bind_some, if_neg (by simp)]
      simp
  · rintro k' j s h0 h1 ⟨q1, rfl⟩
    refine ⟨nearL x (cs.take n) c, ?_, rfl⟩
    show impl_Colouring_extensions_on_firstExtension_c1_l1 x cs0 n c cs (k' + 1) j _ = _
    rw [impl_Colouring_extensions_on_firstExtension_c1_l1, if_neg (by simp only [decide_eq_true_eq]; omega)]
    unfold nearL
    rw [hlen, show j.toNat = n by omega]

theorem run_firstExtension_c1 (x : Col) (hp : 1 ≤ x.p ∧ x.p ≤ 16) (hk4 : 0 ≤ x.k ∧ x.k ≤ 4) (sizes : List Int) (hsz : szOK x sizes) (cb : List Int → List Int → Bool × List Int) (Inv : List Int → Prop)
    (hcb : ∀ (k : Nat) (cs : List Int) (s : List Int), 100 ≤ k → cs.length = 17 → Inv s → impl_Colouring_firstExtension_c1 cs x.p.toNat s = some ((cb (cs.take x.p.toNat) s).1, cs, (cb (cs.take x.p.toNat) s).2) ∧ ((cb (cs.take x.p.toNat) s).1 = true → Inv (cb (cs.take x.p.toNat) s).2)) :
    ∀ (d : Nat) (cs : List Int) (n : Nat) (s : List Int) (k : Nat), n + d = x.p.toNat → cs.length = 17 → Inv s → d + 200 ≤ k →
      ∃ cs', cs'.length = 17 ∧ cs'.take n = cs.take n ∧ impl_Colouring_extensions_on_firstExtension_c1 k x sizes cs n s = some ((runT cb (exts x.k.toNat (okX x sizes) d (cs.take n)) s).1, cs', (runT cb (exts x.k.toNat (okX x sizes) d (cs.take n)) s).2) ∧
        ((runT cb (exts x.k.toNat (okX x sizes) d (cs.take n)) s).1 = true → Inv (runT cb (exts x.k.toNat (okX x sizes) d (cs.take n)) s).2) := by
  intro d
  induction d with
  | zero =>
    intro cs n s k hn hcs hi hk
    obtain ⟨k, rfl⟩ : ∃ q, k = q + 1 := ⟨k - 1, by omega⟩
    have hs : impl_size ((cs.drop 0).take n) = (n : Int) := by unfold impl_size; simp; omega
    rw [exts_zero, runT_one]
    have hnn : n = x.p.toNat := by omega
    subst hnn
    obtain ⟨c1, c2⟩ := hcb k cs s (by omega) hcs hi
    refine ⟨cs, hcs, rfl, ?_, c2⟩
    rw [impl_Colouring_extensions_on_firstExtension_c1, impl_Colouring_extensions_on_firstExtension_c1_body, hs, if_pos (decide_eq_true (by omega)), c1]
    rfl
  | succ d ih =>
    intro cs n s k hn hcs hi hk
    obtain ⟨k, rfl⟩ : ∃ q, k = q + 1 := ⟨k - 1, by omega⟩
    have hs : impl_size ((cs.drop 0).take n) = (n : Int) := by unfold impl_size; simp; omega
    rw [exts_succ]
    obtain ⟨l, hl⟩ : ∃ l, l = cs.take n := ⟨_, rfl⟩
    have hll : l.length = n := by rw [hl]; simp; omega
    rw [← hl]
    have hK : ((x.k.toNat : Nat) : Int) = x.k := by omega
    have := loopI (f := fun k' c (st : List Int × List Int) => impl_Colouring_extensions_on_firstExtension_c1_l0 k (impl_Colouring_extensions_on_firstExtension_c1 k) x sizes cs n k' c st.1 st.2) x.k 0
      (fun c st => c ≤ x.k ∧ st.1.length = 17 ∧ st.1.take n = l ∧ runT cb (epre x.k.toNat (okX x sizes) d l c.toNat) s = (true, st.2) ∧ Inv st.2)
      (fun r => ∃ cs', cs'.length = 17 ∧ cs'.take n = l ∧ ((∃ s', r = .inl (cs', s') ∧ runT cb (epre x.k.toNat (okX x sizes) d l x.k.toNat) s = (true, s') ∧ Inv s') ∨ (∃ s', r = .inr (false, cs', s') ∧ runT cb (epre x.k.toNat (okX x sizes) d l x.k.toNat) s = (false, s')))) ?_ ?_ k 0 (cs, s) (by omega) (by omega) ⟨by omega, hcs, hl.symm, rfl, hi⟩
    · obtain ⟨r, e, cs', h1, h2, h3⟩ := this
      refine ⟨cs', h1, h2, ?_, ?_⟩
      · rw [impl_Colouring_extensions_on_firstExtension_c1, impl_Colouring_extensions_on_firstExtension_c1_body, hs, if_neg (by simp only [decide_eq_true_eq]; omega), e]
        rcases h3 with ⟨s', rfl, h4, _⟩ | ⟨s', rfl, h4⟩ <;> rw [h4] <;> rfl
      · rcases h3 with ⟨s', rfl, h4, h5⟩ | ⟨s', rfl, h4⟩
        · rw [h4]; intro _; exact h5
        · rw [h4]; intro h; cases h
    · rintro k' j ⟨ds, t⟩ h0 h1 ⟨q1, q2, q3, q4, q5⟩
      dsimp only at q2 q3 q4 q5
      obtain ⟨c, rfl⟩ : ∃ c : Nat, j = c := ⟨j.toNat, by omega⟩
      rw [Int.toNat_natCast] at q4
      obtain ⟨z1, z2, z3⟩ := sz_get hsz h1
      have hnear := near_firstExtension_c1 x (by omega) cs ds n c (by omega) (by omega) (by omega) k (by omega)
      rw [q3] at hnear
      have hhas := has_okX hsz h1 l (by omega) k (by omega)
      obtain ⟨B, hB⟩ := epre_more (K := x.k.toNat) (ok := okX x sizes) (n := d) (l := l) (c + 1) (x.k.toNat - (c + 1))
      rw [show c + 1 + (x.k.toNat - (c + 1)) = x.k.toNat by omega] at hB
      have hpre := epre_succ (K := x.k.toNat) (ok := okX x sizes) (n := d) (l := l) c
      have hstep : impl_Colouring_extensions_on_firstExtension_c1_l0 k (impl_Colouring_extensions_on_firstExtension_c1 k) x sizes cs n (k' + 1) c ds t = ((if okX x sizes l c then (impl_Colouring_extensions_on_firstExtension_c1 k x sizes (splicedL ds (0 + n) ([(c : Int)].length) [(c : Int)]) (n + [(c : Int)].length) t).bind fun r23 => some (!r23.1, r23.2.1, r23.2.2) else some (false, ds, t)) : Option (Bool × List Int × List Int)).bind fun s24 => if s24.1 then some (.inr (false, s24.2.1, s24.2.2)) else impl_Colouring_extensions_on_firstExtension_c1_l0 k (impl_Colouring_extensions_on_firstExtension_c1 k) x sizes cs n k' ((c : Int) + 1) s24.2.1 s24.2.2 := by
        rw [impl_Colouring_extensions_on_firstExtension_c1_l0, if_pos (decide_eq_true h1), hnear, Option.bind_some, if_pos ⟨h0, by omega⟩, Int.toNat_natCast, hhas, Option.bind_some, w64_succ h0 h1 (by omega)]
        cases okX x sizes l c with
        | false => rfl
        | true =>
          simp only [Bool.not_true, Bool.not_false, if_true]
          rw [if_pos ⟨by simp only [List.length_singleton]; omega, by simp⟩]
          cases impl_Colouring_extensions_on_firstExtension_c1 k x sizes (splicedL ds (0 + n) ([(c : Int)].length) [(c : Int)]) (n + [(c : Int)].length) t with
          | none => rfl
          | some r => cases hr : r.1 <;> simp [hr]
      cases hok : okX x sizes l c with
      | false =>
        left
        refine ⟨(ds, t), ?_, by omega, q2, q3, ?_, q5⟩
        · show impl_Colouring_extensions_on_firstExtension_c1_l0 k (impl_Colouring_extensions_on_firstExtension_c1 k) x sizes cs n (k' + 1) c ds t = _
          rw [hstep, hok]; rfl
        · rw [show ((c : Int) + 1).toNat = c + 1 by omega, hpre]
          unfold esub
          rw [hok, if_neg (by simp), List.append_nil]
          exact q4
      | true =>
        obtain ⟨p1, p2⟩ := spl_one ds n c (by omega)
        rw [q3] at p2
        obtain ⟨es, g1, g2, g3, g4⟩ := ih (splicedL ds (0 + n) ([(c : Int)].length) [(c : Int)]) (n + 1) t k (by omega) (by rw [p1, q2]) q5 (by omega)
        rw [p2] at g2 g3 g4
        have g2' : es.take n = l := by
          have : (es.take (n + 1)).take n = (l ++ [(c : Int)]).take n := by rw [g2]
          have e2 : (l ++ [(c : Int)]).take n = l := by rw [List.take_append_of_le_length (by omega), List.take_of_length_le (by omega)]
          rw [List.take_take, show min n (n + 1) = n by omega, e2] at this
          exact this
        have hsub : esub x.k.toNat (okX x sizes) d l c = exts x.k.toNat (okX x sizes) d (l ++ [(c : Int)]) := by unfold esub; rw [hok, if_pos rfl]
        have hr2 : runT cb (epre x.k.toNat (okX x sizes) d l (c + 1)) s = runT cb (exts x.k.toNat (okX x sizes) d (l ++ [(c : Int)])) t := by
          rw [hpre, runT_app, q4, hsub]; rfl
        rw [show n + [(c : Int)].length = n + 1 from rfl] at hstep
        cases hb : (runT cb (exts x.k.toNat (okX x sizes) d (l ++ [(c : Int)])) t).1 with
        | true =>
          left
          refine ⟨(es, (runT cb (exts x.k.toNat (okX x sizes) d (l ++ [(c : Int)])) t).2), ?_, by omega, g1, g2', ?_, g4 hb⟩
          · show impl_Colouring_extensions_on_firstExtension_c1_l0 k (impl_Colouring_extensions_on_firstExtension_c1 k) x sizes cs n (k' + 1) c ds t = _
            rw [hstep, hok, if_pos rfl, g3, hb]; rfl
          · rw [show ((c : Int) + 1).toNat = c + 1 by omega, hr2, ← hb]
        | false =>
          right
          refine ⟨.inr (false, es, (runT cb (exts x.k.toNat (okX x sizes) d (l ++ [(c : Int)])) t).2), ?_, es, g1, g2', .inr ⟨_, rfl, ?_⟩⟩
          · show impl_Colouring_extensions_on_firstExtension_c1_l0 k (impl_Colouring_extensions_on_firstExtension_c1 k) x sizes cs n (k' + 1) c ds t = _
            rw [hstep, hok, if_pos rfl, g3, hb]; rfl
          · rw [hB, runT_app, hr2, hb]; rfl
    · rintro k' j ⟨ds, t⟩ h0 h1 ⟨q1, q2, q3, q4, q5⟩
      dsimp only at q2 q3 q4 q5
      refine ⟨.inl (ds, t), ?_, ds, q2, q3, .inl ⟨t, rfl, ?_, q5⟩⟩
      · show impl_Colouring_extensions_on_firstExtension_c1_l0 k (impl_Colouring_extensions_on_firstExtension_c1 k) x sizes cs n (k' + 1) j ds t = _
        rw [impl_Colouring_extensions_on_firstExtension_c1_l0, if_neg (by simp only [decide_eq_true_eq]; omega)]
      · rw [show x.k.toNat = j.toNat by omega]
        rw [show j.toNat = x.k.toNat by omega] at q4 ⊢
        exact q4

/-! ### The walk for ExtensionList_c1 -/
end Go.Proofs.Ytfnbhfobgimnjaa
