/- The plain law of FnExactLesserPart: the program's answer is the reference's. No conditions beyond those that each lemma states. -/
import Derived.Test.YtfnbhfobgimnjaaPureFirst
import Derived.Test.YtfnbhfobgimnjaaPureClqG28
import Derived.Test.YtfnbhfobgimnjaaPureCore28
set_option linter.unusedVariables false
set_option linter.unusedSimpArgs false
namespace Go.Proofs.Ytfnbhfobgimnjaa
open Go Go.RowKit Ab

/-! ### Sets as bits -/
def memP (n s : Nat) : List Int := pick n fun i => s.testBit i
theorem memP_mem {n s : Nat} {z : Int} : z ∈ memP n s ↔ ∃ v : Nat, z = v ∧ v < n ∧ s.testBit v = true := pick_mem
theorem memP_pw (n s : Nat) : (memP n s).Pairwise (· < ·) := pick_pw _ _
theorem memP_len (n s : Nat) : (memP n s).length ≤ n := pick_length _ _

theorem bit_hi {n s v : Nat} (h : s < 2 ^ n) (hv : s.testBit v = true) : v < n := by
  apply Classical.byContradiction
  intro hc
  have : s < 2 ^ v := Nat.lt_of_lt_of_le h (Nat.pow_le_pow_right (by omega) (by omega))
  rw [Nat.testBit_lt_two_pow this] at hv
  cases hv

theorem memP_zero (n : Nat) : memP n 0 = [] := by
  refine List.eq_nil_iff_forall_not_mem.2 fun z hz => ?_
  obtain ⟨v, _, _, h⟩ := memP_mem.1 hz
  simp at h

theorem first_bit {s : Nat} (h : s ≠ 0) : ∃ i, s.testBit i = true ∧ ∀ j, j < i → s.testBit j = false := by
  have hex : ∃ i, s.testBit i = true := by
    apply Classical.byContradiction
    intro hc
    apply h
    apply bits_eq
    intro i
    rw [Nat.zero_testBit]
    cases hb : s.testBit i with
    | false => rfl
    | true => exact absurd ⟨i, hb⟩ hc
  obtain ⟨i, hi⟩ := hex
  induction i using Nat.strongRecOn with
  | _ i ih =>
    by_cases h : ∃ j, j < i ∧ s.testBit j = true
    · obtain ⟨j, h1, h2⟩ := h
      exact ih j h1 h2
    · refine ⟨i, hi, fun j hj => ?_⟩
      cases hb : s.testBit j with
      | false => rfl
      | true => exact absurd ⟨j, hj, hb⟩ h

theorem rest_bit (s i j : Nat) (hi : s.testBit i = true) : (s ^^^ 2 ^ i).testBit j = (s.testBit j && decide (j ≠ i)) := by
  rw [Nat.testBit_xor, Nat.testBit_two_pow]
  by_cases e : i = j
  · subst e; simp [hi]
  · have : ¬ j = i := fun h => e h.symm
    simp [e, this]

theorem memP_cons {n s i : Nat} (hs : s < 2 ^ n) (hi : s.testBit i = true) (hlt : ∀ j, j < i → s.testBit j = false) : memP n s = (i : Int) :: memP n (s ^^^ 2 ^ i) := by
  refine pw_ext _ _ (memP_pw _ _) (List.pairwise_cons.2 ⟨fun z hz => ?_, memP_pw _ _⟩) fun z => ?_
  · obtain ⟨v, rfl, _, h⟩ := memP_mem.1 hz
    rw [rest_bit s i v hi] at h
    simp at h
    have : ¬ v < i := fun h' => by rw [hlt v h'] at h; simp at h
    omega
  · rw [List.mem_cons, memP_mem, memP_mem]
    constructor
    · rintro ⟨v, rfl, h1, h2⟩
      by_cases e : v = i
      · subst e; exact .inl rfl
      · exact .inr ⟨v, rfl, h1, by rw [rest_bit s i v hi]; simp [h2, e]⟩
    · rintro (rfl | ⟨v, rfl, h1, h2⟩)
      · exact ⟨i, rfl, bit_hi hs hi, hi⟩
      · rw [rest_bit s i v hi] at h2
        simp at h2
        exact ⟨v, rfl, h1, h2.1⟩

theorem rest_lt {n s i : Nat} (hs : s < 2 ^ n) (hi : s.testBit i = true) : s ^^^ 2 ^ i < 2 ^ n :=
  Nat.xor_lt_two_pow hs (Nat.pow_lt_pow_right (by omega) (bit_hi hs hi))

abbrev fx (x : Col) : Int → Int → Int := fun a b => x.cc a b

open Classical in
theorem mem_own (x : Col) (c : Int) (i s : Nat) (hi : (i : Int) < x.p) (hni : s.testBit i = false) : memP x.p.toNat (s &&& bitsN (fun j => decide (adj x c i j)) x.p.toNat) = own (fx x) i c (memP x.p.toNat s) := by
  refine pw_ext _ _ (memP_pw _ _) ((memP_pw _ _).sublist List.filter_sublist) fun z => ?_
  rw [memP_mem, own, List.mem_filter, memP_mem]
  constructor
  · rintro ⟨v, rfl, h1, h2⟩
    rw [Nat.testBit_and, bitsN_test] at h2
    simp at h2
    exact ⟨⟨v, rfl, h1, h2.1⟩, decide_eq_true h2.2.2.2.2.2⟩
  · rintro ⟨⟨v, rfl, h1, h2⟩, h3⟩
    have h3 := of_decide_eq_true h3
    refine ⟨v, rfl, h1, ?_⟩
    rw [Nat.testBit_and, bitsN_test]
    have : i ≠ v := fun e => by subst e; rw [hni] at h2; cases h2
    have ha : adj x c i v := ⟨hi, by omega, this, h3⟩
    simp [h1, h2, ha]

/-! ### The greatest number -/
def MM (x : Col) (s : Nat) : Nat := LL (fx x) none (memP x.p.toNat s)
theorem MM_le (x : Col) (s : Nat) : MM x s ≤ x.p.toNat := Nat.le_trans (LL_le_len _ _ _ (memP_pw _ _)) (memP_len _ _)
theorem MM_zero (x : Col) : MM x 0 = 0 := by unfold MM; rw [memP_zero, LL]

/-- A table that holds nothing false. -/
def Tab (x : Col) (T : List Int) : Prop := T.length = 2 ^ x.p.toNat ∧ ∀ s, s < 2 ^ x.p.toNat → T.getD s 0 < 0 ∨ T.getD s 0 = MM x s

theorem Tab.set {x : Col} {T : List Int} (h : Tab x T) {s : Nat} (hs : s < 2 ^ x.p.toNat) : Tab x (T.set s (MM x s)) := by
  refine ⟨by rw [List.length_set]; exact h.1, fun t ht => ?_⟩
  by_cases e : s = t
  · subst e
    rw [getD_set_self (by rw [h.1]; exact hs)]
    exact .inr rfl
  · rw [getD_set_ne e]
    exact h.2 t ht

theorem size_l0 (s i : Nat) (hs : s < 2 ^ 63) (hi : s.testBit i = true) (hlt : ∀ j, j < i → s.testBit j = false) (hi17 : i < 17) : ∀ d t k, t + d = i → d < k → spec_l10Size_l0 (s : Int) k (t : Int) = some (i : Int) := by
  intro d
  induction d with
  | zero =>
    intro t k h hk
    obtain rfl : t = i := by omega
    obtain ⟨k, rfl⟩ : ∃ k', k = k' + 1 := ⟨k - 1, by omega⟩
    rw [spec_l10Size_l0, u64_id (by omega), bit_eq hs (by omega), hi]
    simp
  | succ d ih =>
    intro t k h hk
    obtain ⟨k, rfl⟩ : ∃ k', k = k' + 1 := ⟨k - 1, by omega⟩
    rw [spec_l10Size_l0, u64_id (by omega), bit_eq hs (by omega), hlt t (by omega), w64_id (by omega)]
    have := ih (t + 1) k (by omega) (by omega)
    rw [show ((t : Int) + 1) = ((t + 1 : Nat) : Int) by omega, this]
    simp

theorem tE_tri' (x : Col) (h : 1 ≤ x.p ∧ x.p ≤ 17) : tE x = (tri x.p.toNat : Int) := by
  obtain ⟨n, hn⟩ := nat_of (show 0 ≤ x.p by omega)
  unfold tE
  rw [hn, Int.toNat_natCast]
  have key : ∀ n : Nat, n ≤ 17 → 1 ≤ n → w64 ((w64 ((n : Int) * (w64 ((n : Int) - 1)))).tdiv 2) = (tri n : Int) := by decide +kernel
  exact key n (by omega) (by omega)

theorem colour_range {x : Col} (hx : x.is) {i j : Nat} (hi : (i : Int) < x.p) (hj : (j : Int) < x.p) (hij : i ≠ j) : 0 ≤ x.cc i j ∧ x.cc i j < x.k := by
  have hp := hx.1
  have he : eN i j < tri x.p.toNat := by
    rcases Nat.lt_or_gt_of_ne hij with h | h
    · exact eN_lt h (by omega) (by omega)
    · rw [eN_comm]; exact eN_lt h (by omega) (by omega)
  have := tri_le (n := x.p.toNat) (by omega)
  have h1 := (hx.2.2 (eN i j) (by omega) (by omega)).1 (by rw [tE_tri' x hp]; omega)
  rw [Int.toNat_natCast] at h1
  unfold Col.cc
  rw [Int.toNat_natCast, Int.toNat_natCast]
  exact ⟨by omega, h1⟩

theorem size_eq (x : Col) (hx : x.is) : ∀ (j k s : Nat) (T : List Int), (memP x.p.toNat s).length ≤ j → j + 22 ≤ k → s < 2 ^ x.p.toNat → Tab x T → ∃ T', spec_l10Size k x T s = some ((MM x s : Int), T') ∧ Tab x T' := by
  classical
  have hp := hx.1
  have hkk := hx.2.1
  intro j
  induction j with
  | zero =>
    intro k s T hm hk hs hT
    obtain ⟨k, rfl⟩ : ∃ k', k = k' + 1 := ⟨k - 1, by omega⟩
    have h0 : s = 0 := by
      apply Classical.byContradiction
      intro h
      obtain ⟨i, h1, h2⟩ := first_bit h
      rw [memP_cons hs h1 h2] at hm
      simp at hm
    subst h0
    exact ⟨T, by simp [spec_l10Size, spec_l10Size_body, MM_zero], hT⟩
  | succ j ih =>
    intro k s T hm hk hs hT
    obtain ⟨k, rfl⟩ : ∃ k', k = k' + 1 := ⟨k - 1, by omega⟩
    by_cases h0 : s = 0
    · subst h0
      exact ⟨T, by simp [spec_l10Size, spec_l10Size_body, MM_zero], hT⟩
    obtain ⟨i, h1, h2⟩ := first_bit h0
    have hmc := memP_cons hs h1 h2
    have hin := bit_hi hs h1
    have hs17 := lt17 hs (by omega)
    have hs63 := lt63 hs17
    have hz0 : ¬ (s : Int) = 0 := by omega
    have hlen : 0 ≤ (s : Int) ∧ (s : Int) < (T.length : Int) := ⟨by omega, by rw [hT.1]; exact_mod_cast hs⟩
    by_cases hk0 : 0 ≤ T.getD s 0
    · refine ⟨T, ?_, hT⟩
      have : T.getD s 0 = MM x s := by
        rcases hT.2 s hs with h | h
        · omega
        · exact h
      rw [spec_l10Size, spec_l10Size_body]
      simp only [hz0, decide_false, Bool.false_eq_true, if_false]
      rw [if_pos hlen, Int.toNat_natCast, if_pos (decide_eq_true hk0), if_pos hlen, this]
    have hrest := rest_lt hs h1
    have hml : (memP x.p.toNat (s ^^^ 2 ^ i)).length ≤ j := by rw [hmc] at hm; simp at hm; exact hm
    obtain ⟨T1, e1, hT1⟩ := ih k (s ^^^ 2 ^ i) T hml (by omega) hrest hT
    have hni : (s ^^^ 2 ^ i).testBit i = false := by rw [rest_bit s i i h1]; simp
    have hMM : MM x s = max (MM x (s ^^^ 2 ^ i)) (1 + LL (fx x) (some i) (memP x.p.toNat (s ^^^ 2 ^ i))) := by
      unfold MM
      rw [hmc, LL]
      rfl
    have hrl := MM_le x (s ^^^ 2 ^ i)
    obtain ⟨b0, hb0, hb1, hb2, hb3⟩ : ∃ b0 : Int, (if (MM x (s ^^^ 2 ^ i) : Int) < 1 then 1 else (MM x (s ^^^ 2 ^ i) : Int)) = b0 ∧ 1 ≤ b0 ∧ (MM x (s ^^^ 2 ^ i) : Int) ≤ b0 ∧ b0 ≤ MM x s := by
      refine ⟨_, rfl, ?_, ?_, ?_⟩ <;> split <;> omega
    -- the colours
    have hl1 : ∃ r, spec_l10Size_l1 k (spec_l10Size k) x s i k b0 0 T1 = some r ∧ r.1 = MM x s ∧ Tab x r.2 := by
      refine loopI (f := fun k' t (st : Int × List Int) => spec_l10Size_l1 k (spec_l10Size k) x s i k' st.1 t st.2) x.k 0
        (fun t st => t ≤ x.k ∧ Tab x st.2 ∧ 1 ≤ st.1 ∧ (MM x (s ^^^ 2 ^ i) : Int) ≤ st.1 ∧ st.1 ≤ MM x s ∧ ∀ c, 0 ≤ c → c < t → 1 + (LL (fx x) none (own (fx x) i c (memP x.p.toNat (s ^^^ 2 ^ i))) : Int) ≤ st.1)
        (fun r => r.1 = MM x s ∧ Tab x r.2) ?_ ?_ k 0 (b0, T1) (by omega) (by omega) ⟨by omega, hT1, hb1, hb2, hb3, fun c h0 h1 => by omega⟩
      · rintro k' t ⟨b, T2⟩ ht0 ht ⟨_, hT2, q1, q2, q3, q4⟩
        left
        obtain ⟨m, rfl⟩ := nat_of ht0
        have ho := mem_own x m i (s ^^^ 2 ^ i) (by omega) hni
        have hb := bitsN_lt (fun j => decide (adj x m i j)) x.p.toNat
        have hand : (s ^^^ 2 ^ i) &&& bitsN (fun j => decide (adj x m i j)) x.p.toNat < 2 ^ x.p.toNat := Nat.lt_of_le_of_lt Nat.and_le_left hrest
        obtain ⟨T3, e3, hT3⟩ := ih k ((s ^^^ 2 ^ i) &&& bitsN (fun j => decide (adj x m i j)) x.p.toNat) T2 (by
          rw [ho]; exact Nat.le_trans List.filter_sublist.length_le hml) (by omega) hand hT2
        have hle := LL_own_le (fx x) i m (memP x.p.toNat (s ^^^ 2 ^ i)) (memP_pw _ _)
        have hMo : MM x ((s ^^^ 2 ^ i) &&& bitsN (fun j => decide (adj x m i j)) x.p.toNat) = LL (fx x) none (own (fx x) i m (memP x.p.toNat (s ^^^ 2 ^ i))) := by unfold MM; rw [ho]
        have hMl := MM_le x ((s ^^^ 2 ^ i) &&& bitsN (fun j => decide (adj x m i j)) x.p.toNat)
        simp only at q1 q2 q3 q4
        refine ⟨(if b < 1 + (LL (fx x) none (own (fx x) i m (memP x.p.toNat (s ^^^ 2 ^ i))) : Int) then 1 + (LL (fx x) none (own (fx x) i m (memP x.p.toNat (s ^^^ 2 ^ i))) : Int) else b, T3), ?_, by omega, hT3, ?_, ?_, ?_, ?_⟩
        · show spec_l10Size_l1 k (spec_l10Size k) x s i (k' + 1) b m T2 = _
          rw [spec_l10Size_l1, around_eq k x hp (by omega) m i (by omega), w64_succ ht0 ht (by omega)]
          simp only [ht, decide_true, if_true, Option.bind_some]
          rw [u64_id (by omega), bShl_one (by omega), bXor_nat hs63 (Nat.pow_lt_pow_right (by omega) (by omega)), bAnd_nat (lt63 (lt17 hrest (by omega))) (lt63 (lt17 hb (by omega))), e3]
          simp only [Option.bind_some]
          rw [hMo, w64_id (by omega)]
        · simp only; split <;> omega
        · simp only; split <;> omega
        · simp only; split <;> omega
        · intro c hc0 hc1
          simp only
          by_cases e : c = m
          · subst e; split <;> omega
          · have := q4 c hc0 (by omega)
            split <;> omega
      · rintro k' t ⟨b, T2⟩ ht0 ht ⟨q0, hT2, q1, q2, q3, q4⟩
        have : t = x.k := by omega
        subst this
        refine ⟨(b, T2), ?_, ?_, hT2⟩
        · show spec_l10Size_l1 k (spec_l10Size k) x s i (k' + 1) b x.k T2 = _
          rw [spec_l10Size_l1]; simp
        · simp only at q1 q2 q3 q4 ⊢
          obtain ⟨c, c0, c1, c2⟩ := LL_own_ex (fx x) x.k (by omega) i (memP x.p.toNat (s ^^^ 2 ^ i)) (memP_pw _ _) fun q hq => by
            obtain ⟨v, rfl, v1, v2⟩ := memP_mem.1 hq
            exact colour_range hx (by omega) (by omega) (fun e => by subst e; rw [hni] at v2; cases v2)
          have := q4 c c0 c1
          omega
    obtain ⟨⟨b, T2⟩, e2, rfl, hT2⟩ := hl1
    simp only at e2 hT2
    refine ⟨T2.set s (MM x s), ?_, hT2.set hs⟩
    rw [spec_l10Size, spec_l10Size_body]
    simp only [hz0, decide_false, Bool.false_eq_true, if_false]
    rw [if_pos hlen, Int.toNat_natCast, decide_eq_false hk0]
    have e0 := size_l0 s i hs63 h1 h2 (by omega) i 0 k (by omega) (by omega)
    rw [show ((0 : Nat) : Int) = 0 from rfl] at e0
    simp only [Bool.false_eq_true, if_false]
    rw [e0]
    simp only [Option.bind_some]
    rw [u64_id (by omega), if_pos (by omega), bShl_one (by omega), bXor_nat hs63 (Nat.pow_lt_pow_right (by omega) (by omega)), e1]
    simp only [Option.bind_some]
    rw [hb0, e2]
    simp only [Option.bind_some]
    rw [if_pos ⟨by omega, by rw [hT2.1]; exact_mod_cast hs⟩]

/-! ### The reference's list -/
open Classical in
theorem fill_tab (x : Col) (hp : 1 ≤ x.p ∧ x.p ≤ 17) (k : Nat) (hk : 131080 ≤ k) : ∃ T, spec_LesserPart_l0 k 0 (List.replicate (2 ^ x.p.toNat) 0) = some T ∧ Tab x T := by
  have hN : 2 ^ x.p.toNat ≤ 131072 := Nat.le_trans (Nat.pow_le_pow_right (by omega) (show x.p.toNat ≤ 17 by omega)) (by decide)
  obtain ⟨N, hNe⟩ : ∃ N, 2 ^ x.p.toNat = N := ⟨_, rfl⟩
  unfold Tab
  rw [hNe] at hN ⊢
  have := loopI (f := fun k' t (s : List Int) => spec_LesserPart_l0 k' t s) (N : Int) 0
    (fun t s => t ≤ N ∧ s.length = N ∧ ∀ j : Nat, (j : Int) < t → s.getD j 0 = -1)
    (fun r => r.length = N ∧ ∀ s, s < N → r.getD s 0 < 0 ∨ r.getD s 0 = MM x s) ?_ ?_ k 0 (List.replicate N 0) (by omega) (by omega) ⟨by omega, by simp, fun j h => by omega⟩
  · obtain ⟨r, e, h⟩ := this
    exact ⟨r, e, h⟩
  · rintro k' t s h0 h1 ⟨_, q1, q2⟩
    left
    obtain ⟨m, rfl⟩ := nat_of h0
    refine ⟨s.set m (-1), ?_, by omega, by rw [List.length_set, q1], fun j hj => ?_⟩
    · show spec_LesserPart_l0 (k' + 1) m s = _
      rw [spec_LesserPart_l0, w64_succ h0 h1 (by omega), q1]
      simp only [h1, h0, decide_true, if_true, and_self, Int.toNat_natCast]
    · by_cases e : m = j
      · subst e; exact getD_set_self (by omega)
      · rw [getD_set_ne e]; exact q2 j (by omega)
  · rintro k' t s h0 h1 ⟨q0, q1, q2⟩
    have : t = N := by omega
    subst this
    refine ⟨s, ?_, q1, fun j hj => .inl (by rw [q2 j (by omega)]; omega)⟩
    show spec_LesserPart_l0 (k' + 1) N s = _
    rw [spec_LesserPart_l0, q1]; simp

theorem bShl_natP {a i : Nat} (h : a * 2 ^ i < 2 ^ 63) (hi : i ≤ 64) : bShl .i64 (a : Int) (i : Int) = ((a <<< i : Nat) : Int) := by
  unfold bShl
  have e : min ((i : Int).toNat) IntKind.i64.bits = i := by
    show min ((i : Int).toNat) 64 = i
    omega
  rw [e]
  have : ((a : Int) * (2 : Int) ^ i) = ((a * 2 ^ i : Nat) : Int) := by simp
  rw [this, i64_nat h, Nat.shiftLeft_eq]

/-- The points behind one. -/
def hiB (s p : Nat) : Nat := (s >>> (p + 1)) <<< (p + 1)
theorem hiB_test (s p v : Nat) : (hiB s p).testBit v = (s.testBit v && decide (p < v)) := by
  unfold hiB
  rw [Nat.testBit_shiftLeft]
  by_cases h : p < v
  · have : p + 1 ≤ v := h
    rw [Nat.testBit_shiftRight, show p + 1 + (v - (p + 1)) = v by omega]
    simp [h, this]
  · have : ¬ p + 1 ≤ v := h
    simp [h, this]
theorem hiB_lt {s p n : Nat} (h : s < 2 ^ n) : hiB s p < 2 ^ n := bits_lt fun i hi => by
  rw [hiB_test, Nat.testBit_lt_two_pow (Nat.lt_of_lt_of_le h (Nat.pow_le_pow_right (by omega) hi))]
  rfl
theorem hiB_eq {s p : Nat} (h : s < 2 ^ 17) (hp : p < 17) : bShl .i64 (bShr .i64 (s : Int) (((p : Int) + 1 : Int))) ((p : Int) + 1) = (hiB s p : Int) := by
  have e : ((p : Int) + 1) = ((p + 1 : Nat) : Int) := by omega
  rw [e, bShr_nat (by omega), bShl_natP ?_ (by omega)]
  · rfl
  · have h1 : hiB s p < 2 ^ 17 := hiB_lt h
    unfold hiB at h1
    rw [Nat.shiftLeft_eq] at h1
    exact Nat.lt_of_lt_of_le h1 (by decide)

open Classical in
/-- The points behind one that it is joined with in a colour. -/
noncomputable def ownB (x : Col) (p : Nat) (c : Int) (s : Nat) : Nat := hiB s p &&& bitsN (fun j => decide (adj x c p j)) x.p.toNat
theorem ownB_lt {x : Col} {p : Nat} {c : Int} {s : Nat} (h : s < 2 ^ x.p.toNat) : ownB x p c s < 2 ^ x.p.toNat := Nat.lt_of_le_of_lt Nat.and_le_left (hiB_lt h)
theorem mem_ownB (x : Col) (p : Nat) (c : Int) (s : Nat) (hp : (p : Int) < x.p) : memP x.p.toNat (ownB x p c s) = behind (fx x) p c (memP x.p.toNat s) := by
  classical
  refine pw_ext _ _ (memP_pw _ _) ((memP_pw _ _).sublist List.filter_sublist) fun z => ?_
  rw [memP_mem, behind, List.mem_filter, memP_mem]
  constructor
  · rintro ⟨v, rfl, h1, h2⟩
    unfold ownB at h2
    rw [Nat.testBit_and, bitsN_test, hiB_test] at h2
    simp at h2
    exact ⟨⟨v, rfl, h1, h2.1.1⟩, decide_eq_true ⟨by omega, h2.2.2.2.2.2⟩⟩
  · rintro ⟨⟨v, rfl, h1, h2⟩, h3⟩
    obtain ⟨h3, h4⟩ := of_decide_eq_true h3
    refine ⟨v, rfl, h1, ?_⟩
    unfold ownB
    rw [Nat.testBit_and, bitsN_test, hiB_test]
    have ha : adj x c p v := ⟨hp, by omega, by omega, h4⟩
    have : p < v := by omega
    simp [h1, h2, ha, this]

/-- Sets as numbers. -/
def Oks (n : Nat) (l : List Int) : Prop := ∀ z ∈ l, ∃ s : Nat, z = s ∧ s < 2 ^ n

theorem lp_l4 (x : Col) (hx : x.is) (left : Int) (p : Nat) (hp : (p : Int) < x.p) (sets : List Int) (i s : Nat) (hi : sets.getD i 0 = s) (hs : s < 2 ^ x.p.toNat) (k : Nat) (hk : 60 ≤ k) (T next : List Int) (hT : Tab x T) (hl : (next.length : Int) ≤ 1000000000) :
    ∃ r, spec_LesserPart_l4 k x left p sets i k 0 T next = some r ∧ Tab x r.1 ∧ r.2.length ≤ next.length + 4 ∧ ∀ z, z ∈ r.2 ↔ z ∈ next ∨ ∃ c, 0 ≤ c ∧ c < x.k ∧ z = ownB x p c s ∧ left ≤ 1 + (MM x (ownB x p c s) : Int) := by
  classical
  have hpp := hx.1
  have hkk := hx.2.1
  have hs17 := lt17 hs (by omega)
  have := loopI (f := fun k' t (st : List Int × List Int) => spec_LesserPart_l4 k x left p sets i k' t st.1 st.2) x.k 0
    (fun t st => t ≤ x.k ∧ Tab x st.1 ∧ (st.2.length : Int) ≤ next.length + t ∧ ∀ z, z ∈ st.2 ↔ z ∈ next ∨ ∃ c, 0 ≤ c ∧ c < t ∧ z = ownB x p c s ∧ left ≤ 1 + (MM x (ownB x p c s) : Int))
    (fun r => Tab x r.1 ∧ r.2.length ≤ next.length + 4 ∧ ∀ z, z ∈ r.2 ↔ z ∈ next ∨ ∃ c, 0 ≤ c ∧ c < x.k ∧ z = ownB x p c s ∧ left ≤ 1 + (MM x (ownB x p c s) : Int)) ?_ ?_ k 0 (T, next) (by omega) (by omega) ⟨by omega, hT, by simp, fun z => ⟨.inl, fun h => h.elim id fun ⟨c, h0, h1, _⟩ => by omega⟩⟩
  · obtain ⟨r, e, h⟩ := this
    exact ⟨r, e, h⟩
  · rintro k' t ⟨T1, l1⟩ h0 h1 ⟨_, q1, q2, q3⟩
    left
    simp only at q1 q2 q3
    have ho := ownB_lt (p := p) (c := t) hs
    obtain ⟨T2, e2, hT2⟩ := size_eq x hx 17 k (ownB x p t s) T1 (Nat.le_trans (memP_len _ _) (by omega)) (by omega) ho q1
    have hM := MM_le x (ownB x p t s)
    have hst : spec_LesserPart_l4 k x left p sets i (k' + 1) t T1 l1 = spec_LesserPart_l4 k x left p sets i k' (t + 1) T2 (if left ≤ 1 + (MM x (ownB x p t s) : Int) then l1 ++ [(ownB x p t s : Int)] else l1) := by
      rw [spec_LesserPart_l4, around_eq k x hpp (by omega) t p hp, w64_succ h0 h1 (by omega), Int.toNat_natCast, hi, w64_id (by omega), u64_id (by omega), hiB_eq hs17 (by omega)]
      simp only [h1, decide_true, if_true, Option.bind_some]
      rw [bAnd_nat (lt63 (hiB_lt hs17)) (lt63 (lt17 (bitsN_lt _ _) (by omega)))]
      rw [show ((hiB s p &&& bitsN (fun j => decide (adj x t p j)) x.p.toNat : Nat)) = ownB x p t s from rfl, e2]
      simp only [Option.bind_some]
      rw [w64_id (by omega)]
      by_cases hle : left ≤ 1 + (MM x (ownB x p t s) : Int)
      · have : l1.length + 1 ≤ 1099511627776 := by omega
        simp [hle, this]
      · simp [hle]
    obtain ⟨l2, hl2⟩ : ∃ l2 : List Int, l2 = if left ≤ 1 + (MM x (ownB x p t s) : Int) then l1 ++ [(ownB x p t s : Int)] else l1 := ⟨_, rfl⟩
    rw [← hl2] at hst
    refine ⟨(T2, l2), hst, by omega, hT2, ?_, fun z => ?_⟩
    · simp only
      rw [hl2]
      split
      · simp; omega
      · omega
    · simp only
      have hstep : (∃ c, 0 ≤ c ∧ c < t + 1 ∧ z = ownB x p c s ∧ left ≤ 1 + (MM x (ownB x p c s) : Int)) ↔ (∃ c, 0 ≤ c ∧ c < t ∧ z = ownB x p c s ∧ left ≤ 1 + (MM x (ownB x p c s) : Int)) ∨ (z = ownB x p t s ∧ left ≤ 1 + (MM x (ownB x p t s) : Int)) := by
        constructor
        · rintro ⟨c, c0, c1, c2⟩
          by_cases e : c = t
          · subst e; exact .inr c2
          · exact .inl ⟨c, c0, by omega, c2⟩
        · rintro (⟨c, c0, c1, c2⟩ | h)
          · exact ⟨c, c0, by omega, c2⟩
          · exact ⟨t, h0, by omega, h⟩
      rw [hstep]
      by_cases hle : left ≤ 1 + (MM x (ownB x p t s) : Int)
      · rw [hl2, if_pos hle, List.mem_append, List.mem_singleton, q3 z, or_assoc]
        simp [hle]
      · rw [hl2, if_neg hle, q3 z]
        simp [hle]
  · rintro k' t ⟨T1, l1⟩ h0 h1 ⟨q0, q1, q2, q3⟩
    have : t = x.k := by omega
    subst this
    simp only at q1 q2 q3
    refine ⟨(T1, l1), ?_, q1, by simp only; omega, q3⟩
    show spec_LesserPart_l4 k x left p sets i (k' + 1) x.k T1 l1 = _
    rw [spec_LesserPart_l4]; simp

theorem lp_l3 (x : Col) (hx : x.is) (left : Int) (p : Nat) (hp : (p : Int) < x.p) (sets : List Int) (hok : Oks x.p.toNat sets) (hlen : sets.length ≤ 131072) (k : Nat) (hk : 131080 ≤ k) (T : List Int) (hT : Tab x T) :
    ∃ r, spec_LesserPart_l3 k x left p sets k 0 T [] = some r ∧ Tab x r.1 ∧ r.2.length ≤ 4 * sets.length ∧ ∀ z, z ∈ r.2 ↔ ∃ s : Nat, (s : Int) ∈ sets ∧ s.testBit p = true ∧ ∃ c, 0 ≤ c ∧ c < x.k ∧ z = ownB x p c s ∧ left ≤ 1 + (MM x (ownB x p c s) : Int) := by
  classical
  have hpp := hx.1
  have hkk := hx.2.1
  have := loopI (f := fun k' t (st : List Int × List Int) => spec_LesserPart_l3 k x left p sets k' t st.1 st.2) (sets.length : Int) 0
    (fun t st => t ≤ sets.length ∧ Tab x st.1 ∧ (st.2.length : Int) ≤ 4 * t ∧ ∀ z, z ∈ st.2 ↔ ∃ s : Nat, (∃ j : Nat, (j : Int) < t ∧ sets.getD j 0 = s) ∧ s.testBit p = true ∧ ∃ c, 0 ≤ c ∧ c < x.k ∧ z = ownB x p c s ∧ left ≤ 1 + (MM x (ownB x p c s) : Int))
    (fun r => Tab x r.1 ∧ r.2.length ≤ 4 * sets.length ∧ ∀ z, z ∈ r.2 ↔ ∃ s : Nat, (s : Int) ∈ sets ∧ s.testBit p = true ∧ ∃ c, 0 ≤ c ∧ c < x.k ∧ z = ownB x p c s ∧ left ≤ 1 + (MM x (ownB x p c s) : Int)) ?_ ?_ k 0 (T, []) (by omega) (by omega) ⟨by omega, hT, by simp, fun z => ⟨fun h => (List.not_mem_nil h).elim, fun ⟨s, ⟨j, h, _⟩, _⟩ => by omega⟩⟩
  · obtain ⟨r, e, h⟩ := this
    exact ⟨r, e, h⟩
  · rintro k' t ⟨T1, l1⟩ h0 h1 ⟨_, q1, q2, q3⟩
    left
    obtain ⟨m, rfl⟩ := nat_of h0
    simp only at q1 q2 q3
    have hm : m < sets.length := by omega
    obtain ⟨s, hs, hs2⟩ := hok _ (getD_mem hm)
    have hs17 := lt17 hs2 (by omega)
    have hstep : ∀ (z : Int) (R : Nat → Prop), (∃ s' : Nat, (∃ j : Nat, (j : Int) < (m : Int) + 1 ∧ sets.getD j 0 = s') ∧ R s') ↔ (∃ s' : Nat, (∃ j : Nat, (j : Int) < (m : Int) ∧ sets.getD j 0 = s') ∧ R s') ∨ R s := by
      intro z R
      constructor
      · rintro ⟨s', ⟨j, j1, j2⟩, h⟩
        by_cases e : j = m
        · subst e
          rw [hs] at j2
          have : s = s' := by omega
          subst this
          exact .inr h
        · exact .inl ⟨s', ⟨j, by omega, j2⟩, h⟩
      · rintro (⟨s', ⟨j, j1, j2⟩, h⟩ | h)
        · exact ⟨s', ⟨j, by omega, j2⟩, h⟩
        · exact ⟨s, ⟨m, by omega, hs⟩, h⟩
    by_cases hb : s.testBit p = true
    · obtain ⟨⟨T2, l2⟩, e2, hT2, hl2, h2⟩ := lp_l4 x hx left p hp sets m s hs hs2 k (by omega) T1 l1 q1 (by omega)
      simp only at hT2 hl2 h2
      refine ⟨(T2, l2), ?_, by omega, hT2, by simp only; omega, fun z => ?_⟩
      · show spec_LesserPart_l3 k x left p sets (k' + 1) m T1 l1 = _
        have hu : (0 : Int) ≤ IntKind.u64.wrap (p : Int) := by rw [u64_id (by omega)]; omega
        have hu1 : (0 : Int) ≤ IntKind.u64.wrap (w64 ((p : Int) + 1)) := by rw [w64_id (by omega), u64_id (by omega)]; omega
        rw [spec_LesserPart_l3, w64_succ h0 h1 (by omega), if_pos (decide_eq_true h1), if_pos ⟨h0, h1⟩, if_pos hu, Int.toNat_natCast, hs, u64_id (n := (p : Int)) (by omega), bit_eq (lt63 hs17) (by omega), hb]
        simp only [if_true]
        rw [if_neg (by simp), if_pos ⟨h0, h1⟩, if_pos hu1, if_pos hu1, e2]
        rfl
      · simp only
        rw [hstep z, h2 z, q3 z]
        simp [hb]
    · have hb' : s.testBit p = false := by cases h : s.testBit p <;> simp_all
      refine ⟨(T1, l1), ?_, by omega, q1, by simp only; omega, fun z => ?_⟩
      · show spec_LesserPart_l3 k x left p sets (k' + 1) m T1 l1 = _
        have hu : (0 : Int) ≤ IntKind.u64.wrap (p : Int) := by rw [u64_id (by omega)]; omega
        rw [spec_LesserPart_l3, w64_succ h0 h1 (by omega), if_pos (decide_eq_true h1), if_pos ⟨h0, h1⟩, if_pos hu, Int.toNat_natCast, hs, u64_id (n := (p : Int)) (by omega), bit_eq (lt63 hs17) (by omega), hb']
        simp
      · simp only
        rw [hstep z, q3 z]
        simp [hb']
  · rintro k' t ⟨T1, l1⟩ h0 h1 ⟨q0, q1, q2, q3⟩
    have : t = sets.length := by omega
    subst this
    simp only at q1 q2 q3
    refine ⟨(T1, l1), ?_, q1, by simp only; omega, fun z => ?_⟩
    · show spec_LesserPart_l3 k x left p sets (k' + 1) sets.length T1 l1 = _
      rw [spec_LesserPart_l3]; simp
    · simp only
      rw [q3 z]
      constructor
      · rintro ⟨s, ⟨j, j1, j2⟩, h⟩
        exact ⟨s, by rw [← j2]; exact getD_mem (by omega), h⟩
      · rintro ⟨s, hs, h⟩
        obtain ⟨j, j1, j2⟩ := List.getElem_of_mem hs
        exact ⟨s, ⟨j, by omega, by rw [← j2]; simp [List.getD, j1]⟩, h⟩

theorem each_l1 (l out : List Int) (i : Nat) (hi : i < l.length) (ho : out.length ≤ 131072) (k : Nat) (hk : 131080 ≤ k) : spec_l10Each_l1 l i out k false 0 = some (decide (l.getD i 0 ∈ out)) := by
  classical
  have := loopI (f := fun k' t (b : Bool) => spec_l10Each_l1 l i out k' b t) (out.length : Int) 0
    (fun t b => t ≤ out.length ∧ b = decide (∃ j : Nat, (j : Int) < t ∧ out.getD j 0 = l.getD i 0))
    (fun r => r = decide (l.getD i 0 ∈ out)) ?_ ?_ k 0 false (by omega) (by omega) ⟨by omega, (decide_eq_false (fun ⟨j, h, _⟩ => by omega)).symm⟩
  · obtain ⟨r, e, rfl⟩ := this
    exact e
  · rintro k' t b h0 h1 ⟨_, q⟩
    left
    obtain ⟨m, rfl⟩ := nat_of h0
    refine ⟨decide (∃ j : Nat, (j : Int) < (m : Int) + 1 ∧ out.getD j 0 = l.getD i 0), ?_, by omega, rfl⟩
    show spec_l10Each_l1 l i out (k' + 1) b m = _
    have hi2 : (0 : Int) ≤ (i : Int) ∧ (i : Int) < (l.length : Int) := ⟨by omega, by omega⟩
    rw [spec_l10Each_l1, w64_succ h0 h1 (by omega), if_pos (decide_eq_true h1)]
    have e : (if b = true then some true else if 0 ≤ (m : Int) ∧ (m : Int) < (out.length : Int) then (if 0 ≤ (i : Int) ∧ (i : Int) < (l.length : Int) then some (decide (out.getD (m : Int).toNat 0 = l.getD (i : Int).toNat 0)) else none) else none) = some (decide (∃ j : Nat, (j : Int) < (m : Int) + 1 ∧ out.getD j 0 = l.getD i 0)) := by
      rw [Int.toNat_natCast, Int.toNat_natCast, if_pos hi2, if_pos (show 0 ≤ (m : Int) ∧ (m : Int) < (out.length : Int) from ⟨h0, h1⟩)]
      by_cases hb : b = true
      · rw [if_pos hb]
        rw [hb] at q
        obtain ⟨j, j1, j2⟩ := of_decide_eq_true q.symm
        rw [decide_eq_true (⟨j, by omega, j2⟩ : ∃ j : Nat, (j : Int) < (m : Int) + 1 ∧ out.getD j 0 = l.getD i 0)]
      · rw [if_neg hb]
        have hb : b = false := by cases b <;> simp_all
        rw [hb] at q
        have hno := of_decide_eq_false q.symm
        congr 1
        rw [decide_eq_decide]
        constructor
        · intro h; exact ⟨m, by omega, h⟩
        · rintro ⟨j, j1, j2⟩
          by_cases e : j = m
          · subst e; exact j2
          · exact absurd ⟨j, by omega, j2⟩ hno
    rw [e]
    rfl
  · rintro k' t b h0 h1 ⟨q0, q⟩
    have : t = out.length := by omega
    subst this
    refine ⟨b, ?_, ?_⟩
    · show spec_l10Each_l1 l i out (k' + 1) b out.length = _
      rw [spec_l10Each_l1]; simp
    · rw [q, decide_eq_decide]
      constructor
      · rintro ⟨j, j1, j2⟩
        rw [← j2]; exact getD_mem (by omega)
      · intro h
        obtain ⟨j, j1, j2⟩ := List.getElem_of_mem h
        exact ⟨j, by omega, by rw [← j2]; simp [List.getD, j1]⟩

theorem each_eq (l : List Int) (n : Nat) (hn : n ≤ 17) (hok : Oks n l) (hl : l.length ≤ 524288) (k : Nat) (hk : 524300 ≤ k) : ∃ r, spec_l10Each k l = some r ∧ r.Nodup ∧ ∀ z, z ∈ r ↔ z ∈ l := by
  have hN : 2 ^ n ≤ 131072 := Nat.le_trans (Nat.pow_le_pow_right (by omega) hn) (by decide)
  unfold spec_l10Each
  have := loopI (f := fun k' t (s : List Int) => spec_l10Each_l0 k l k' t s) (l.length : Int) 0
    (fun t s => t ≤ l.length ∧ s.Nodup ∧ ∀ z, z ∈ s ↔ ∃ j : Nat, (j : Int) < t ∧ l.getD j 0 = z)
    (fun r => r.Nodup ∧ ∀ z, z ∈ r ↔ z ∈ l) ?_ ?_ k 0 [] (by omega) (by omega) ⟨by omega, List.nodup_nil, fun z => ⟨fun h => (List.not_mem_nil h).elim, fun ⟨j, h, _⟩ => by omega⟩⟩
  · obtain ⟨r, e, h⟩ := this
    rw [e]
    exact ⟨r, rfl, h⟩
  · rintro k' t s h0 h1 ⟨_, q1, q2⟩
    left
    obtain ⟨m, rfl⟩ := nat_of h0
    have hm : m < l.length := by omega
    have hs : s.length ≤ 131072 := Nat.le_trans (nodup_len (2 ^ n) s q1 fun z hz => by
      obtain ⟨j, j1, rfl⟩ := (q2 z).1 hz
      obtain ⟨v, v1, v2⟩ := hok _ (getD_mem (l := l) (i := j) (by omega))
      rw [v1]
      exact ⟨by omega, by exact_mod_cast v2⟩) hN
    have hst : spec_l10Each_l0 k l (k' + 1) m s = spec_l10Each_l0 k l k' (m + 1) (if l.getD m 0 ∈ s then s else s ++ [l.getD m 0]) := by
      rw [spec_l10Each_l0, w64_succ h0 h1 (by omega), if_pos (decide_eq_true h1), each_l1 l s m hm hs k (by omega)]
      simp only [Option.bind_some]
      by_cases h : l.getD m 0 ∈ s
      · rw [decide_eq_true h, if_pos h]
        simp
      · rw [decide_eq_false h, if_neg h]
        have : s.length + 1 ≤ 1099511627776 := by omega
        simp [hm, this]
    obtain ⟨s2, hs2⟩ : ∃ s2 : List Int, s2 = if l.getD m 0 ∈ s then s else s ++ [l.getD m 0] := ⟨_, rfl⟩
    rw [← hs2] at hst
    refine ⟨s2, hst, by omega, ?_, fun z => ?_⟩
    · rw [hs2]
      split
      · exact q1
      · next h =>
        rw [List.nodup_append]
        exact ⟨q1, by simp, fun a ha b hb => by
          rw [List.mem_singleton] at hb
          rintro rfl
          rw [hb] at ha
          exact h ha⟩
    · have hstep : (∃ j : Nat, (j : Int) < (m : Int) + 1 ∧ l.getD j 0 = z) ↔ (∃ j : Nat, (j : Int) < (m : Int) ∧ l.getD j 0 = z) ∨ z = l.getD m 0 := by
        constructor
        · rintro ⟨j, j1, j2⟩
          by_cases e : j = m
          · subst e; exact .inr j2.symm
          · exact .inl ⟨j, by omega, j2⟩
        · rintro (⟨j, j1, j2⟩ | h)
          · exact ⟨j, by omega, j2⟩
          · exact ⟨m, by omega, h.symm⟩
      rw [hstep, ← q2 z, hs2]
      split
      · next h =>
        constructor
        · exact .inl
        · rintro (h' | rfl)
          · exact h'
          · exact h
      · rw [List.mem_append, List.mem_singleton]
  · rintro k' t s h0 h1 ⟨q0, q1, q2⟩
    have : t = l.length := by omega
    subst this
    refine ⟨s, ?_, q1, fun z => ?_⟩
    · show spec_l10Each_l0 k l (k' + 1) l.length s = _
      rw [spec_l10Each_l0]; simp
    · rw [q2 z]
      constructor
      · rintro ⟨j, j1, rfl⟩
        exact getD_mem (by omega)
      · intro h
        obtain ⟨j, j1, j2⟩ := List.getElem_of_mem h
        exact ⟨j, by omega, by rw [← j2]; simp [List.getD, j1]⟩

/-- The sets as lists. -/
def SL (n : Nat) (l : List Int) : List (List Int) := l.map fun z => memP n z.toNat
theorem SL_pw {n : Nat} {l : List Int} : ∀ S ∈ SL n l, S.Pairwise (· < ·) := fun S h => by
  obtain ⟨z, _, rfl⟩ := List.mem_map.1 h
  exact memP_pw _ _
theorem SL_mem {n : Nat} {l : List Int} (hok : Oks n l) {S : List Int} : S ∈ SL n l ↔ ∃ s : Nat, (s : Int) ∈ l ∧ S = memP n s := by
  unfold SL
  rw [List.mem_map]
  constructor
  · rintro ⟨z, h, rfl⟩
    obtain ⟨s, rfl, _⟩ := hok z h
    exact ⟨s, h, rfl⟩
  · rintro ⟨s, h, rfl⟩
    exact ⟨s, h, rfl⟩

theorem mem_bit {n s p : Nat} (h : p < n) : (p : Int) ∈ memP n s ↔ s.testBit p = true := by
  rw [memP_mem]
  constructor
  · rintro ⟨v, e, _, hv⟩
    have : v = p := by omega
    subst this; exact hv
  · intro h'; exact ⟨p, rfl, h, h'⟩

theorem lp_l2 (x : Col) (hx : x.is) (l : Nat) (hl17 : l < 17) (p : Int) (g : List Int) (sets : List Int) (hok : Oks x.p.toNat sets) (hnd : sets.Nodup) (hb : Best (fx x) (SL x.p.toNat sets) (l + 1) (p :: g)) (k : Nat) (hk : 600000 ≤ k) (T out : List Int) (hT : Tab x T) (hout : out.length ≤ 17) :
    ∃ T' sets', spec_LesserPart_l2 k x k ((l : Int) + 1) false 0 T out sets = some ((l : Int), T', out ++ [p], sets') ∧ Tab x T' ∧ Oks x.p.toNat sets' ∧ sets'.Nodup ∧ Best (fx x) (SL x.p.toNat sets') l g := by
  classical
  have hpp := hx.1
  have hkk := hx.2.1
  obtain ⟨n, hn⟩ : ∃ n, x.p.toNat = n := ⟨_, rfl⟩
  have hn17 : n ≤ 17 := by omega
  have hN : 2 ^ n ≤ 131072 := Nat.le_trans (Nat.pow_le_pow_right (by omega) hn17) (by decide)
  have hlen : sets.length ≤ 131072 := Nat.le_trans (nodup_len (2 ^ n) sets hnd fun z hz => by
    obtain ⟨v, rfl, v2⟩ := hok z hz
    rw [hn] at v2
    exact ⟨by omega, by exact_mod_cast v2⟩) hN
  have hcol : ∀ S ∈ SL x.p.toNat sets, ∀ q ∈ S, p < q → 0 ≤ fx x p q ∧ fx x p q < x.k := by
    intro S hS q hq hpq
    obtain ⟨s, hs, rfl⟩ := (SL_mem hok).1 hS
    obtain ⟨v, rfl, v1, v2⟩ := memP_mem.1 hq
    obtain ⟨S0, hS0, hp0⟩ := hb.1.2.2
    obtain ⟨s0, _, rfl⟩ := (SL_mem hok).1 hS0
    obtain ⟨u, rfl, u1, u2⟩ := memP_mem.1 (hp0.subset (List.mem_cons_self ..))
    exact colour_range hx (by omega) (by omega) (by omega)
  obtain ⟨pn, rfl, hpn⟩ : ∃ pn : Nat, p = pn ∧ (pn : Int) < x.p := by
    obtain ⟨S0, hS0, hp0⟩ := hb.1.2.2
    obtain ⟨s0, _, rfl⟩ := (SL_mem hok).1 hS0
    obtain ⟨u, rfl, u1, u2⟩ := memP_mem.1 (hp0.subset (List.mem_cons_self ..))
    exact ⟨u, rfl, by omega⟩
  have := loopI (f := fun k' t (st : Int × Bool × List Int × List Int × List Int) => spec_LesserPart_l2 k x k' st.1 st.2.1 t st.2.2.1 st.2.2.2.1 st.2.2.2.2) x.p 0
    (fun t st => t ≤ x.p ∧ Tab x st.2.2.1 ∧ ((st.1 = (l : Int) + 1 ∧ st.2.1 = false ∧ st.2.2.2.1 = out ∧ st.2.2.2.2 = sets ∧ t ≤ pn) ∨
      (st.1 = (l : Int) ∧ st.2.1 = true ∧ st.2.2.2.1 = out ++ [(pn : Int)] ∧ Oks x.p.toNat st.2.2.2.2 ∧ st.2.2.2.2.Nodup ∧ Best (fx x) (SL x.p.toNat st.2.2.2.2) l g)))
    (fun r => ∃ T' sets', r = ((l : Int), T', out ++ [(pn : Int)], sets') ∧ Tab x T' ∧ Oks x.p.toNat sets' ∧ sets'.Nodup ∧ Best (fx x) (SL x.p.toNat sets') l g) ?_ ?_ k 0 ((l : Int) + 1, false, T, out, sets) (by omega) (by omega) ⟨by omega, hT, .inl ⟨rfl, rfl, rfl, rfl, by omega⟩⟩
  · obtain ⟨r, e, T', sets', rfl, h⟩ := this
    exact ⟨T', sets', e, h⟩
  · rintro k' t ⟨lf, fd, T1, o1, s1⟩ h0 h1 ⟨_, q1, q2⟩
    simp only at q1 q2
    rcases q2 with ⟨rfl, rfl, rfl, rfl, q3⟩ | ⟨rfl, rfl, rfl, q3, q4, q5⟩
    · left
      obtain ⟨m, rfl⟩ := nat_of h0
      obtain ⟨⟨T2, nx⟩, e2, hT2, hl2, h2⟩ := lp_l3 x hx ((l : Int) + 1) m h1 s1 hok hlen k (by omega) T1 q1
      simp only at hT2 hl2 h2
      by_cases hm : m = pn
      · subst hm
        have hoks : Oks x.p.toNat nx := fun z hz => by
          obtain ⟨s, hs, _, c, _, _, rfl, _⟩ := (h2 z).1 hz
          obtain ⟨s', e, hs'⟩ := hok _ hs
          have : s = s' := by omega
          subst this
          exact ⟨_, rfl, ownB_lt hs'⟩
        obtain ⟨r, e3, hr1, hr2⟩ := each_eq nx x.p.toNat (by omega) hoks (by omega) k (by omega)
        have hokr : Oks x.p.toNat r := fun z hz => hoks z ((hr2 z).1 hz)
        have hbest : Best (fx x) (SL x.p.toNat r) l g := by
          refine best_next (fx x) (show 1 ≤ x.k by omega) SL_pw hb hcol fun S => ?_
          rw [SL_mem hokr]
          constructor
          · rintro ⟨s, hs, rfl⟩
            obtain ⟨s0, hs0, hbit, c, c0, c1, e, hle⟩ := (h2 _).1 ((hr2 _).1 hs)
            have : s = ownB x m c s0 := by omega
            subst this
            refine ⟨memP x.p.toNat s0, (SL_mem hok).2 ⟨s0, hs0, rfl⟩, (mem_bit (by omega)).2 hbit, c, c0, c1, mem_ownB x m c s0 h1, ?_⟩
            unfold MM at hle
            omega
          · rintro ⟨S, hS, hpS, c, c0, c1, rfl, hle⟩
            obtain ⟨s0, hs0, rfl⟩ := (SL_mem hok).1 hS
            refine ⟨ownB x m c s0, (hr2 _).2 ((h2 _).2 ⟨s0, hs0, (mem_bit (by omega)).1 hpS, c, c0, c1, rfl, ?_⟩), (mem_ownB x m c s0 h1).symm⟩
            unfold MM
            rw [mem_ownB x m c s0 h1]
            omega
        have hne : 0 < nx.length := by
          obtain ⟨S, hS, hpS, c, c0, c1, hle⟩ := best_at (fx x) (show 1 ≤ x.k by omega) SL_pw hb hcol
          obtain ⟨s0, hs0, rfl⟩ := (SL_mem hok).1 hS
          refine List.length_pos_of_mem ((h2 (ownB x m c s0 : Int)).2 ⟨s0, hs0, (mem_bit (by omega)).1 hpS, c, c0, c1, rfl, ?_⟩)
          unfold MM
          rw [mem_ownB x m c s0 h1]
          omega
        refine ⟨(l, true, T2, o1 ++ [(m : Int)], r), ?_, by omega, hT2, .inr ⟨rfl, rfl, rfl, hokr, hr1, hbest⟩⟩
        show spec_LesserPart_l2 k x (k' + 1) ((l : Int) + 1) false m T1 o1 s1 = _
        rw [spec_LesserPart_l2, w64_succ h0 h1 (by omega), e2]
        simp only [letO, h1, decide_true, if_true, Bool.not_false, Option.bind_some]
        have hne' : (0 : Int) < (nx.length : Int) := by omega
        have h40 : o1.length + 1 ≤ 1099511627776 := by omega
        simp only [hne', decide_true, if_true, List.length_singleton, h40, e3, Option.bind_some]
        rw [show w64 ((l : Int) + 1 - 1) = (l : Int) by rw [w64_id (by omega)]; omega]
      · have hnil : nx = [] := by
          apply List.eq_nil_iff_forall_not_mem.2
          intro z hz
          obtain ⟨s, hs, hbit, c, c0, c1, rfl, hle⟩ := (h2 z).1 hz
          refine best_before (fx x) SL_pw hb (p0 := m) (c := c) (S := memP x.p.toNat s) (by omega) ((SL_mem hok).2 ⟨s, hs, rfl⟩) ((mem_bit (by omega)).2 hbit) ?_
          unfold MM at hle
          rw [mem_ownB x m c s h1] at hle
          omega
        subst hnil
        refine ⟨((l : Int) + 1, false, T2, o1, s1), ?_, by omega, hT2, .inl ⟨rfl, rfl, rfl, rfl, by omega⟩⟩
        show spec_LesserPart_l2 k x (k' + 1) ((l : Int) + 1) false m T1 o1 s1 = _
        rw [spec_LesserPart_l2, w64_succ h0 h1 (by omega), e2]
        simp only [letO, h1, decide_true, if_true, Bool.not_false, Option.bind_some]
        simp
    · right
      refine ⟨_, ?_, T1, s1, rfl, q1, q3, q4, q5⟩
      show spec_LesserPart_l2 k x (k' + 1) (l : Int) true t T1 (out ++ [(pn : Int)]) s1 = _
      rw [spec_LesserPart_l2]
      simp [letO]
  · rintro k' t ⟨lf, fd, T1, o1, s1⟩ h0 h1 ⟨q0, q1, q2⟩
    simp only at q1 q2
    rcases q2 with ⟨rfl, rfl, rfl, rfl, q3⟩ | ⟨rfl, rfl, rfl, q3, q4, q5⟩
    · omega
    · refine ⟨_, ?_, T1, s1, rfl, q1, q3, q4, q5⟩
      show spec_LesserPart_l2 k x (k' + 1) (l : Int) true t T1 (out ++ [(pn : Int)]) s1 = _
      rw [spec_LesserPart_l2]
      simp [letO]

theorem lp_l1 (x : Col) (hx : x.is) (k : Nat) (hk : 600000 ≤ k) : ∀ (l : Nat) (k' : Nat) (g sets T out : List Int), l ≤ 17 → l < k' → out.length + l ≤ 17 → Oks x.p.toNat sets → sets.Nodup → Best (fx x) (SL x.p.toNat sets) l g → Tab x T →
    spec_LesserPart_l1 k x k' (l : Int) T out sets = some (out ++ g) := by
  intro l
  induction l with
  | zero =>
    intro k' g sets T out h17 hk' hout hok hnd hb hT
    obtain ⟨k', rfl⟩ : ∃ k0, k' = k0 + 1 := ⟨k' - 1, by omega⟩
    have : g = [] := List.eq_nil_of_length_eq_zero hb.1.1
    subst this
    rw [spec_LesserPart_l1]; simp
  | succ l ih =>
    intro k' g sets T out h17 hk' hout hok hnd hb hT
    obtain ⟨k', rfl⟩ : ∃ k0, k' = k0 + 1 := ⟨k' - 1, by omega⟩
    cases g with
    | nil => have := hb.1.1; simp at this
    | cons p g =>
      obtain ⟨T', sets', e, h1, h2, h3, h4⟩ := lp_l2 x hx l (by omega) p g sets hok hnd hb k hk T out hT (by omega)
      rw [spec_LesserPart_l1]
      have hpos : (0 : Int) < ((l + 1 : Nat) : Int) := by omega
      rw [if_pos (decide_eq_true hpos), show ((l + 1 : Nat) : Int) = (l : Int) + 1 by omega, e]
      simp only [Option.bind_some]
      rw [ih k' g sets' T' (out ++ [p]) (by omega) (by omega) (by simp; omega) h2 h3 h4 h1]
      simp

/-- All points. -/
def allP (x : Col) : List Int := pick x.p.toNat fun _ => true
theorem memP_all (n : Nat) : memP n (2 ^ n - 1) = pick n fun _ => true := by
  refine pw_ext _ _ (memP_pw _ _) (pick_pw _ _) fun z => ?_
  rw [memP_mem, pick_mem]
  constructor
  · rintro ⟨v, rfl, h, _⟩; exact ⟨v, rfl, h, rfl⟩
  · rintro ⟨v, rfl, h, _⟩; exact ⟨v, rfl, h, by rw [Nat.testBit_two_pow_sub_one]; simp [h]⟩

theorem spec_lesser_eq (x : Col) (hx : x.is) (k : Nat) (hk : 600000 ≤ k) : spec_LesserPart k x = some (GG (fx x) none (allP x), 0) := by
  classical
  have hpp := hx.1
  obtain ⟨n, hn⟩ := nat_of (show 0 ≤ x.p by omega)
  have hxn : x.p.toNat = n := by omega
  have hn17 : n ≤ 17 := by omega
  have hN : 2 ^ n ≤ 131072 := Nat.le_trans (Nat.pow_le_pow_right (by omega) hn17) (by decide)
  have hN1 : 1 ≤ 2 ^ n := Nat.one_le_two_pow
  have hall : w64 (bShl .i64 1 (IntKind.u64.wrap x.p) - 1) = ((2 ^ n - 1 : Nat) : Int) := by
    rw [hn, u64_id (by omega), bShl_one (by omega), w64_id (by omega)]; omega
  have hlen : w64 (((2 ^ n - 1 : Nat) : Int) + 1) = ((2 ^ n : Nat) : Int) := by rw [w64_id (by omega)]; omega
  unfold spec_LesserPart
  rw [specIs_eq k (by omega), decide_eq_true hx]
  simp only [Option.bind_some, Bool.not_true, Bool.false_eq_true, if_false]
  rw [if_pos (show 0 ≤ IntKind.u64.wrap x.p by rw [u64_id (by omega)]; omega), hall, hlen, if_pos ⟨by omega, by omega, by omega⟩, Int.toNat_natCast]
  obtain ⟨T, e1, hT⟩ := fill_tab x hpp k (by omega)
  rw [hxn] at e1
  rw [e1]
  simp only [Option.bind_some]
  have hlt : 2 ^ n - 1 < 2 ^ x.p.toNat := by rw [hxn]; omega
  obtain ⟨T2, e2, hT2⟩ := size_eq x hx 17 k (2 ^ n - 1) T (Nat.le_trans (memP_len _ _) (by omega)) (by omega) hlt hT
  rw [e2]
  simp only [Option.bind_some]
  have hMM := MM_le x (2 ^ n - 1)
  have hb : Best (fx x) (SL x.p.toNat [((2 ^ n - 1 : Nat) : Int)]) (MM x (2 ^ n - 1)) (GG (fx x) none (memP x.p.toNat (2 ^ n - 1))) := by
    have := GG_best (fx x) (memP x.p.toNat (2 ^ n - 1)) (memP_pw _ _)
    unfold SL
    rw [List.map_singleton, Int.toNat_natCast]
    exact this
  rw [lp_l1 x hx k hk (MM x (2 ^ n - 1)) k _ [((2 ^ n - 1 : Nat) : Int)] T2 [] (by omega) (by omega) (by simp; omega) (fun z hz => by
    rw [List.mem_singleton] at hz; exact ⟨_, hz, hlt⟩) (by simp) hb hT2]
  simp only [Option.bind_some, List.nil_append]
  rw [hxn, memP_all]
  unfold allP
  rw [hxn]

/-! ### The program's list -/
theorem lesser_l1 (x : Col) (hpp : 1 ≤ x.p ∧ x.p ≤ 17) (list behind : List Int) (i : Nat) (p : Int) (post : List Int) (hd : behind.drop i = p :: post) (hlb : behind.length ≤ 17) (hpw : (p :: post).Pairwise (· < ·)) (hin : ∀ q ∈ p :: post, 0 ≤ q ∧ q < x.p)
    (hli : list.length ≤ 17) (hlast : ∀ a, list.getLast? = some a → 0 ≤ a ∧ a < x.p ∧ ∀ q ∈ p :: post, a < q) (k : Nat) (hk : 20 ≤ k) : impl_Colouring_lesser_l1 x list behind i k 0 [] = some (filt (fx x) list.getLast? p post) := by
  have hpl : (p :: post).length ≤ 17 := by rw [← hd, List.length_drop]; omega
  have hi : i < behind.length := by
    apply Classical.byContradiction
    intro h
    rw [List.drop_of_length_le (by omega)] at hd
    cases hd
  have hp : behind.getD i 0 = p := by
    have := List.drop_eq_getElem_cons hi
    rw [hd] at this
    have := (List.cons.inj this).1
    simp [List.getD, hi, this]
  have hdr : (behind.take behind.length).drop (w64 ((i : Int) + 1)).toNat = post := by
    rw [List.take_length, w64_id (by omega), show ((i : Int) + 1).toNat = i + 1 by omega]
    have := List.drop_eq_getElem_cons hi
    rw [hd] at this
    exact (List.cons.inj this).2.symm
  -- the test
  obtain ⟨P, hP⟩ : ∃ P : Int → Bool, ∀ q, P q = (match list.getLast? with | none => true | some a => decide (fx x a q = fx x a p)) := ⟨_, fun _ => rfl⟩
  have test : ∀ q, q ∈ post → ((if decide ((list.length : Int) = 0) then some true else (if 0 ≤ w64 ((list.length : Int) - 1) ∧ w64 ((list.length : Int) - 1) < (list.length : Int) then (impl_Colouring_at x (list.getD (w64 ((list.length : Int) - 1)).toNat 0) q).bind fun r18 => (if 0 ≤ w64 ((list.length : Int) - 1) ∧ w64 ((list.length : Int) - 1) < (list.length : Int) then (impl_Colouring_at x (list.getD (w64 ((list.length : Int) - 1)).toNat 0) p).bind fun r20 => some (decide (r18 = r20)) else none) else none)) : Option Bool)
      = some (P q) := by
    intro q hq
    rw [hP q]
    cases hl : list.getLast? with
    | none =>
      have : list = [] := List.getLast?_eq_none_iff.1 hl
      subst this
      simp
    | some a =>
      obtain ⟨a0, a1, a2⟩ := hlast a hl
      have hne : list ≠ [] := fun e => by subst e; simp at hl
      have hpos : 0 < list.length := List.length_pos_iff.2 hne
      have hz : ¬ (list.length : Int) = 0 := by omega
      rw [decide_eq_false hz, w64_id (by omega)]
      simp only [Bool.false_eq_true, if_false]
      have hr : 0 ≤ (list.length : Int) - 1 ∧ (list.length : Int) - 1 < (list.length : Int) := ⟨by omega, by omega⟩
      have hga : list.getD ((list.length : Int) - 1).toNat 0 = a := by
        rw [show ((list.length : Int) - 1).toNat = list.length - 1 by omega]
        rw [List.getLast?_eq_getElem?] at hl
        simp [List.getD, hl]
      have hq1 := hin q (List.mem_cons_of_mem _ hq)
      have hp1 := hin p (List.mem_cons_self ..)
      have hq2 := a2 q (List.mem_cons_of_mem _ hq)
      have hp2 := a2 p (List.mem_cons_self ..)
      rw [if_pos hr, hga, at_ne x a q a0 (by omega) (by omega) (by omega) (by omega)]
      simp only [Option.bind_some]
      rw [if_pos hr, at_ne x a p a0 (by omega) (by omega) (by omega) (by omega)]
      simp only [Option.bind_some]
  have hfil : filt (fx x) list.getLast? p post = post.filter P := by
    have : P = fun q => (match list.getLast? with | none => true | some a => decide (fx x a q = fx x a p)) := funext hP
    rw [this]
    cases list.getLast? with
    | none => exact (List.filter_eq_self.2 (fun _ _ => rfl)).symm
    | some a => rfl
  rw [hfil]
  have hpl2 : post.length ≤ 17 := by rw [List.length_cons] at hpl; omega
  have := loopI (f := fun k' t (s : List Int) => impl_Colouring_lesser_l1 x list behind i k' t s) (post.length : Int) 0
    (fun t s => t ≤ post.length ∧ s = (post.take t.toNat).filter P) (fun r => r = post.filter P) ?_ ?_ k 0 [] (by omega) (by omega) ⟨by omega, by simp⟩
  · obtain ⟨r, e, rfl⟩ := this
    exact e
  · rintro k' t s h0 h1 ⟨_, q⟩
    left
    obtain ⟨m, rfl⟩ := nat_of h0
    have hm : m < post.length := by omega
    rw [Int.toNat_natCast] at q
    refine ⟨(post.take (m + 1)).filter P, ?_, by omega, by rw [show ((m : Int) + 1).toNat = m + 1 by omega]⟩
    show impl_Colouring_lesser_l1 x list behind i (k' + 1) m s = _
    have hmem : post.getD m 0 ∈ post := getD_mem hm
    have ht := test (post.getD m 0) hmem
    rw [impl_Colouring_lesser_l1, hdr, Int.toNat_natCast, Int.toNat_natCast, hp, w64_succ h0 h1 (by omega), if_pos (decide_eq_true h1), if_pos ⟨h0, h1⟩, ht]
    simp only [Option.bind_some]
    have htk : post.take (m + 1) = post.take m ++ [post.getD m 0] := by
      rw [List.take_succ_eq_append_getElem hm]; simp [List.getD, hm]
    have hsl : s.length + 1 ≤ 1099511627776 := by
      have : s.length ≤ post.length := by
        rw [q]
        exact Nat.le_trans List.filter_sublist.length_le (List.take_sublist _ _).length_le
      omega
    rw [htk, List.filter_append, ← q]
    cases hPq : P (post.getD m 0) with
    | true =>
      rw [List.filter_cons_of_pos hPq]
      simp only [if_true, List.length_singleton, hsl, Option.bind_some, List.filter_nil]
    | false =>
      rw [List.filter_cons_of_neg (by rw [hPq]; simp)]
      simp
  · rintro k' t s h0 h1 ⟨q0, q⟩
    have : t = post.length := by omega
    subst this
    rw [Int.toNat_natCast, List.take_length] at q
    refine ⟨s, ?_, q⟩
    show impl_Colouring_lesser_l1 x list behind i (k' + 1) post.length s = _
    rw [impl_Colouring_lesser_l1, hdr]; simp

/-- What a search leaves as the longest list. -/
def nextBest (x : Col) (list behind best : List Int) : List Int :=
  if best.length < list.length + LL (fx x) list.getLast? behind then list ++ GG (fx x) list.getLast? behind else best

theorem GG_len (f : Int → Int → Int) (last : Option Int) (B : List Int) (hp : B.Pairwise (· < ·)) : (GG f last B).length = LL f last B := (first_main f _ last B (Nat.le_refl _) hp).1

theorem nextBest_step (x : Col) (list post s : List Int) (p : Int) (hpw : (p :: post).Pairwise (· < ·)) : nextBest x list post (nextBest x (list ++ [p]) (filt (fx x) list.getLast? p post) s) = nextBest x list (p :: post) s := by
  have hpost := (List.pairwise_cons.1 hpw).2
  have e := GG_len (fx x) (some p) (filt (fx x) list.getLast? p post) (hpost.sublist (filt_sub _ _ _ _))
  unfold nextBest
  rw [List.getLast?_concat, LL, GG]
  generalize LL (fx x) (some p) (filt (fx x) list.getLast? p post) = L' at e ⊢
  generalize GG (fx x) (some p) (filt (fx x) list.getLast? p post) = G' at e ⊢
  generalize LL (fx x) list.getLast? post = Lp
  generalize GG (fx x) list.getLast? post = Gp
  rw [List.length_append, List.length_singleton]
  by_cases hA : s.length < list.length + 1 + L'
  · rw [if_pos hA, if_pos (show s.length < list.length + max Lp (1 + L') by omega)]
    simp only [List.length_append, List.length_singleton, e]
    by_cases hB : Lp ≤ 1 + L'
    · rw [if_pos hB, if_neg (by omega)]; simp
    · rw [if_neg hB, if_pos (by omega)]
  · rw [if_neg hA]
    by_cases hB : s.length < list.length + Lp
    · rw [if_pos hB, if_pos (by omega), if_neg (by omega)]
    · rw [if_neg hB, if_neg (by omega)]

theorem nextBest_len (x : Col) (list behind best : List Int) (hp : behind.Pairwise (· < ·)) : best.length ≤ (nextBest x list behind best).length ∧ ((nextBest x list behind best).length ≤ best.length ∨ (nextBest x list behind best).length ≤ list.length + behind.length) := by
  unfold nextBest
  have h1 := GG_len (fx x) list.getLast? behind hp
  have h2 := LL_le_len (fx x) list.getLast? behind hp
  split
  · rw [List.length_append, h1]; omega
  · omega

theorem lesser_eq (x : Col) (hpp : 1 ≤ x.p ∧ x.p ≤ 17) : ∀ (n k : Nat) (list behind best : List Int), behind.length < n → n + 40 ≤ k → list.length + behind.length ≤ 17 → best.length ≤ 17 → behind.Pairwise (· < ·) → (∀ q ∈ behind, 0 ≤ q ∧ q < x.p) →
    (∀ a, list.getLast? = some a → 0 ≤ a ∧ a < x.p ∧ ∀ q ∈ behind, a < q) → impl_Colouring_lesser k x list behind best = some (nextBest x list behind best) := by
  intro n
  induction n with
  | zero => intro k list behind best hn; omega
  | succ n ih =>
    intro k list behind best hn hk hlb hbl hpw hin hlast
    obtain ⟨k, rfl⟩ : ∃ k', k = k' + 1 := ⟨k - 1, by omega⟩
    rw [impl_Colouring_lesser, impl_Colouring_lesser_body]
    obtain ⟨b0, hb0, hb1, hb2, hb3⟩ : ∃ b0 : List Int, (if decide ((best.length : Int) < (list.length : Int)) = true then (if list.isEmpty = true then none else (cloneA list).bind fun r4 => some r4) else some best) = some b0 ∧ list.length ≤ b0.length ∧ b0.length ≤ 17 ∧ nextBest x list behind b0 = nextBest x list behind best := by
      by_cases h : (best.length : Int) < (list.length : Int)
      · have hne : list.isEmpty = false := by
          cases list with
          | nil => rw [List.length_nil] at h; omega
          | cons a l => rfl
        have hc : cloneA list = some list := by unfold cloneA; rw [if_pos (by omega)]
        refine ⟨list, ?_, by omega, by omega, ?_⟩
        · rw [if_pos (decide_eq_true h), if_neg (by rw [hne]; simp), hc]; rfl
        · have e := GG_len (fx x) list.getLast? behind hpw
          unfold nextBest
          rw [if_pos (show best.length < list.length + LL (fx x) list.getLast? behind by omega)]
          split
          · rfl
          · next h' =>
            have : GG (fx x) list.getLast? behind = [] := List.eq_nil_of_length_eq_zero (by omega)
            rw [this, List.append_nil]
      · exact ⟨best, by rw [if_neg (by simpa using h)], by omega, hbl, rfl⟩
    rw [hb0, ← hb3]
    simp only [Option.bind_some]
    have := loopI (f := fun k' t (s : List Int) => impl_Colouring_lesser_l0 k (impl_Colouring_lesser k) x list behind k' t s) (behind.length : Int) 0
      (fun t s => t ≤ behind.length ∧ list.length ≤ s.length ∧ s.length ≤ 17 ∧ nextBest x list (behind.drop t.toNat) s = nextBest x list behind b0)
      (fun r => r = nextBest x list behind b0) ?_ ?_ k 0 b0 (by omega) (by omega) ⟨by omega, hb1, hb2, by simp⟩
    · obtain ⟨r, e, rfl⟩ := this
      exact e
    · rintro k' t s h0 h1 ⟨_, q1, q2, q3⟩
      obtain ⟨m, rfl⟩ := nat_of h0
      have hm : m < behind.length := by omega
      rw [Int.toNat_natCast] at q3
      have hd := List.drop_eq_getElem_cons hm
      generalize hpe : behind[m] = p at hd
      generalize hposte : behind.drop (m + 1) = post at hd
      have hsub : (p :: post).Sublist behind := by rw [← hd]; exact List.drop_sublist _ _
      have hpw2 := hpw.sublist hsub
      have hpostlen : post.length + (m + 1) = behind.length := by rw [← hposte, List.length_drop]; omega
      have hp : behind.getD m 0 = p := by simp [List.getD, hm, hpe]
      have hpm := hin p (hsub.subset (List.mem_cons_self ..))
      have hLL := LL_le_len (fx x) list.getLast? (p :: post) hpw2
      rw [List.length_cons] at hLL
      rw [hd] at q3
      have hw : w64 (w64 ((list.length : Int) + (behind.length : Int)) - (m : Int)) = (list.length : Int) + behind.length - m := by rw [w64_id (n := (list.length : Int) + behind.length) (by omega), w64_id (by omega)]
      by_cases hpr : (list.length : Int) + behind.length - m ≤ s.length
      · right
        refine ⟨s, ?_, ?_⟩
        · show impl_Colouring_lesser_l0 k (impl_Colouring_lesser k) x list behind (k' + 1) m s = _
          rw [impl_Colouring_lesser_l0, if_pos (decide_eq_true h1), if_pos ⟨h0, h1⟩, hw, if_pos (decide_eq_true hpr)]
          rfl
        · rw [← q3]
          unfold nextBest
          rw [if_neg (by omega)]
      · left
        have hf := lesser_l1 x hpp list behind m p post hd (by omega) hpw2 (fun q hq => hin q (hsub.subset hq)) (by omega) (fun a ha => by
          obtain ⟨a0, a1, a2⟩ := hlast a ha
          exact ⟨a0, a1, fun q hq => a2 q (hsub.subset hq)⟩) k (by omega)
        have hfs := filt_sub (fx x) list.getLast? p post
        have hfl := hfs.length_le
        have hpc := List.pairwise_cons.1 hpw2
        have hrec : impl_Colouring_lesser k x (list ++ [p]) (filt (fx x) list.getLast? p post) s = some (nextBest x (list ++ [p]) (filt (fx x) list.getLast? p post) s) := by
          refine ih k (list ++ [p]) (filt (fx x) list.getLast? p post) s (by omega) (by omega) (by rw [List.length_append, List.length_singleton]; omega) q2 (hpc.2.sublist hfs) (fun q hq => hin q (hsub.subset (List.mem_cons_of_mem _ (hfs.subset hq)))) fun a ha => ?_
          rw [List.getLast?_concat] at ha
          cases ha
          exact ⟨hpm.1, hpm.2, fun q hq => hpc.1 q (hfs.subset hq)⟩
        have hnl := nextBest_len x (list ++ [p]) (filt (fx x) list.getLast? p post) s (hpc.2.sublist hfs)
        rw [List.length_append, List.length_singleton] at hnl
        refine ⟨nextBest x (list ++ [p]) (filt (fx x) list.getLast? p post) s, ?_, by omega, by omega, by omega, ?_⟩
        · show impl_Colouring_lesser_l0 k (impl_Colouring_lesser k) x list behind (k' + 1) m s = _
          have hg : 0 ≤ w64 ((m : Int) + 1) ∧ w64 ((m : Int) + 1) ≤ (behind.length : Int) ∧ (behind.length : Int) ≤ (behind.length : Int) := by rw [w64_id (by omega)]; omega
          rw [impl_Colouring_lesser_l0, if_pos (decide_eq_true h1), if_pos ⟨h0, h1⟩, hw, if_neg (by simpa using hpr), if_pos hg, hf]
          simp only [Option.bind_some]
          rw [Int.toNat_natCast, hp]
          by_cases he : list.isEmpty = true
          · have : list = [] := List.isEmpty_iff.1 he
            subst this
            rw [if_pos he, if_pos (by simp)]
            rw [List.nil_append] at hrec
            rw [hrec, w64_succ h0 h1 (by omega)]
            rfl
          · have hc : cloneA list = some list := by unfold cloneA; rw [if_pos (by omega)]
            rw [if_neg he, hc]
            simp only [Option.bind_some]
            rw [if_pos (by simp; omega), hrec, w64_succ h0 h1 (by omega)]
            rfl
        · rw [show ((m : Int) + 1).toNat = m + 1 by omega, hposte, nextBest_step x list post s p hpw2, q3]
    · rintro k' t s h0 h1 ⟨q0, q1, q2, q3⟩
      have : t = behind.length := by omega
      subst this
      refine ⟨s, ?_, ?_⟩
      · show impl_Colouring_lesser_l0 k (impl_Colouring_lesser k) x list behind (k' + 1) behind.length s = _
        rw [impl_Colouring_lesser_l0]; simp
      · rw [← q3, Int.toNat_natCast, List.drop_length]
        unfold nextBest
        rw [LL, if_neg (by omega)]

theorem impl_lesser_eq (x : Col) (hpp : 1 ≤ x.p ∧ x.p ≤ 17) (k : Nat) (hk : 100 ≤ k) : impl_Colouring_lesser k x [] (allP x) [] = some (GG (fx x) none (allP x)) := by
  have hl := pick_length x.p.toNat fun _ => true
  rw [lesser_eq x hpp 18 k [] (allP x) [] (by unfold allP; omega) (by omega) (by unfold allP; simp; omega) (by simp) (pick_pw _ _) (fun q hq => by
    obtain ⟨v, rfl, v1, _⟩ := pick_mem.1 hq
    omega) (fun a ha => by simp at ha)]
  congr 1
  unfold nextBest
  have e := GG_len (fx x) none (allP x) (pick_pw _ _)
  simp only [List.getLast?_nil, List.length_nil, Nat.zero_add, List.nil_append]
  split
  · rfl
  · exact (List.eq_nil_of_length_eq_zero (by omega)).symm

end Go.Proofs.Ytfnbhfobgimnjaa
