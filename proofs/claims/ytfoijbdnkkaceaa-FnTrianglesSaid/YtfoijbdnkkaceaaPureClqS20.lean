/- Plain laws: how the reference counts and lists cliques. No conditions beyond those that each lemma states. -/
import Derived.Test.YtfoijbdnkkaceaaPureClq20
set_option linter.unusedVariables false
set_option linter.unusedSimpArgs false
namespace Go.Proofs.Ytfoijbdnkkaceaa
open Go Go.RowKit Ab

/-- The neighbours of a point, as bits. -/
def nb (x : Col) (c : Int) (p : Nat) : Nat := bitsN (fun j => aB x c (p : Int) (j : Int)) x.p.toNat
theorem nb_test (x : Col) (c : Int) (p j : Nat) : (nb x c p).testBit j = (decide (j < x.p.toNat) && aB x c (p : Int) (j : Int)) := bitsN_test _ _ _
theorem nb_lt (x : Col) (hp : 1 ≤ x.p ∧ x.p ≤ 17) (c : Int) (p : Nat) : nb x c p < 2 ^ 63 := lt63 (lt17 (bitsN_lt _ _) (by omega))

theorem around_nb (k : Nat) (x : Col) (hx : 1 ≤ x.p ∧ x.p ≤ 17) (hk : 20 ≤ k) (c : Int) (i : Nat) (hi : (i : Int) < x.p) : spec_l01Around k x i c = some ((nb x c i : Nat) : Int) := by
  unfold spec_l01Around nb
  generalize hP : (fun j : Nat => aB x c (i : Int) (j : Int)) = P
  have hP' : ∀ j : Nat, P j = aB x c (i : Int) (j : Int) := fun j => by rw [← hP]
  have := loopI (f := fun k t (s : Int) => spec_l01Around_l0 x i c k s t) x.p 0 (fun t s => t ≤ x.p ∧ s = ((bitsN P t.toNat : Nat) : Int)) (fun r => r = ((bitsN P x.p.toNat : Nat) : Int)) ?_ ?_ k 0 0 (by omega) (by omega) ⟨by omega, rfl⟩
  · obtain ⟨r, e, rfl⟩ := this
    rw [e]; rfl
  · intro k t s h0 h1 ⟨_, q⟩
    left
    obtain ⟨m, rfl⟩ := nat_of h0
    refine ⟨_, ?_, by omega, rfl⟩
    show spec_l01Around_l0 x i c (k + 1) s m = _
    have e0 : ((m : Int) + 1).toNat = m + 1 := by omega
    rw [spec_l01Around_l0, w64_succ h0 h1 (by omega), e0, u64_id (by omega)]
    simp only [Int.toNat_natCast] at q
    have hb := lt63 (lt17 (bitsN_lt P m) (by omega))
    have hor := bOr_nat (a := bitsN P m) (b := 2 ^ m) hb (Nat.pow_lt_pow_right (by omega) (by omega))
    simp only [h1, decide_true, if_true]
    have hPm := hP' m
    unfold aB at hPm
    by_cases e : m = i
    · subst e
      simp only [ne_eq, not_true_eq_false, false_and, decide_false] at hPm
      simp [hPm, bitsN, q]
    · have e' : ¬ (m : Int) = i := by omega
      have e'' : ¬ (i : Int) = m := by omega
      rw [specAt_ne x i m (by omega) (by omega) (by omega) (by omega) (by omega)]
      by_cases h : x.cc i m = c
      · simp only [ne_eq, e'', not_false_eq_true, h, and_self, decide_true] at hPm
        simp only [e', h, decide_false, Bool.not_false, if_true, Option.bind_some, decide_true, h0, q]
        rw [bShl_one (by omega), hor]
        simp [bitsN, hPm]
      · simp only [ne_eq, e'', not_false_eq_true, h, and_false, decide_false] at hPm
        simp [e', h, bitsN, hPm, q]
  · intro k t s h0 h1 ⟨q1, q2⟩
    have : t = x.p := by omega
    subst this
    refine ⟨s, ?_, q2⟩
    show spec_l01Around_l0 x i c (k + 1) s x.p = _
    rw [spec_l01Around_l0]; simp

def rws (x : Col) (c : Int) (n : Nat) : List Int := (List.range n).map fun i => ((nb x c i : Nat) : Int)
theorem rws_length (x : Col) (c : Int) (n : Nat) : (rws x c n).length = n := by simp [rws]
theorem rws_get (x : Col) (c : Int) (n i : Nat) (h : i < n) : (rws x c n).getD i 0 = ((nb x c i : Nat) : Int) := by simp [rws, List.getD, h]
theorem rws_succ (x : Col) (c : Int) (n : Nat) : rws x c (n + 1) = rws x c n ++ [((nb x c n : Nat) : Int)] := by simp [rws, List.range_succ]

theorem rows_val {k : Nat} (hk : 5000 ≤ k) (x : Col) (hp : 1 ≤ x.p ∧ x.p ≤ 17) (c : Int) : spec_l02Rows k x c = some (rws x c x.p.toNat) := by
  unfold spec_l02Rows
  have := loopI (f := fun k' i (s : List Int) => spec_l02Rows_l0 k x c k' i s) x.p 0 (fun i s => i ≤ x.p ∧ s = rws x c i.toNat) (fun r => r = rws x c x.p.toNat) ?_ ?_ k 0 [] (by omega) (by omega) ⟨by omega, rfl⟩
  · obtain ⟨r, e, rfl⟩ := this
    rw [e]; rfl
  · intro k' i s h0 h1 ⟨_, q⟩
    left
    obtain ⟨m, rfl⟩ := nat_of h0
    refine ⟨_, ?_, by omega, rfl⟩
    show spec_l02Rows_l0 k x c (k' + 1) m s = _
    have e0 : ((m : Int) + 1).toNat = m + 1 := by omega
    simp only [Int.toNat_natCast] at q
    have hl : s.length + ([((nb x c m : Nat) : Int)]).length ≤ 1099511627776 := by rw [q, rws_length]; simp; omega
    rw [spec_l02Rows_l0, w64_succ h0 h1 (by omega), e0, around_nb k x hp (by omega) c m h1, rws_succ, ← q]
    simp only [h1, decide_true, if_true, Option.bind_some, hl]
  · intro k' i s h0 h1 ⟨q1, q2⟩
    have : i = x.p := by omega
    subst this
    refine ⟨s, ?_, q2⟩
    show spec_l02Rows_l0 k x c (k' + 1) x.p s = _
    rw [spec_l02Rows_l0]; simp

/-! ### Bits that are counted -/
theorem ones_loop : ∀ (m s : Nat) (cnt : Int) (k : Nat), s < 2 ^ m → m ≤ 60 → m < k → 0 ≤ cnt → cnt + m ≤ 1000 → spec_l01Ones_l0 k (s : Int) cnt = some (cnt + (mem s 0 m).length) := by
  intro m
  induction m with
  | zero =>
    intro s cnt k hs hm hk h0 h1
    obtain ⟨k, rfl⟩ : ∃ q, k = q + 1 := ⟨k - 1, by omega⟩
    have : s = 0 := by simpa using hs
    subst this
    rw [spec_l01Ones_l0, mem_end (by omega)]; simp
  | succ m ih =>
    intro s cnt k hs hm hk h0 h1
    obtain ⟨k, rfl⟩ : ∃ q, k = q + 1 := ⟨k - 1, by omega⟩
    rw [spec_l01Ones_l0]
    by_cases h : s = 0
    · subst h
      have : mem 0 0 (m + 1) = [] := by
        unfold mem
        rw [List.filter_eq_nil_iff]
        intro a _; simp
      rw [this]; simp
    · have hp : (0 : Int) < (s : Int) := by omega
      have hb : s < 2 ^ 61 := Nat.lt_of_lt_of_le hs (Nat.pow_le_pow_right (by omega) (by omega))
      have e1 : (s : Int).tdiv 2 = ((s / 2 : Nat) : Int) := by rw [Int.tdiv_eq_ediv_of_nonneg (by omega)]; omega
      have e2 : (s : Int).tmod 2 = ((s % 2 : Nat) : Int) := by rw [Int.tmod_eq_emod_of_nonneg (by omega)]; omega
      rw [decide_eq_true hp, if_pos rfl, e1, e2, w64_id (by omega), w64_id (by omega), ih (s / 2) _ k (by rw [Nat.pow_succ] at hs; omega) (by omega) (by omega) (by omega) (by omega), mem_half]
      congr 1
      rw [Int.natCast_add]
      omega
theorem ones_val {k n s : Nat} (hk : 100 ≤ k) (hn : n ≤ 60) (hs : s < 2 ^ n) : spec_l01Ones k (s : Int) = some ((mem s 0 n).length : Int) := by
  unfold spec_l01Ones
  rw [ones_loop n s 0 k hs hn (by omega) (by omega) (by omega)]
  simp

/-! ### Cliques that are counted -/
section
variable (x : Col) (hp : 1 ≤ x.p ∧ x.p ≤ 17) (c : Int)
include hp

theorem sp_lt {s : Nat} (hs : s < 2 ^ x.p.toNat) : s < 2 ^ 63 := lt63 (lt17 hs (by omega))

theorem cntbit {s p : Nat} (hs : s < 2 ^ x.p.toNat) (hpn : p < x.p.toNat) (hb : s.testBit p = true) (hlow : ∀ i, i < p → s.testBit i = false) :
    bXor .i64 (s : Int) (bShl .i64 1 (p : Int)) = ((s ^^^ 2 ^ p : Nat) : Int) ∧ bAnd .i64 ((s ^^^ 2 ^ p : Nat) : Int) ((nb x c p : Nat) : Int) = (((s ^^^ 2 ^ p) &&& nb x c p : Nat) : Int) ∧ s ^^^ 2 ^ p < 2 ^ x.p.toNat ∧
    (s ^^^ 2 ^ p) &&& nb x c p < 2 ^ x.p.toNat ∧ (∀ i, i < p + 1 → (s ^^^ 2 ^ p).testBit i = false) ∧ mem s p x.p.toNat = (p : Int) :: mem (s ^^^ 2 ^ p) (p + 1) x.p.toNat ∧
    mem ((s ^^^ 2 ^ p) &&& nb x c p) 0 x.p.toNat = (mem (s ^^^ 2 ^ p) (p + 1) x.p.toNat).filter (aB x c p) := by
  have h2 : 2 ^ p < 2 ^ x.p.toNat := Nat.pow_lt_pow_right (by omega) hpn
  have hx := Nat.xor_lt_two_pow hs h2
  have ht : ∀ i, (s ^^^ 2 ^ p).testBit i = (s.testBit i && !decide (p = i)) := fun i => by
    rw [Nat.testBit_xor, Nat.testBit_two_pow]
    by_cases e : p = i
    · subst e; simp [hb]
    · simp [e]
  have hlow' : ∀ i, i < p + 1 → (s ^^^ 2 ^ p).testBit i = false := fun i hi => by
    rw [ht]
    by_cases e : p = i
    · simp [e]
    · rw [hlow i (by omega)]; simp
  refine ⟨?_, bAnd_nat (sp_lt x hp hx) (nb_lt x hp c p), hx, Nat.lt_of_le_of_lt Nat.and_le_left hx, hlow', ?_, ?_⟩
  · rw [bShl_one (by omega), bXor_nat (sp_lt x hp hs) (sp_lt x hp h2)]
  · rw [mem_yes hpn hb]
    congr 1
    exact mem_congr fun i h1 h2 => by rw [ht]; have : ¬ p = i := by omega
                                      simp [this]
  · rw [mem_low (p := p + 1) fun i hi => by rw [Nat.testBit_and, hlow' i hi]; rfl]
    refine mem_flt fun i h1 h2 => ?_
    rw [Nat.testBit_and, nb_test]
    simp [h2]

theorem spec_count : ∀ (m s k : Nat), s < 2 ^ x.p.toNat → m + 200 ≤ k → spec_l02Count k (rws x c x.p.toNat) (s : Int) (m : Int) = some ((cl (aB x c) m (mem s 0 x.p.toNat)).length : Int) := by
  intro m
  induction m with
  | zero =>
    intro s k hs hk
    obtain ⟨k, rfl⟩ : ∃ q, k = q + 1 := ⟨k - 1, by omega⟩
    rw [spec_l02Count, spec_l02Count_body, cl_zero]
    simp
  | succ m ih =>
    intro s0 k hs0 hk
    obtain ⟨k, rfl⟩ : ∃ q, k = q + 1 := ⟨k - 1, by omega⟩
    rw [spec_l02Count, spec_l02Count_body]
    have hm : ¬ ((m + 1 : Nat) : Int) = 0 := by omega
    rw [decide_eq_false hm, if_neg (by simp)]
    have bound : ∀ (j s p : Nat), (cl (aB x c) j (mem s p x.p.toNat)).length ≤ 131072 := fun j s p => by
      refine Nat.le_trans (cl_le _ _ _) ?_
      have := mem_length s p x.p.toNat
      exact Nat.le_trans (Nat.pow_le_pow_right (by omega) (show _ ≤ 17 by omega)) (by decide)
    have loop : ∀ (d p s : Nat) (cnt : Int) (f : Nat), x.p.toNat - p = d → d < f → p ≤ x.p.toNat → s < 2 ^ x.p.toNat → (∀ i, i < p → s.testBit i = false) → 0 ≤ cnt → cnt ≤ 1000000000 + 10000000 * p →
        spec_l02Count_l0 k (spec_l02Count k) (rws x c x.p.toNat) ((m + 1 : Nat) : Int) f (s : Int) cnt (p : Int) = some (cnt + (cl (aB x c) (m + 1) (mem s p x.p.toNat)).length) := by
      intro d
      induction d with
      | zero =>
        intro p s cnt f hd hf hpn hs hlow h0 h1
        obtain ⟨f, rfl⟩ : ∃ q, f = q + 1 := ⟨f - 1, by omega⟩
        have hpe : ¬ (p : Int) < ((rws x c x.p.toNat).length : Int) := by rw [rws_length]; omega
        rw [spec_l02Count_l0, decide_eq_false hpe, mem_end (by omega), cl_nil]
        simp
      | succ d ihd =>
        intro p s cnt f hd hf hpn hs hlow h0 h1
        obtain ⟨f, rfl⟩ : ∃ q, f = q + 1 := ⟨f - 1, by omega⟩
        have hpl : (p : Int) < ((rws x c x.p.toNat).length : Int) := by rw [rws_length]; omega
        have hones := ones_val (k := k) (by omega) (show x.p.toNat ≤ 60 by omega) hs
        rw [spec_l02Count_l0, decide_eq_true hpl, hones, mem_low hlow]
        simp only [if_true, Option.bind_some]
        by_cases ho : ((m + 1 : Nat) : Int) ≤ ((mem s p x.p.toNat).length : Int)
        · rw [decide_eq_true ho]
          simp only [if_true, Option.bind_some]
          rw [u64_id (by omega), bit_eq (sp_lt x hp hs) (by omega), Int.toNat_natCast, rws_get x c _ p (by omega), w64_id (n := (p : Int) + 1) (by omega)]
          have hp0 : (0 : Int) ≤ p := by omega
          by_cases hb : s.testBit p = true
          · obtain ⟨b1, b2, b3, b4, b5, b6, b7⟩ := cntbit x hp c hs (show p < x.p.toNat by omega) hb hlow
            have hself := ih ((s ^^^ 2 ^ p) &&& nb x c p) k b4 (by omega)
            have hml := mem_length s p x.p.toNat
            have hw : w64 (((m + 1 : Nat) : Int) - 1) = (m : Int) := by rw [w64_id (by omega)]; omega
            have hb1 := bound m ((s ^^^ 2 ^ p) &&& nb x c p) 0
            rw [b7] at hself hb1
            simp only [hb, if_true, decide_true, hp0, hpl, and_self, Int.toNat_natCast, b1, b2, hw, hself, Option.bind_some]
            rw [w64_id (by omega), show (p : Int) + 1 = ((p + 1 : Nat) : Int) by omega, ihd (p + 1) _ _ f (by omega) (by omega) (by omega) b3 b5 (by omega) (by omega), b6, cl_cons, List.length_append, List.length_map]
            congr 1
            rw [Int.natCast_add]; omega
          · have hb' : s.testBit p = false := by simpa using hb
            simp only [hb', Bool.false_eq_true, if_false, hp0, if_true, Option.bind_some, show ¬ (0 : Int) = 1 by decide, decide_false]
            rw [show (p : Int) + 1 = ((p + 1 : Nat) : Int) by omega, ihd (p + 1) s cnt f (by omega) (by omega) (by omega) hs (fun i hi => by
              by_cases e : i = p
              · subst e; exact hb'
              · exact hlow i (by omega)) h0 (by omega), mem_no (by omega) hb']
        · rw [decide_eq_false ho, cl_short _ _ _ (by omega)]
          simp
    have := loop x.p.toNat 0 s0 0 k (by omega) (by omega) (by omega) hs0 (fun i hi => by omega) (by omega) (by omega)
    rw [show ((0 : Nat) : Int) = 0 from rfl] at this
    rw [this]
    simp

/-! ### Cliques that are listed -/
theorem gobit {s p : Nat} (hs : s < 2 ^ x.p.toNat) (hpn : p < x.p.toNat) :
    bShl .i64 (bShr .i64 (bAnd .i64 (s : Int) ((nb x c p : Nat) : Int)) (p : Int)) (p : Int) = (((s &&& nb x c p) >>> p <<< p : Nat) : Int) ∧ (s &&& nb x c p) >>> p <<< p < 2 ^ x.p.toNat ∧
    mem ((s &&& nb x c p) >>> p <<< p) 0 x.p.toNat = (mem s (p + 1) x.p.toNat).filter (aB x c p) := by
  have hle : (s &&& nb x c p) >>> p <<< p ≤ s := by
    rw [Nat.shiftLeft_eq, Nat.shiftRight_eq_div_pow]
    exact Nat.le_trans (Nat.div_mul_le_self _ _) Nat.and_le_left
  have ht : ∀ i, ((s &&& nb x c p) >>> p <<< p).testBit i = (decide (p ≤ i) && (s.testBit i && (nb x c p).testBit i)) := fun i => by
    rw [Nat.testBit_shiftLeft, Nat.testBit_shiftRight, Nat.testBit_and]
    by_cases h : p ≤ i
    · have : p + (i - p) = i := by omega
      simp [h, this]
    · simp [h]
  refine ⟨?_, Nat.lt_of_le_of_lt hle hs, ?_⟩
  · rw [bAnd_nat (sp_lt x hp hs) (nb_lt x hp c p), bShr_nat (by omega), bShl_nat (by omega) (Nat.lt_of_le_of_lt hle (sp_lt x hp hs))]
  · rw [mem_low (p := p + 1) fun i hi => by
      rw [ht, nb_test]
      by_cases e : i = p
      · subst e; simp [aB_irr]
      · have : ¬ p ≤ i := by omega
        simp [this]]
    refine mem_flt fun i h1 h2 => ?_
    rw [ht, nb_test]
    have : p ≤ i := by omega
    simp [h2, this]

theorem spec_go (most : Nat) (hmost : most ≤ 1000) (m : Nat) (hm : m ≤ 100) : ∀ (j : Nat) (b : List Int) (s : Nat) (out : List (List Int)) (k : Nat), b.length + j = m → s < 2 ^ x.p.toNat → out.length < most → j + 200 ≤ k →
    spec_l02Go k (rws x c x.p.toNat) b (s : Int) (m : Int) out (most : Int) = some ((out ++ (cl (aB x c) j (mem s 0 x.p.toNat)).map (b ++ ·)).take most) := by
  intro j
  induction j with
  | zero =>
    intro b s out k hj hs hout hk
    obtain ⟨k, rfl⟩ : ∃ q, k = q + 1 := ⟨k - 1, by omega⟩
    have hbm : (b.length : Int) = (m : Int) := by omega
    have h1 : ([] : List Int).length + b.length ≤ 1099511627776 := by simp; omega
    have h2 : out.length + ([b]).length ≤ 1099511627776 := by simp; omega
    rw [spec_l02Go, spec_l02Go_body, decide_eq_true hbm, if_pos rfl, spec_l01Own, if_pos h1, cl_zero]
    simp only [Option.bind_some, List.nil_append, if_pos h2, List.map_cons, List.map_nil, List.append_nil]
    rw [List.take_of_length_le (by simp; omega)]
  | succ j ih =>
    intro b s0 out k hj hs0 hout hk
    obtain ⟨k, rfl⟩ : ∃ q, k = q + 1 := ⟨k - 1, by omega⟩
    have hbm : ¬ (b.length : Int) = (m : Int) := by omega
    have hones := ones_val (k := k) (by omega) (show x.p.toNat ≤ 60 by omega) hs0
    have hlen := mem_length s0 0 x.p.toNat
    rw [spec_l02Go, spec_l02Go_body, decide_eq_false hbm, if_neg (by simp), hones]
    simp only [Option.bind_some]
    rw [w64_id (by omega)]
    by_cases ho : (b.length : Int) + ((mem s0 0 x.p.toNat).length : Int) < (m : Int)
    · rw [decide_eq_true ho, if_pos rfl, cl_short _ _ _ (by omega)]
      simp only [List.map_nil, List.append_nil]
      rw [List.take_of_length_le (by omega)]
    · rw [decide_eq_false ho, if_neg (by simp)]
      have loop : ∀ (d p f : Nat) (cur : List (List Int)), x.p.toNat - p = d → d < f → p ≤ x.p.toNat → cur.length ≤ most →
          spec_l02Go_l0 (spec_l02Go k) (rws x c x.p.toNat) b (s0 : Int) (m : Int) (most : Int) f (p : Int) cur = some ((cur ++ (cl (aB x c) (j + 1) (mem s0 p x.p.toNat)).map (b ++ ·)).take most) := by
        intro d
        induction d with
        | zero =>
          intro p f cur hd hf hpn hc
          obtain ⟨f, rfl⟩ : ∃ q, f = q + 1 := ⟨f - 1, by omega⟩
          have hpe : ¬ (p : Int) < ((rws x c x.p.toNat).length : Int) := by rw [rws_length]; omega
          rw [spec_l02Go_l0, decide_eq_false hpe, mem_end (by omega), cl_nil]
          simp only [letO, Bool.false_eq_true, if_false, Option.bind_some, List.map_nil, List.append_nil]
          rw [List.take_of_length_le (by omega)]
        | succ d ihd =>
          intro p f cur hd hf hpn hc
          obtain ⟨f, rfl⟩ : ∃ q, f = q + 1 := ⟨f - 1, by omega⟩
          have hpl : (p : Int) < ((rws x c x.p.toNat).length : Int) := by rw [rws_length]; omega
          rw [spec_l02Go_l0, decide_eq_true hpl]
          by_cases hfull : (cur.length : Int) < (most : Int)
          · rw [decide_eq_true hfull]
            simp only [letO, if_true, Option.bind_some]
            rw [u64_id (by omega), bit_eq (sp_lt x hp hs0) (by omega), Int.toNat_natCast, rws_get x c _ p (by omega), w64_id (n := (p : Int) + 1) (by omega), show (p : Int) + 1 = ((p + 1 : Nat) : Int) by omega]
            have hp0 : (0 : Int) ≤ p := by omega
            by_cases hb : s0.testBit p = true
            · obtain ⟨b1, b2, b3⟩ := gobit x hp c hs0 (show p < x.p.toNat by omega)
              have h1 : ([] : List Int).length + b.length ≤ 1099511627776 := by simp; omega
              have h2 : b.length + ([(p : Int)]).length ≤ 1099511627776 := by simp; omega
              have hself := ih (b ++ [(p : Int)]) ((s0 &&& nb x c p) >>> p <<< p) cur k (by simp; omega) b2 (by omega) (by omega)
              simp only [hb, if_true, decide_true, hp0, hpl, and_self, Int.toNat_natCast, spec_l01Own, if_pos h1, Option.bind_some, List.nil_append, if_pos h2, b1, hself]
              rw [ihd (p + 1) f _ (by omega) (by omega) (by omega) (by rw [List.length_take]; omega), take_take_app, List.append_assoc, mem_yes (by omega) hb, cl_cons, List.map_append, List.map_map, b3]
              have hfun : ((fun z => b ++ z) ∘ fun z => (p : Int) :: z) = fun z => (b ++ [(p : Int)]) ++ z := by funext z; simp
              rw [hfun]
            · have hb' : s0.testBit p = false := by simpa using hb
              simp only [hb', Bool.false_eq_true, if_false, hp0, if_true, Option.bind_some, show ¬ (0 : Int) = 1 by decide, decide_false]
              rw [ihd (p + 1) f cur (by omega) (by omega) (by omega) hc, mem_no (by omega) hb']
          · rw [decide_eq_false hfull]
            simp only [letO, Bool.false_eq_true, if_true, if_false, Option.bind_some]
            rw [List.take_append_of_le_length (by omega), List.take_of_length_le (by omega)]
      have := loop x.p.toNat 0 k out (by omega) (by omega) (by omega) (by omega)
      rw [show ((0 : Nat) : Int) = 0 from rfl] at this
      rw [this]; rfl

theorem whole_bits : w64 ((bShl .i64 1 (IntKind.u64.wrap x.p)) - 1) = ((2 ^ x.p.toNat - 1 : Nat) : Int) ∧ 2 ^ x.p.toNat - 1 < 2 ^ x.p.toNat ∧ (0 : Int) ≤ IntKind.u64.wrap x.p := by
  obtain ⟨n, hn⟩ := nat_of (show 0 ≤ x.p by omega)
  have h2 : 2 ^ n < 2 ^ 18 := Nat.pow_lt_pow_right (by omega) (by omega)
  have h0 : 0 < 2 ^ n := Nat.two_pow_pos n
  rw [u64_id (by omega), hn, bShl_one (by omega)]
  simp only [Int.toNat_natCast]
  refine ⟨?_, by omega, by omega⟩
  rw [w64_id (by omega)]; omega

theorem spec_list {k : Nat} (hk : 5000 ≤ k) (m most : Nat) (hm : m ≤ 100) (h1 : 1 ≤ most) (hmost : most ≤ 1000) : spec_l02List k x c (m : Int) (most : Int) = some ((cl (aB x c) m (pts x)).take most) := by
  obtain ⟨w1, w2, w3⟩ := whole_bits x hp
  unfold spec_l02List
  rw [rows_val hk x hp c]
  simp only [Option.bind_some, if_pos w3, w1]
  rw [spec_go x hp c most hmost m hm m [] (2 ^ x.p.toNat - 1) [] k (by simp) w2 (by simp; omega) (by omega), mem_all]
  simp only [Option.bind_some, List.nil_append, List.map_id']
  rfl
end
end Go.Proofs.Ytfoijbdnkkaceaa
