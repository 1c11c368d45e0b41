/- Plain laws of chapter 3: digital colourings, colourings by squares, colourings out of lists. No conditions beyond those that each lemma states. -/
import Derived.Test.YtkknnbmmcmhngaaGreatPureTurn
set_option linter.unusedVariables false
set_option linter.unusedSimpArgs false
namespace Go.Proofs.YtkknnbmmcmhngaaGreat
open Go Go.RowKit Ab

theorem xorI {i j : Nat} (hi : i < 17) (hj : j < 17) : bXor .i64 (i : Int) (j : Int) = ((i ^^^ j : Nat) : Int) := by
  have : ∀ i : Nat, i < 17 → ∀ j : Nat, j < 17 → bXor .i64 (i : Int) (j : Int) = ((i ^^^ j : Nat) : Int) := by decide +kernel
  exact this i hi j hj
theorem shlI {d : Nat} (hd : d ≤ 4) : bShl .i64 1 (d : Int) = ((2 ^ d : Nat) : Int) := by
  have : ∀ d : Nat, d < 5 → bShl .i64 1 (d : Int) = ((2 ^ d : Nat) : Int) := by decide +kernel
  exact this d (by omega)
theorem wrapU {d : Nat} (hd : d ≤ 4) : IntKind.u64.wrap (d : Int) = (d : Int) := by
  have : ∀ d : Nat, d < 5 → IntKind.u64.wrap (d : Int) = (d : Int) := by decide +kernel
  exact this d (by omega)
theorem pow_le {d : Nat} (hd : d ≤ 4) : 2 ^ d ≤ 16 := by
  have : ∀ d : Nat, d < 5 → 2 ^ d ≤ 16 := by decide +kernel
  exact this d (by omega)

/-! ### Digital colourings -/
def digC (n : Nat) (k : Int) (L : List Int) : Col := mkC n k (fun a b => L.getD ((a ^^^ b) - 1) 0)
theorem digitalOf_val {k d : Nat} (hk : 19 ≤ k) (hd : d ≤ 4) (c : Int) {L : List Int} (hL : 2 ^ d - 1 ≤ L.length) : impl_digitalOf k d c L = some (digC (2 ^ d) c L) := by
  have hp := pow_le hd
  unfold impl_digitalOf
  rw [if_pos (by omega), shlI hd, made_val (g := fun a b => L.getD ((a ^^^ b) - 1) 0) (by omega) hk fun i j hij hj => by
    have hx := xor_range d hd i (by omega) j hj (by omega)
    unfold impl_digitalOf_c1
    rw [xorI (by omega) (by omega), w64_id (by omega), if_pos (by omega)]
    have : (((i ^^^ j : Nat) : Int) - 1).toNat = (i ^^^ j) - 1 := by omega
    rw [this]]
  rfl
theorem specDigital_val {k d : Nat} (hk : 19 ≤ k) (hd : d ≤ 4) (c : Int) {L : List Int} (hL : 2 ^ d - 1 ≤ L.length) : spec_l03Digital k ((2 ^ d : Nat) : Int) c L = some (digC (2 ^ d) c L) := by
  have hp := pow_le hd
  have hpos : 1 ≤ 2 ^ d := Nat.one_le_two_pow
  unfold spec_l03Digital
  have := nest (fun k' j s => spec_l03Digital_l0 k ((2 ^ d : Nat) : Int) L k' j s) (2 ^ d) (by omega) (fun a b => L.getD ((a ^^^ b) - 1) 0) c
    (fun k' j s hj q1 q2 q3 => by
      obtain ⟨y, e, r⟩ := nest1 (fun K i s => spec_l03Digital_l1 L j K i s) (2 ^ d) (by omega) (fun a b => L.getD ((a ^^^ b) - 1) 0) j hj c
        (fun k' i s hi _ _ => by
          have hx := xor_range d hd i (by omega) j hj (by omega)
          have he := edge_eq (i : Int) (j : Int) (by omega) (by omega)
          simp only [Int.toNat_natCast] at he
          have h136 := eN_136 (i := i) (j := j) (by omega) (by omega) (by omega)
          have c1 : (i : Int) < (j : Int) := by omega
          have c4 : ((eN i j : Nat) : Int) < 136 := by omega
          have c5 : (((i ^^^ j : Nat) : Int) - 1).toNat = (i ^^^ j) - 1 := by omega
          show spec_l03Digital_l1 L j (k' + 1) i s = spec_l03Digital_l1 L j k' ((i + 1 : Nat) : Int) _
          rw [spec_l03Digital_l1, he, w64_id (n := (i : Int) + 1) (by omega), xorI (by omega) (by omega), w64_id (n := ((i ^^^ j : Nat) : Int) - 1) (by omega), decide_eq_true c1, if_pos rfl, if_pos ⟨by omega, by omega⟩, if_pos ⟨by omega, c4⟩, Int.toNat_natCast, c5]
          rfl)
        (fun k' s => by
          show spec_l03Digital_l1 L j (k' + 1) j s = _
          rw [spec_l03Digital_l1]; simp) j 0 k s (by omega) (by omega) q1 q2 q3
      refine ⟨y, r, ?_⟩
      have c1 : (j : Int) < ((2 ^ d : Nat) : Int) := by omega
      show spec_l03Digital_l0 k ((2 ^ d : Nat) : Int) L (k' + 1) j s = spec_l03Digital_l0 k ((2 ^ d : Nat) : Int) L k' ((j + 1 : Nat) : Int) y
      have e' : spec_l03Digital_l1 L j k 0 s = some y := e
      rw [spec_l03Digital_l0, e', w64_id (n := (j : Int) + 1) (by omega), decide_eq_true c1]
      rfl)
    (fun k' s q1 => by
      show spec_l03Digital_l0 k ((2 ^ d : Nat) : Int) L (k' + 1) ((2 ^ d : Nat) : Int) s = _
      rw [spec_l03Digital_l0, decide_eq_false (by omega)]; rfl) k 1 (by omega) hpos (by omega)
  have e' : spec_l03Digital_l0 k ((2 ^ d : Nat) : Int) L k 1 ⟨((2 ^ d : Nat) : Int), c, B136.zero⟩ = some (digC (2 ^ d) c L) := this
  rw [e']; rfl
def digL (x : Col) : List Int := mapL (x.p.toNat - 1) (fun i => x.cc 0 ((i + 1 : Nat) : Int))
theorem digL_len (x : Col) : (digL x).length = x.p.toNat - 1 := mapL_length _ _
theorem implDig_loop {k : Nat} (hk : 20 ≤ k) {x : Col} (hp : 1 ≤ x.p ∧ x.p ≤ 17) : impl_ListOfDigital_l1 x k 1 [] = some (digL x) := by
  have := collect (fun K i s => impl_ListOfDigital_l1 x K (i + 1) s) (x.p.toNat - 1) (fun i => x.cc 0 ((i + 1 : Nat) : Int)) (fun k' i s hi hs => by
    have hl : ∀ z : Int, s.length + ([z]).length ≤ 1099511627776 := fun z => by simp; omega
    have c1 : (i : Int) + 1 < x.p := by omega
    show impl_ListOfDigital_l1 x (k' + 1) ((i : Int) + 1) s = impl_ListOfDigital_l1 x k' (((i + 1 : Nat) : Int) + 1) _
    rw [impl_ListOfDigital_l1, implAt_eq x 0 ((i : Int) + 1) (by omega) (by omega) (by omega) (by omega), w64_id (n := (i : Int) + 1 + 1) (by omega)]
    simp only [c1, hl, decide_true, if_true, Option.bind_some]
    rfl) (fun k' s => by
    show impl_ListOfDigital_l1 x (k' + 1) (((x.p.toNat - 1 : Nat) : Int) + 1) s = _
    rw [impl_ListOfDigital_l1, decide_eq_false (by omega)]
    rfl) k (by omega)
  exact this
theorem specDig_loop {k : Nat} (hk : 20 ≤ k) {x : Col} (hp : 1 ≤ x.p ∧ x.p ≤ 17) : spec_ListOfDigital_l0 x k 1 [] = some (digL x) := by
  have := collect (fun K i s => spec_ListOfDigital_l0 x K (i + 1) s) (x.p.toNat - 1) (fun i => x.cc 0 ((i + 1 : Nat) : Int)) (fun k' i s hi hs => by
    have hl : ∀ z : Int, s.length + ([z]).length ≤ 1099511627776 := fun z => by simp; omega
    have c1 : (i : Int) + 1 < x.p := by omega
    show spec_ListOfDigital_l0 x (k' + 1) ((i : Int) + 1) s = spec_ListOfDigital_l0 x k' (((i + 1 : Nat) : Int) + 1) _
    rw [spec_ListOfDigital_l0, specAt_eq x 0 ((i : Int) + 1) (by omega) (by omega) (by omega) (by omega), w64_id (n := (i : Int) + 1 + 1) (by omega)]
    simp only [c1, hl, decide_true, if_true, Option.bind_some]
    rfl) (fun k' s => by
    show spec_ListOfDigital_l0 x (k' + 1) (((x.p.toNat - 1 : Nat) : Int) + 1) s = _
    rw [spec_ListOfDigital_l0, decide_eq_false (by omega)]
    rfl) k (by omega)
  exact this
def isDig (x : Col) : Prop := ∃ d, (1 ≤ d ∧ d ≤ 4) ∧ x.p.toNat = 2 ^ d ∧ digC x.p.toNat x.k (digL x) = x
theorem dig_cc {x : Col} (h : x.is) (hc : isDig x) {a b : Nat} (ha : a < x.p.toNat) (hb : b < x.p.toNat) (hab : a ≠ b) : x.cc a b = (digL x).getD ((a ^^^ b) - 1) 0 := by
  have hp := h.1
  have hkk := h.2.1
  obtain ⟨d, hd, hpd, hc⟩ := hc
  have key : ∀ a b : Nat, a < b → b < x.p.toNat → x.cc a b = (digL x).getD ((a ^^^ b) - 1) 0 := fun a b hab hb => by
    have hx := xor_range d hd.2 a (by omega) b (by omega) (by omega)
    have hg : (digL x).getD ((a ^^^ b) - 1) 0 = x.cc (0 : Nat) (((a ^^^ b) - 1 + 1 : Nat) : Int) := mapL_get _ _ _ (by omega)
    have hr := is_cc h (a := 0) (b := (a ^^^ b) - 1 + 1) (by omega) (by omega) (by omega)
    have : (digC x.p.toNat x.k (digL x)).cc a b = (digL x).getD ((a ^^^ b) - 1) 0 := mkC_cc (by omega) _ _ hab (by omega) (by rw [hg]; omega)
    rw [hc] at this
    exact this
  rcases Nat.lt_or_ge a b with r | r
  · exact key a b r hb
  · rw [cc_comm, Nat.xor_comm]
    exact key b a (by omega) ha
theorem bal_dig {x : Col} (hx : x.is) (hc : isDig x) : bal x := by
  have hp := hx.1
  intro c hc' a ha
  have hH : ∀ a b : Nat, a < x.p.toNat → b < x.p.toNat → a ≠ b → x.cc a b = (fun d => (digL x).getD (d - 1) 0) ((fun a b => a ^^^ b) a b) := fun a b h1 h2 h3 => dig_cc hx hc h1 h2 h3
  have e1 := deg_all (x := x) (fun a b => a ^^^ b) (fun d => (digL x).getD (d - 1) 0) hH c a (by omega)
  have e2 := deg_all (x := x) (fun a b => a ^^^ b) (fun d => (digL x).getD (d - 1) 0) hH c 0 (by omega)
  rw [e1]
  refine Eq.trans ?_ e2.symm
  obtain ⟨d, hd, hpd, _⟩ := hc
  have := xors_perm d hd.2 a (by omega)
  rw [← hpd] at this
  exact this.countP_eq _
def p2 (p : Nat) : Bool := p == 2 || p == 4 || p == 8 || p == 16
theorem p2_iff {p : Nat} : p2 p = true ↔ ∃ d, (1 ≤ d ∧ d ≤ 4) ∧ p = 2 ^ d := by
  unfold p2
  constructor
  · intro h
    simp only [Bool.or_eq_true, beq_iff_eq] at h
    rcases h with ((rfl | rfl) | rfl) | rfl
    · exact ⟨1, by omega, rfl⟩
    · exact ⟨2, by omega, rfl⟩
    · exact ⟨3, by omega, rfl⟩
    · exact ⟨4, by omega, rfl⟩
  · rintro ⟨d, hd, rfl⟩
    have : d = 1 ∨ d = 2 ∨ d = 3 ∨ d = 4 := by omega
    rcases this with rfl | rfl | rfl | rfl <;> rfl
theorem p2_and {p : Nat} (h1 : 1 ≤ p) (hp : p ≤ 17) : (if decide ((p : Int) < 2) then true else !decide (bAnd .i64 (p : Int) (w64 ((p : Int) - 1)) = 0)) = !p2 p := by
  have : ∀ p : Nat, p < 18 → 1 ≤ p → (if decide ((p : Int) < 2) then true else !decide (bAnd .i64 (p : Int) (w64 ((p : Int) - 1)) = 0)) = !p2 p := by decide +kernel
  exact this p (by omega) h1
theorem dig_same {k : Nat} (hk : 5000 ≤ k) (x : Col) :
    (∃ c, c ≠ 0 ∧ impl_ListOfDigital k x = some (none, c) ∧ spec_ListOfDigital k x = some ([], c)) ∨
    (x.is ∧ isDig x ∧ impl_ListOfDigital k x = some (some (digL x), 0) ∧ spec_ListOfDigital k x = some (digL x, 0)) := by
  classical
  unfold impl_ListOfDigital spec_ListOfDigital impl_always
  rw [specIs_eq k (by omega)]
  by_cases hx : x.is
  · have hp := hx.1
    have hz := toN hp
    have ha := p2_and (p := x.p.toNat) (by omega) (by omega)
    rw [hz] at ha
    rw [((code_cases hk x).1 hx).1, decide_eq_true hx, ha]
    have hloop := loopAll (f := fun k' i => impl_ListOfDigital_l0 k x k' i) 5 (some (digL x), 0) (fun i => ¬ (x.p = ((2 ^ i.toNat : Nat) : Int) ∧ digC x.p.toNat x.k (digL x) = x)) 1
      (fun k' i h0 h1 hq => by
        obtain ⟨d, rfl⟩ := nat_of (show 0 ≤ i by omega)
        rw [Int.toNat_natCast] at hq
        show impl_ListOfDigital_l0 k x (k' + 1) d = _
        rw [impl_ListOfDigital_l0, decide_eq_true (show (d : Int) ≤ 4 by omega), if_pos rfl, if_pos (by omega), shlI (by omega), w64_id (n := (d : Int) + 1) (by omega)]
        by_cases hpd : x.p = ((2 ^ d : Nat) : Int)
        · have hne : ¬ digC x.p.toNat x.k (digL x) = x := fun q => hq ⟨hpd, q⟩
          have hpd' : x.p.toNat = 2 ^ d := by omega
          rw [decide_eq_true hpd, implDig_loop (by omega) hp]
          simp only [Option.bind_some, Bool.not_true, Bool.false_eq_true, if_false]
          rw [digitalOf_val (by omega) (by omega) x.k (L := digL x) (by rw [digL_len]; omega)]
          simp only [Option.bind_some]
          rw [← hpd']
          have : (digC x.p.toNat x.k (digL x)).eqb x = false := by
            cases h : (digC x.p.toNat x.k (digL x)).eqb x with
            | false => rfl
            | true => exact absurd ((Col.eqb_iff _ _).1 h) hne
          rw [this]
          rfl
        · rw [decide_eq_false hpd]; rfl)
      (fun k' i h0 h1 hq => by
        obtain ⟨d, rfl⟩ := nat_of (show 0 ≤ i by omega)
        rw [Int.toNat_natCast] at hq
        have hq' := Classical.not_not.1 hq
        have hpd' : x.p.toNat = 2 ^ d := by omega
        show impl_ListOfDigital_l0 k x (k' + 1) d = _
        rw [impl_ListOfDigital_l0, decide_eq_true (show (d : Int) ≤ 4 by omega), if_pos rfl, if_pos (by omega), shlI (by omega), decide_eq_true hq'.1, implDig_loop (by omega) hp]
        simp only [Option.bind_some, Bool.not_true, Bool.false_eq_true, if_false]
        rw [digitalOf_val (by omega) (by omega) x.k (L := digL x) (by rw [digL_len]; omega)]
        simp only [Option.bind_some]
        rw [← hpd']
        have : (digC x.p.toNat x.k (digL x)).eqb x = true := (Col.eqb_iff _ _).2 hq'.2
        rw [this]
        rfl)
      (fun k' i h1 => by
        show impl_ListOfDigital_l0 k x (k' + 1) i = _
        rw [impl_ListOfDigital_l0, decide_eq_false (by omega)]; rfl) k 1 (by omega) (by omega)
    have hloop' : impl_ListOfDigital_l0 k x k 1 = _ := hloop
    rw [hloop']
    by_cases hd : isDig x
    · right
      obtain ⟨d, hd1, hpd, hc⟩ := hd
      have hpow : p2 x.p.toNat = true := p2_iff.2 ⟨d, hd1, hpd⟩
      have hn : ¬ ∀ j : Int, 1 ≤ j → j < 5 → ¬ (x.p = ((2 ^ j.toNat : Nat) : Int) ∧ digC x.p.toNat x.k (digL x) = x) := fun q => q d (by omega) (by omega) ⟨by rw [Int.toNat_natCast]; omega, hc⟩
      have e2 := specDigital_val (k := k) (d := d) (by omega) hd1.2 x.k (L := digL x) (by rw [digL_len]; omega)
      rw [← hpd, hz] at e2
      rw [if_neg hn, hpow, specDig_loop (by omega) hp]
      have : (digC x.p.toNat x.k (digL x)).eqb x = true := (Col.eqb_iff _ _).2 hc
      refine ⟨hx, ⟨d, hd1, hpd, hc⟩, by simp, ?_⟩
      simp only [Option.bind_some, letO, Bool.not_true, Bool.false_eq_true, if_false, e2, this]
    · left
      have hn : ∀ j : Int, 1 ≤ j → j < 5 → ¬ (x.p = ((2 ^ j.toNat : Nat) : Int) ∧ digC x.p.toNat x.k (digL x) = x) := fun j h1 h2 q => hd ⟨j.toNat, by omega, by omega, q.2⟩
      rw [if_pos hn]
      refine ⟨5, by omega, by simp, ?_⟩
      by_cases hpow : p2 x.p.toNat = true
      · obtain ⟨d, hd1, hpd⟩ := p2_iff.1 hpow
        have e2 := specDigital_val (k := k) (d := d) (by omega) hd1.2 x.k (L := digL x) (by rw [digL_len]; omega)
        rw [← hpd, hz] at e2
        have : (digC x.p.toNat x.k (digL x)).eqb x = false := by
          cases h : (digC x.p.toNat x.k (digL x)).eqb x with
          | false => rfl
          | true => exact absurd ⟨d, hd1, hpd, (Col.eqb_iff _ _).1 h⟩ hd
        rw [hpow, specDig_loop (by omega) hp]
        simp only [Option.bind_some, letO, Bool.not_true, Bool.not_false, Bool.false_eq_true, if_false, if_true, e2, this]
      · have : p2 x.p.toNat = false := by simpa using hpow
        rw [this]
        simp [letO]
  · left
    rw [((code_cases hk x).2 hx) true, decide_eq_false hx]
    exact ⟨1, by omega, by simp, by simp⟩

/-! ### Colourings out of lists -/
theorem all_li {l : List Int} {b : Int} : (∀ i : Int, 0 ≤ i → i < l.length → 0 ≤ li l i ∧ li l i ≤ b) ↔ ∀ z ∈ l, 0 ≤ z ∧ z ≤ b := by
  constructor
  · intro h z hz
    obtain ⟨a, ha, rfl⟩ := mem_getD.1 hz
    have := h a (by omega) (by omega)
    simpa [li] using this
  · intro h i h0 h1
    exact h _ (mem_getD.2 ⟨i.toNat, by omega, rfl⟩)
open Classical in
theorem specAll_b {k : Nat} (hk : 5000 ≤ k) (l : List Int) (hl : l.length ≤ 1000) (c : Int) (hc : 1 ≤ c ∧ c ≤ 4) : spec_l01All k l c = some (decide (∀ z ∈ l, 0 ≤ z ∧ z ≤ c - 1)) := by
  rw [specAll_eq k l c (by omega) (by omega) (by omega)]
  exact congrArg some (decide_eq_decide.2 all_li)
open Classical in
theorem areIn_b {k : Nat} (hk : 5000 ≤ k) (l : List Int) (hl : l.length ≤ 1000) (m c : Int) : impl_areIn k l m 0 c = some (decide ((l.length : Int) = m) && decide (∀ z ∈ l, 0 ≤ z ∧ z ≤ c)) := by
  rw [areIn_val k l m 0 c (by omega) (by omega)]
  congr 1
  exact Bool.decide_and _ _
theorem sizes_val (n c : Int) : impl_areSizes n c = (decide (1 ≤ n ∧ n ≤ 17) && decide (1 ≤ c ∧ c ≤ 4)) := by
  unfold impl_areSizes
  rw [in_eq, in_eq]
  cases decide (1 ≤ n ∧ n ≤ 17) <;> rfl
theorem circularOf_same {k : Nat} (hk : 5000 ≤ k) (n c : Int) (l : List Int) (hl : l.length ≤ 1000) : ∃ r, impl_CircularOf k n c l = some r ∧ spec_CircularOf k n c l = some r ∧ ((2 ≤ n ∧ n ≤ 17) → (1 ≤ c ∧ c ≤ 4) → (l.length : Int) = ((n.toNat / 2 : Nat) : Int) → (∀ z ∈ l, 0 ≤ z ∧ z ≤ c - 1) → r = (cirC n.toNat c l, 0)) := by
  classical
  unfold impl_CircularOf spec_CircularOf
  rw [sizes_val, specIn_eq, specIn_eq]
  by_cases h1 : 2 ≤ n ∧ n ≤ 17
  · obtain ⟨m, rfl⟩ := nat_of (show 0 ≤ n by omega)
    rw [decide_eq_true h1, decide_eq_true (show 1 ≤ (m : Int) ∧ (m : Int) ≤ 17 by omega), decide_eq_false (show ¬ (m : Int) < 2 by omega)]
    by_cases h2 : 1 ≤ c ∧ c ≤ 4
    · rw [decide_eq_true h2, halfI (by omega), w64_id (n := c - 1) (by omega), areIn_b hk l hl, specAll_b hk l hl c h2]
      by_cases h3 : (l.length : Int) = ((m / 2 : Nat) : Int)
      · rw [decide_eq_true h3]
        by_cases h4 : ∀ z ∈ l, 0 ≤ z ∧ z ≤ c - 1
        · rw [decide_eq_true h4]
          have e1 := circularOf_val (k := k) (n := m) (by omega) (by omega) c (L := l) (by omega)
          have e2 := specCircular_val (k := k) (n := m) (by omega) (by omega) (by omega) c (L := l) (by omega)
          refine ⟨(cirC m c l, 0), ?_, ?_, fun _ _ _ _ => by rw [Int.toNat_natCast]⟩
          · simp only [e1, Option.bind_some, Bool.and_true, Bool.true_and, Bool.not_true, Bool.false_eq_true, if_false]
          · simp only [e2, Option.bind_some, Bool.not_true, Bool.false_eq_true, if_false]
        · rw [decide_eq_false h4]
          exact ⟨(noC, 2), rfl, rfl, fun _ _ _ q => absurd q h4⟩
      · rw [decide_eq_false h3]
        refine ⟨(noC, 2), ?_, rfl, fun _ _ q _ => absurd (by rw [Int.toNat_natCast] at q; exact q) h3⟩
        simp
    · rw [decide_eq_false h2]
      exact ⟨(noC, 2), rfl, rfl, fun _ q _ _ => absurd q h2⟩
  · rw [decide_eq_false h1]
    refine ⟨(noC, 2), ?_, rfl, fun q _ _ _ => absurd q h1⟩
    by_cases h2 : 1 ≤ n ∧ n ≤ 17
    · rw [decide_eq_true h2, decide_eq_true (show n < 2 by omega)]
      cases decide (1 ≤ c ∧ c ≤ 4) <;> rfl
    · rw [decide_eq_false h2]; rfl
theorem digitalOf_same {k : Nat} (hk : 5000 ≤ k) (n c : Int) (l : List Int) (hl : l.length ≤ 1000) : ∃ r, impl_DigitalOf k n c l = some r ∧ spec_DigitalOf k n c l = some r ∧ ((1 ≤ n ∧ n ≤ 4) → (1 ≤ c ∧ c ≤ 4) → (l.length : Int) = ((2 ^ n.toNat : Nat) : Int) - 1 → (∀ z ∈ l, 0 ≤ z ∧ z ≤ c - 1) → r = (digC (2 ^ n.toNat) c l, 0)) := by
  classical
  unfold impl_DigitalOf spec_DigitalOf
  rw [in_eq, in_eq, specIn_eq, specIn_eq]
  by_cases h1 : 1 ≤ n ∧ n ≤ 4
  · obtain ⟨m, rfl⟩ := nat_of (show 0 ≤ n by omega)
    have hp := pow_le (d := m) (by omega)
    have hpos : 1 ≤ 2 ^ m := Nat.one_le_two_pow
    rw [decide_eq_true h1]
    by_cases h2 : 1 ≤ c ∧ c ≤ 4
    · rw [decide_eq_true h2, wrapU (by omega), shlI (by omega), w64_id (n := ((2 ^ m : Nat) : Int) - 1) (by omega), w64_id (n := c - 1) (by omega), areIn_b hk l hl, specAll_b hk l hl c h2]
      have h0 : (0 : Int) ≤ (m : Int) := by omega
      by_cases h3 : (l.length : Int) = ((2 ^ m : Nat) : Int) - 1
      · rw [decide_eq_true h3]
        by_cases h4 : ∀ z ∈ l, 0 ≤ z ∧ z ≤ c - 1
        · rw [decide_eq_true h4]
          have e1 := digitalOf_val (k := k) (d := m) (by omega) (by omega) c (L := l) (by omega)
          have e2 := specDigital_val (k := k) (d := m) (by omega) (by omega) c (L := l) (by omega)
          refine ⟨(digC (2 ^ m) c l, 0), ?_, ?_, fun _ _ _ _ => by rw [Int.toNat_natCast]⟩
          · simp only [h0, e1, Option.bind_some, Bool.and_true, Bool.true_and, Bool.not_true, Bool.false_eq_true, if_false, if_true]
          · simp only [h0, e2, Option.bind_some, Bool.not_true, Bool.false_eq_true, if_false, if_true]
        · rw [decide_eq_false h4]
          refine ⟨(noC, 2), ?_, ?_, fun _ _ _ q => absurd q h4⟩ <;> simp [h0]
      · rw [decide_eq_false h3]
        refine ⟨(noC, 2), ?_, ?_, fun _ _ q _ => absurd (by rw [Int.toNat_natCast] at q; exact q) h3⟩ <;> simp [h0]
    · rw [decide_eq_false h2]
      exact ⟨(noC, 2), rfl, rfl, fun _ q _ _ => absurd q h2⟩
  · rw [decide_eq_false h1]
    exact ⟨(noC, 2), rfl, rfl, fun q _ _ _ => absurd q h1⟩
end Go.Proofs.YtkknnbmmcmhngaaGreat
