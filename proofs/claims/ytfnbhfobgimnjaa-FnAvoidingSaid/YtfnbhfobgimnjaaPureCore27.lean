/- Plain laws, collected out of own texts. No conditions beyond those that each lemma states. -/
import Derived.Test.YtfnbhfobgimnjaaPKit
import Derived.Test.YtfnbhfobgimnjaaPBits
import Derived.Test.YtfnbhfobgimnjaaMk
import Derived.Test.YtfnbhfobgimnjaaClqB
import Derived.Test.YtfnbhfobgimnjaaExts
import Derived.Test.YtfnbhfobgimnjaaGen27
set_option linter.unusedVariables false
set_option linter.unusedSimpArgs false
namespace Go.Proofs.Ytfnbhfobgimnjaa
open Go Go.RowKit Ab

theorem in_eq (a b c : Int) : impl_in a b c = decide (b ≤ a ∧ a ≤ c) := by
  unfold impl_in letO
  by_cases h : b ≤ a <;> by_cases h' : a ≤ c <;> simp [h, h']

theorem specIn_eq (a b c : Int) : spec_l01In a b c = decide (b ≤ a ∧ a ≤ c) := by
  unfold spec_l01In letO
  by_cases h : b ≤ a <;> by_cases h' : a ≤ c <;> simp [h, h']

def tE (x : Col) : Int := w64 ((w64 (x.p * (w64 (x.p - 1)))).tdiv 2)

def okE (x : Col) (j : Int) : Prop := (j < tE x → ((x.get j.toNat).toNat : Int) < x.k) ∧ (tE x ≤ j → ((x.get j.toNat).toNat : Int) = 0)

/-- Numbers in range, colours in range on the edges, zero behind them. -/
def Col.is (x : Col) : Prop := (1 ≤ x.p ∧ x.p ≤ 17) ∧ (1 ≤ x.k ∧ x.k ≤ 4) ∧ ∀ j, 0 ≤ j → j < 136 → okE x j

open Classical in
theorem specIs_eq (k : Nat) (h : 137 ≤ k) (x : Col) : spec_l01Is k x = some (decide x.is) := by
  unfold spec_l01Is
  rw [specIn_eq, specIn_eq]
  by_cases hp : 1 ≤ x.p ∧ x.p ≤ 17
  · by_cases hk : 1 ≤ x.k ∧ x.k ≤ 4
    · have := loopAll (f := fun k' i => spec_l01Is_l0 k x k' i) 136 false (okE x) 0
        (fun k' i h0 h1 hq => by
          show spec_l01Is_l0 k x (k' + 1) i = _
          rw [spec_l01Is_l0, w64_succ h0 h1 (by omega)]
          obtain ⟨q1, q2⟩ := hq
          change (i < tE x → _) at q1
          by_cases hc : i < tE x
          · have e1 := q1 hc
            have e2 : ¬ tE x ≤ i := by omega
            have e3 : ¬ x.k ≤ ((x.get i.toNat).toNat : Int) := by omega
            unfold tE at hc e2
            simp [h0, h1, hc, e2, e3]
          · have e1 := q2 (by omega)
            have e2 : tE x ≤ i := by omega
            unfold tE at hc e2
            simp [h0, h1, hc, e2, e1])
        (fun k' i h0 h1 hq => by
          show spec_l01Is_l0 k x (k' + 1) i = _
          rw [spec_l01Is_l0]
          by_cases hc : i < tE x
          · have e2 : ¬ tE x ≤ i := by omega
            have e3 : x.k ≤ ((x.get i.toNat).toNat : Int) := by
              apply Int.not_lt.1
              intro e; exact hq ⟨fun _ => e, fun h => (e2 h).elim⟩
            unfold tE at hc e2
            simp [h0, h1, hc, e2, e3]
          · have e2 : tE x ≤ i := by omega
            have e3 : ¬ ((x.get i.toNat).toNat : Int) = 0 := by
              intro e; exact hq ⟨fun h => (hc h).elim, fun _ => e⟩
            unfold tE at hc e2
            have e5 : ¬ (x.get i.toNat).toNat = 0 := by omega
            simp [h0, h1, hc, e2, e5])
        (fun k' i h1 => by
          show spec_l01Is_l0 k x (k' + 1) i = _
          rw [spec_l01Is_l0]
          have : ¬ i < 136 := by omega
          simp [this]) k 0 (by omega) (by omega)
      simp only [hp, hk, decide_true, Bool.not_true, Bool.false_eq_true, if_false, letO, and_self]
      rw [this]
      by_cases ha : ∀ j, 0 ≤ j → j < 136 → okE x j
      · have : x.is := ⟨hp, hk, ha⟩
        rw [if_pos ha]; simp [this]
      · have : ¬ x.is := fun h => ha h.2.2
        simp only [if_neg ha, this]
        simp
    · have : ¬ x.is := fun h => hk h.2.1
      simp [hp, hk, letO, this]
  · have : ¬ x.is := fun h => hp h.1
    simp [hp, letO, this]

open Classical in
theorem isColouring_eq (k : Nat) (h : 137 ≤ k) (x : Col) : impl_Colouring_isColouring k x = some (decide x.is) := by
  unfold impl_Colouring_isColouring
  rw [in_eq, in_eq]
  by_cases hp : 1 ≤ x.p ∧ x.p ≤ 17
  · by_cases hk : 1 ≤ x.k ∧ x.k ≤ 4
    · have := loopAll (f := fun k' i => impl_Colouring_isColouring_l0 k x k' i) 136 false (okE x) 0
        (fun k' i h0 h1 hq => by
          show impl_Colouring_isColouring_l0 k x (k' + 1) i = _
          rw [impl_Colouring_isColouring_l0, w64_succ h0 h1 (by omega)]
          obtain ⟨q1, q2⟩ := hq
          change (i < tE x → ((x.e.get i.toNat).toNat : Int) < x.k) at q1
          change (tE x ≤ i → ((x.e.get i.toNat).toNat : Int) = 0) at q2
          change (if _ then _ else _) = _
          have hE : impl_Colouring_edges x = tE x := rfl
          by_cases hc : i < tE x
          · have e1 := q1 hc
            have e2 : ¬ tE x ≤ i := by omega
            have e3 : ¬ x.k ≤ ((x.e.get i.toNat).toNat : Int) := by omega
            simp [h0, h1, hc, e2, e3, hE, letO]
          · have e1 := q2 (by omega)
            have e2 : tE x ≤ i := by omega
            have e3 : ¬ x.k ≤ ((x.e.get i.toNat).toNat : Int) := by omega
            rw [e1] at e3
            simp [h0, h1, hc, e2, e1, e3, hE, letO])
        (fun k' i h0 h1 hq => by
          show impl_Colouring_isColouring_l0 k x (k' + 1) i = _
          rw [impl_Colouring_isColouring_l0]
          have hE : impl_Colouring_edges x = tE x := rfl
          by_cases e3 : x.k ≤ ((x.e.get i.toNat).toNat : Int)
          · simp [h0, h1, e3, letO]
          · have e2 : tE x ≤ i := by
              apply Int.not_lt.1
              intro hc; exact hq ⟨fun _ => by change ((x.e.get i.toNat).toNat : Int) < x.k; omega, fun h => by omega⟩
            have e4 : ¬ ((x.e.get i.toNat).toNat : Int) = 0 := by
              intro e; exact hq ⟨fun h => by omega, fun _ => e⟩
            have e5 : ¬ (x.e.get i.toNat).toNat = 0 := by omega
            simp [h0, h1, e2, e3, e5, hE, letO])
        (fun k' i h1 => by
          show impl_Colouring_isColouring_l0 k x (k' + 1) i = _
          rw [impl_Colouring_isColouring_l0]
          have : ¬ i < 136 := by omega
          simp [this]) k 0 (by omega) (by omega)
      simp only [hp, hk, decide_true, Bool.not_true, Bool.false_eq_true, if_false, letO, and_self]
      rw [this]
      by_cases ha : ∀ j, 0 ≤ j → j < 136 → okE x j
      · have : x.is := ⟨hp, hk, ha⟩
        rw [if_pos ha]; simp [this]
      · have : ¬ x.is := fun h => ha h.2.2
        simp only [if_neg ha, this]
        simp
    · have : ¬ x.is := fun h => hk h.2.1
      simp [hp, hk, letO, this]
  · have : ¬ x.is := fun h => hp h.1
    simp [hp, letO, this]

theorem number_eq (i j : Int) (hi : 0 ≤ i ∧ i < 17) (hj : 0 ≤ j ∧ j < 17) : impl_number i j = (eN i.toNat j.toNat : Int) := by
  have : ∀ i, i < 17 → ∀ j, j < 17 → impl_number (i : Nat) (j : Nat) = (eN i j : Int) := by decide +kernel
  have h := this i.toNat (by omega) j.toNat (by omega)
  rwa [Int.toNat_of_nonneg hi.1, Int.toNat_of_nonneg hj.1] at h

theorem edge_eq (i j : Int) (hi : 0 ≤ i ∧ i < 17) (hj : 0 ≤ j ∧ j < 17) : spec_l01Edge i j = (eN i.toNat j.toNat : Int) := by
  have : ∀ i, i < 17 → ∀ j, j < 17 → spec_l01Edge (i : Nat) (j : Nat) = (eN i j : Int) := by decide +kernel
  have h := this i.toNat (by omega) j.toNat (by omega)
  rwa [Int.toNat_of_nonneg hi.1, Int.toNat_of_nonneg hj.1] at h

def Col.cc (x : Col) (i j : Int) : Int := ((x.e.get (eN i.toNat j.toNat)).toNat : Int)

theorem specAt_eq (x : Col) (i j : Int) (h0 : 0 ≤ i) (h : i < j) (hj : 0 ≤ j) (hj' : j < 17) : spec_l01At x i j = some (x.cc i j) := by
  unfold spec_l01At
  rw [edge_eq i j (by omega) (by omega)]
  have := eN_136 (i := i.toNat) (j := j.toNat) (by omega) (by omega) (by omega)
  rw [if_pos (by omega)]
  rfl

theorem getD_app' {α : Type} (l m : List α) (d : α) (i : Nat) (h : l.length ≤ i) : (l ++ m).getD i d = m.getD (i - l.length) d := by
  simp only [List.getD]; rw [List.getElem?_append_right h]

theorem cc_comm (x : Col) (i j : Int) : x.cc i j = x.cc j i := by unfold Col.cc; rw [eN_comm]

theorem implAt_ne (x : Col) (i j : Int) (h0 : 0 ≤ i) (h1 : i < 17) (hj : 0 ≤ j) (hj' : j < 17) (h : i ≠ j) : impl_Colouring_at x i j = some (x.cc i j) := by
  unfold impl_Colouring_at
  rw [number_eq i j (by omega) (by omega)]
  have := eN_136 (i := i.toNat) (j := j.toNat) (by omega) (by omega) (by omega)
  rw [if_pos (by omega)]
  rfl

theorem specAt_ne (x : Col) (i j : Int) (h0 : 0 ≤ i) (h1 : i < 17) (hj : 0 ≤ j) (hj' : j < 17) (h : i ≠ j) : spec_l01At x i j = some (x.cc i j) := by
  unfold spec_l01At
  rw [edge_eq i j ⟨h0, h1⟩ ⟨hj, hj'⟩]
  have := eN_136 (i := i.toNat) (j := j.toNat) (by omega) (by omega) (by omega)
  rw [if_pos ⟨by omega, by omega⟩]
  rfl

theorem eqb_refl' (x : Col) : x.eqb x = true := (Col.eqb_iff x x).2 rfl

theorem like_refl (k : Nat) (l : List Int) (hk : l.length + 1 ≤ k) (hl : (l.length : Int) ≤ 1099511627776) : laws_likeInts k l l = some true := by
  unfold laws_likeInts
  have := loopAll (f := fun k' i => laws_likeInts_l0 l l k' i) (l.length : Int) false (fun _ => True) 0
    (fun k' i h0 h1 _ => by
      show laws_likeInts_l0 l l (k' + 1) i = _
      rw [laws_likeInts_l0, w64_succ h0 h1 (by omega)]
      simp [h0, h1])
    (fun k' i h0 h1 hq => (hq trivial).elim)
    (fun k' i h1 => by
      show laws_likeInts_l0 l l (k' + 1) i = _
      rw [laws_likeInts_l0]
      have : ¬ i < (l.length : Int) := by omega
      simp [this]) k 0 (by omega) (by omega)
  rw [this]; simp

def bitsN (P : Nat → Bool) : Nat → Nat
  | 0 => 0
  | n + 1 => if P n then bitsN P n ||| 2 ^ n else bitsN P n

theorem bitsN_test (P : Nat → Bool) (n j : Nat) : (bitsN P n).testBit j = (decide (j < n) && P j) := by
  induction n with
  | zero => simp [bitsN]
  | succ n ih =>
    unfold bitsN
    by_cases h : P n
    · rw [if_pos h, add_bit, ih]
      by_cases e : n = j
      · subst e; simp [h]
      · have : decide (j < n + 1) = decide (j < n) := by simp; omega
        simp [e, this]
    · rw [if_neg h, ih]
      by_cases e : n = j
      · subst e; simp [h]
      · have : decide (j < n + 1) = decide (j < n) := by simp; omega
        rw [this]

theorem bitsN_lt (P : Nat → Bool) (n : Nat) : bitsN P n < 2 ^ n := bits_lt fun i h => by
  rw [bitsN_test]
  have : ¬ i < n := by omega
  simp [this]

theorem lt17 {s n : Nat} (h : s < 2 ^ n) (hn : n ≤ 17) : s < 2 ^ 17 := Nat.lt_of_lt_of_le h (Nat.pow_le_pow_right (by omega) hn)

theorem lt63 {s : Nat} (h : s < 2 ^ 17) : s < 2 ^ 63 := Nat.lt_of_lt_of_le h (by decide)

theorem made_l1 (f : Int → Int → Option Int) (n : Nat) (hn : n ≤ 17) (g : Nat → Nat → Int) (j : Nat) (hj : j < n) (hf : ∀ i : Nat, i < j → f i j = some (g i j)) (p c : Int) :
    ∀ k, 18 ≤ k → ∀ x : Col, x.p = p → x.k = c → MInv n (fun a b => toByte (g a b)) j 0 x.e → ∃ y : Col, impl_made_l1 f (j : Int) k 0 x = some y ∧ y.p = p ∧ y.k = c ∧ MInv n (fun a b => toByte (g a b)) j j y.e := by
  intro k hk x hp hc hx
  refine loopI (f := fun k i s => impl_made_l1 f (j : Int) k i s) (j : Int) 0 (fun i s => s.p = p ∧ s.k = c ∧ MInv n (fun a b => toByte (g a b)) j i.toNat s.e ∧ i ≤ j) (fun y => y.p = p ∧ y.k = c ∧ MInv n (fun a b => toByte (g a b)) j j y.e) ?_ ?_ k 0 x (by omega) (by omega) ⟨hp, hc, hx, by omega⟩
  · intro k i s h0 h1 ⟨q1, q2, q3, _⟩
    left
    obtain ⟨m, rfl⟩ := nat_of h0
    refine ⟨s.set (eN m j) (toByte (g m j)), ?_, q1, q2, ?_, by omega⟩
    · show impl_made_l1 f (j : Int) (k + 1) m s = _
      rw [impl_made_l1, hf m (by omega), w64_succ h0 h1 (by omega)]
      unfold impl_Colouring_put
      rw [number_eq m j (by omega) (by omega)]
      have := eN_136 (i := m) (j := j) (by omega) (by omega) (by omega)
      have h136 : ((eN m j : Nat) : Int) < 136 := by omega
      have hmj : m < j := by omega
      simp [hmj, this, h136]
    · have := MInv.step hn q3 hj (show m < j by omega)
      exact this
  · intro k i s h0 h1 ⟨q1, q2, q3, q4⟩
    have : i = j := by omega
    subst this
    refine ⟨s, ?_, q1, q2, q3⟩
    show impl_made_l1 f (j : Int) (k + 1) j s = _
    rw [impl_made_l1]; simp

theorem made_eq (f : Int → Int → Option Int) (n : Int) (hn0 : 0 ≤ n) (hn : n ≤ 17) (g : Nat → Nat → Int) (hf : ∀ i j : Nat, i < j → (j : Int) < n → f i j = some (g i j)) (c : Int) :
    ∀ k, 19 ≤ k → ∃ y : Col, impl_made k n c f = some y ∧ Made y n c (fun a b => toByte (g a b)) := by
  intro k hk
  obtain ⟨n, rfl⟩ := nat_of hn0
  unfold impl_made
  have := loopI (f := fun k' i s => impl_made_l0 k n f k' i s) (n : Int) 0 (fun i (s : Col) => s.p = n ∧ s.k = c ∧ MInv n (fun a b => toByte (g a b)) i.toNat 0 s.e ∧ i ≤ n) (fun y => Made y n c (fun a b => toByte (g a b))) ?_ ?_ k 0 (⟨n, c, B136.zero⟩ : Col) (by omega) (by omega) ⟨rfl, rfl, MInv.start _ _, by omega⟩
  · obtain ⟨y, e, h⟩ := this
    exact ⟨y, by rw [e]; rfl, h⟩
  · intro k' i s h0 h1 ⟨q1, q2, q3, _⟩
    left
    obtain ⟨j, rfl⟩ := nat_of h0
    obtain ⟨y, e, h1', h2', h3'⟩ := made_l1 f n (by omega) g j (by omega) (fun i hi => hf i j hi h1) n c k (by omega) s q1 q2 q3
    refine ⟨y, ?_, h1', h2', MInv.row h3', by omega⟩
    show impl_made_l0 k n f (k' + 1) j s = _
    rw [impl_made_l0, e, w64_succ h0 h1 (by omega)]
    have : j < n := by omega
    simp [this]
  · intro k' i s h0 h1 ⟨q1, q2, q3, q4⟩
    have : i = n := by omega
    subst this
    refine ⟨s, ?_, MInv.made q3 q1 q2⟩
    show impl_made_l0 k n f (k' + 1) n s = _
    rw [impl_made_l0]; simp

theorem mem_getD {l : List Int} {x : Int} : x ∈ l ↔ ∃ a, a < l.length ∧ l.getD a 0 = x := by
  constructor
  · intro h
    obtain ⟨a, ha, e⟩ := List.getElem_of_mem h
    exact ⟨a, ha, by simp [List.getD, ha, e]⟩
  · rintro ⟨a, ha, rfl⟩
    simp [List.getD, ha]

theorem tE_tri (x : Col) (h : 1 ≤ x.p ∧ x.p ≤ 17) : tE x = (tri x.p.toNat : Int) := by
  obtain ⟨n, hn⟩ := nat_of (show 0 ≤ x.p by omega)
  unfold tE
  rw [hn, Int.toNat_natCast]
  have key : ∀ n : Nat, 1 ≤ n → n ≤ 17 → w64 ((w64 ((n : Int) * (w64 ((n : Int) - 1)))).tdiv 2) = (tri n : Int) := by
    have : ∀ n : Nat, n ≤ 17 → 1 ≤ n → w64 ((w64 ((n : Int) * (w64 ((n : Int) - 1)))).tdiv 2) = (tri n : Int) := by decide +kernel
    exact fun n h1 h2 => this n h2 h1
  exact key n (by omega) (by omega)

theorem is_lt {x : Col} (h : x.is) {e : Nat} (he : e < tri x.p.toNat) : ((x.e.get e).toNat : Int) < x.k := by
  have := tri_le (n := x.p.toNat) (by have := h.1; omega)
  have h1 := (h.2.2 e (by omega) (by omega)).1 (by rw [tE_tri x h.1]; omega)
  rw [Int.toNat_natCast] at h1
  exact h1

theorem is_zero {x : Col} (h : x.is) {e : Nat} (he : tri x.p.toNat ≤ e) (h1 : e < 136) : x.e.get e = 0 := by
  have h2 := (h.2.2 e (by omega) (by omega)).2 (by rw [tE_tri x h.1]; omega)
  rw [← u8_zero]
  rw [Int.toNat_natCast] at h2
  exact h2

theorem code_cases {k : Nat} (hk : 5000 ≤ k) (x : Col) : (x.is → impl_Colouring_code k x (some true) = some 0 ∧ impl_Colouring_code k x (some false) = some 2) ∧ (¬ x.is → ∀ b, impl_Colouring_code k x (some b) = some 1) := by
  unfold impl_Colouring_code
  rw [isColouring_eq k (by omega)]
  constructor
  · intro h; simp [h]
  · intro h b; simp [h]

theorem tb (u : UInt8) : toByte (u.toNat : Int) = u := by
  have := u.toNat_lt
  unfold toByte
  rw [Int.emod_eq_of_lt (by omega) (by omega), Int.toNat_natCast]
  exact UInt8.ofNat_toNat

theorem tb_id {n : Int} (h : 0 ≤ n ∧ n < 256) : ((toByte n).toNat : Int) = n := by
  unfold toByte
  rw [Int.emod_eq_of_lt h.1 h.2]
  simp
  omega

theorem cc_nat (x : Col) (a b : Nat) : x.cc a b = ((x.e.get (eN a b)).toNat : Int) := by
  unfold Col.cc; simp only [Int.toNat_natCast]

/-- A colouring is told by its colours. -/
theorem is_mk {x : Col} (h : x.is) : x = mkC x.p.toNat x.k (fun a b => x.cc a b) := by
  have hp := h.1
  have hz : ((x.p.toNat : Nat) : Int) = x.p := by omega
  refine Made.to (g' := fun a b => x.e.get (eN a b)) (by omega) ⟨hz.symm, rfl, fun a b _ _ => rfl, fun e he h1 => is_zero h (by rw [Int.toNat_natCast] at he; exact he) h1⟩ fun a b _ _ => ?_
  rw [cc_nat, tb]

theorem mkC_cc {n : Nat} (hn : n ≤ 17) (k : Int) (g : Nat → Nat → Int) {a b : Nat} (hab : a < b) (hb : b < n) (hg : 0 ≤ g a b ∧ g a b < 256) : (mkC n k g).cc a b = g a b := by
  rw [cc_nat, mkC_get hn k g hab hb, tb_id hg]

theorem mkC_is {n : Nat} (h1 : 1 ≤ n) (hn : n ≤ 17) {k : Int} (hk : 1 ≤ k ∧ k ≤ 4) (g : Nat → Nat → Int) (hg : ∀ a b : Nat, a < b → b < n → 0 ≤ g a b ∧ g a b < k) : (mkC n k g).is := by
  have hm := mkC_made hn k g
  refine ⟨by show 1 ≤ (n : Int) ∧ (n : Int) ≤ 17; omega, hk, fun j h0 h136 => ?_⟩
  obtain ⟨e, rfl⟩ := nat_of h0
  have ht : tE (mkC n k g) = (tri n : Int) := by
    rw [tE_tri _ (by show 1 ≤ (n : Int) ∧ (n : Int) ≤ 17; omega)]
    rfl
  refine ⟨fun h => ?_, fun h => ?_⟩
  · rw [ht] at h
    obtain ⟨j, hj, i, hi, rfl⟩ := eN_surj hn (show e < tri n by omega)
    show (((mkC n k g).e.get ((eN i j : Nat) : Int).toNat).toNat : Int) < k
    rw [Int.toNat_natCast, mkC_get hn k g hi hj, tb_id (by have := hg i j hi hj; omega)]
    exact (hg i j hi hj).2
  · rw [ht] at h
    have := hm.z e (by simpa using (show tri n ≤ e by omega)) (by omega)
    show (((mkC n k g).e.get ((e : Nat) : Int).toNat).toNat : Int) = 0
    rw [Int.toNat_natCast, this]; rfl

theorem is_cc {x : Col} (h : x.is) {a b : Nat} (ha : (a : Int) < x.p) (hb : (b : Int) < x.p) (hab : a ≠ b) : 0 ≤ x.cc a b ∧ x.cc a b < x.k := by
  have hp := h.1
  rw [cc_nat]
  refine ⟨by omega, is_lt h ?_⟩
  rcases Nat.lt_or_ge a b with q | q
  · exact eN_lt q (by omega) (by omega)
  · rw [eN_comm]; exact eN_lt (by omega) (by omega) (by omega)

theorem made_val {k n : Nat} {c : Int} {f : Int → Int → Option Int} {g : Nat → Nat → Int} (hn : n ≤ 17) (hk : 19 ≤ k) (hf : ∀ i j : Nat, i < j → j < n → f i j = some (g i j)) : impl_made k n c f = some (mkC n c g) := by
  obtain ⟨y, e, m⟩ := made_eq f n (by omega) (by omega) g (fun i j hij hj => hf i j hij (by omega)) c k hk
  rw [e]
  exact congrArg some (Made.to hn m fun _ _ _ _ => rfl)

def okL (x : Col) (l : List Int) : Prop := l.length ≤ 17 ∧ (∀ a : Nat, a < l.length → 0 ≤ l.getD a 0 ∧ l.getD a 0 < x.p) ∧ ∀ a b : Nat, a < b → b < l.length → l.getD a 0 ≠ l.getD b 0

def partC (x : Col) (l : List Int) : Col := mkC l.length x.k (fun a b => x.cc (l.getD a 0) (l.getD b 0))

theorem part_val {k : Nat} {x : Col} (hp : 1 ≤ x.p ∧ x.p ≤ 17) {l : List Int} (h : okL x l) (hk : 19 ≤ k) : impl_Colouring_part k x l = some (partC x l) := by
  unfold impl_Colouring_part impl_size
  rw [made_val (g := fun a b => x.cc (l.getD a 0) (l.getD b 0)) h.1 hk fun i j hij hj => by
    have h1 := h.2.1 i (by omega)
    have h2 := h.2.1 j (by omega)
    have h3 := h.2.2 i j hij hj
    unfold impl_Colouring_part_c1
    rw [if_pos (by omega), if_pos (by omega)]
    simp only [Int.toNat_natCast]
    rw [implAt_ne x _ _ h1.1 (by omega) h2.1 (by omega) h3]
    rfl]
  rfl

def putC (x : Col) (l : List Int) : Col := mkC (x.p.toNat + 1) x.k (fun a b => if (b : Int) = x.p then l.getD a 0 else x.cc a b)

def PInv (x : Col) (l : List Int) (m : Nat) (s : Col) : Prop :=
  s.p = x.p + 1 ∧ s.k = x.k ∧ (∀ a b : Nat, a < b → (b : Int) ≤ x.p → s.e.get (eN a b) = if (b : Int) = x.p ∧ a < m then toByte (l.getD a 0) else x.e.get (eN a b)) ∧ ∀ e, tri (x.p.toNat + 1) ≤ e → e < 136 → s.e.get e = 0

theorem PInv.step {x : Col} (h : x.is) (hp : x.p < 17) {l : List Int} {m : Nat} {s : Col} (q : PInv x l m s) (hm : (m : Int) < x.p) : PInv x l (m + 1) (s.set (eN m x.p.toNat) (toByte (l.getD m 0))) := by
  have hp1 := h.1
  have h136 := eN_136 (i := m) (j := x.p.toNat) (by omega) (by omega) (by omega)
  refine ⟨q.1, q.2.1, fun a b hab hb => ?_, fun e he h1 => ?_⟩
  · rw [show (s.set (eN m x.p.toNat) (toByte (l.getD m 0))).e.get (eN a b) = _ from B136.get_set s.e _ _ _ h136]
    by_cases e : eN a b = eN m x.p.toNat
    · obtain ⟨rfl, e2⟩ := eN_inj hab (by omega) (show m < x.p.toNat by omega) (by omega) e
      rw [if_pos e, if_pos (by omega)]
    · rw [if_neg e, q.2.2.1 a b hab hb]
      by_cases hc : (b : Int) = x.p ∧ a < m
      · rw [if_pos hc, if_pos (by omega)]
      · have : ¬ (a = m ∧ b = x.p.toNat) := fun ⟨u, v⟩ => e (by rw [u, v])
        rw [if_neg hc, if_neg (by omega)]
  · have := eN_lt (i := m) (j := x.p.toNat) (n := x.p.toNat + 1) (by omega) (by omega) (by omega)
    rw [show (s.set (eN m x.p.toNat) (toByte (l.getD m 0))).e.get e = _ from B136.get_set s.e _ _ _ h136, if_neg (by omega)]
    exact q.2.2.2 e he h1

theorem PInv.start {x : Col} (h : x.is) (l : List Int) : PInv x l 0 ⟨x.p + 1, x.k, x.e⟩ := by
  refine ⟨rfl, rfl, fun a b _ _ => ?_, fun e he h1 => is_zero h ?_ h1⟩
  · rw [if_neg (by omega)]
  · have : ∀ n, n ≤ 17 → tri n ≤ tri (n + 1) := by decide +kernel
    have := this x.p.toNat (by have := h.1; omega)
    omega

theorem PInv.done {x : Col} (h : x.is) (hp : x.p < 17) {l : List Int} {s : Col} (q : PInv x l x.p.toNat s) : s = putC x l := by
  have hp1 := h.1
  refine Made.to (g' := fun a b => if (b : Int) = x.p then toByte (l.getD a 0) else x.e.get (eN a b)) (by omega) ⟨by rw [q.1]; omega, q.2.1, fun a b hab hb => ?_, fun e he h1 => q.2.2.2 e (by rw [Int.toNat_natCast] at he; exact he) h1⟩ fun a b hab hb => ?_
  · rw [q.2.2.1 a b hab (by omega)]
    by_cases hc : (b : Int) = x.p
    · rw [if_pos ⟨hc, by omega⟩, if_pos hc]
    · rw [if_neg (fun q => hc q.1), if_neg hc]
  · split
    · rfl
    · rw [cc_nat, tb]

theorem specPut_val {k : Nat} {x : Col} (h : x.is) (hp : x.p < 17) {l : List Int} (hl : (l.length : Int) = x.p) (hk : 20 ≤ k) : spec_l01Put k x l = some (putC x l) := by
  have hp1 := h.1
  unfold spec_l01Put
  rw [w64_id (by omega)]
  have := loopI (f := fun k' i (s : Col) => spec_l01Put_l0 l k' i s) x.p 0 (fun i s => i ≤ x.p ∧ PInv x l i.toNat s) (fun r => r = putC x l) ?_ ?_ k 0 ⟨x.p + 1, x.k, x.e⟩ (by omega) (by omega) ⟨by omega, PInv.start h l⟩
  · obtain ⟨r, e, rfl⟩ := this
    rw [e]; rfl
  · intro k' i s h0 h1 ⟨_, q⟩
    left
    obtain ⟨m, rfl⟩ := nat_of h0
    refine ⟨s.set (eN m x.p.toNat) (toByte (l.getD m 0)), ?_, by omega, ?_⟩
    · show spec_l01Put_l0 l (k' + 1) m s = _
      have h136 := eN_136 (i := m) (j := x.p.toNat) (by omega) (by omega) (by omega)
      have c1 : (m : Int) < (l.length : Int) := by omega
      have c2 : ((eN m x.p.toNat : Nat) : Int) < 136 := by omega
      have ew : w64 (s.p - 1) = x.p := by rw [q.1, w64_id (by omega)]; omega
      rw [spec_l01Put_l0, w64_succ h0 h1 (by omega), ew, edge_eq (m : Int) x.p (by omega) (by omega)]
      simp only [c1, c2, Int.toNat_natCast, decide_true, if_true, Int.natCast_nonneg, and_self, Option.bind_some]
    · have e0 : ((m : Int) + 1).toNat = m + 1 := by omega
      rw [e0]
      simp only [Int.toNat_natCast] at q
      exact PInv.step h hp q h1
  · intro k' i s h0 h1 ⟨q1, q⟩
    have : i = x.p := by omega
    subst this
    refine ⟨s, ?_, PInv.done h hp q⟩
    show spec_l01Put_l0 l (k' + 1) x.p s = _
    rw [spec_l01Put_l0]; simp [hl]

/-- A point that was put in is taken out. -/
theorem put_is {x : Col} (h : x.is) (hp : x.p < 17) {l : List Int} (hl : (l.length : Int) = x.p) (hr : ∀ a : Nat, a < l.length → 0 ≤ l.getD a 0 ∧ l.getD a 0 < x.k) : (putC x l).is := by
  have hp1 := h.1
  refine mkC_is (by omega) (by omega) h.2.1 _ fun a b hab hb => ?_
  split
  · exact hr a (by omega)
  · exact is_cc h (by omega) (by omega) (by omega)

theorem ir_get (n i : Nat) (h : i < n) : (ir 0 n).getD i 0 = (i : Int) := by
  unfold ir
  rw [List.getD_eq_getElem?_getD, List.getElem?_map, List.getElem?_range' (by omega)]
  simp

theorem ir_mem (n : Nat) (z : Int) : z ∈ ir 0 n ↔ 0 ≤ z ∧ z < n := by
  rw [mem_getD]
  constructor
  · rintro ⟨a, ha, rfl⟩
    rw [ir_length] at ha
    rw [ir_get n a (by omega)]
    omega
  · intro ⟨h0, h1⟩
    exact ⟨z.toNat, by rw [ir_length]; omega, by rw [ir_get n _ (by omega)]; omega⟩

def lessL (n : Nat) (v : Int) : List Int := (ir 0 n).filter fun i => !decide (i = v)

theorem pw_okL {x : Col} {l : List Int} (hn : x.p ≤ 17) (h : l.Pairwise (· < ·)) (hr : ∀ z ∈ l, 0 ≤ z ∧ z < x.p) (hlen : l.length ≤ 17) : okL x l := by
  refine ⟨hlen, fun a ha => hr _ (mem_getD.2 ⟨a, ha, rfl⟩), fun a b hab hb => ?_⟩
  have := (List.pairwise_iff_getElem.1 h) a b (by omega) hb hab
  have e1 : l.getD a 0 = l[a] := by simp [List.getD, show a < l.length by omega]
  have e2 : l.getD b 0 = l[b] := by simp [List.getD, hb]
  omega

theorem lessL_ok {x : Col} (hp : 1 ≤ x.p ∧ x.p ≤ 17) (v : Int) : okL x (lessL x.p.toNat v) := by
  refine pw_okL hp.2 ((ir_pw 0 _).filter _) (fun z hz => ?_) ?_
  · have := (ir_mem _ z).1 (List.mem_filter.1 hz).1
    omega
  · refine Nat.le_trans (List.length_filter_le _ _) ?_
    rw [ir_length]; omega

theorem put_part {x : Col} (h : x.is) (hp : x.p < 17) {l : List Int} : partC (putC x l) (ir 0 x.p.toNat) = x := by
  have hp1 := h.1
  have hkk := h.2.1
  have e := is_mk h
  unfold partC
  rw [show (ir 0 x.p.toNat).length = x.p.toNat by rw [ir_length]; omega]
  refine Eq.trans ?_ e.symm
  show mkC x.p.toNat x.k _ = _
  refine mkC_congr (by omega) _ fun a b hab hb => ?_
  rw [ir_get _ a (by omega), ir_get _ b hb]
  have hc := is_cc h (a := a) (b := b) (by omega) (by omega) (by omega)
  have e2 : (if (b : Int) = x.p then l.getD a 0 else x.cc a b) = x.cc a b := if_neg (by omega)
  unfold putC
  rw [mkC_cc (by omega) _ _ hab (by omega) (by rw [e2]; omega), e2]

theorem less_last (n : Nat) : lessL (n + 1) n = ir 0 n := by
  have snoc : ir 0 (n + 1) = ir 0 n ++ [(n : Int)] := by
    unfold ir
    rw [show n + 1 - 0 = n + 1 by omega, List.range'_concat]
    simp
  unfold lessL
  rw [snoc, List.filter_append]
  have : (ir 0 n).filter (fun i => !decide (i = (n : Int))) = ir 0 n := List.filter_eq_self.2 fun z hz => by
    have := (ir_mem n z).1 hz
    have : ¬ z = (n : Int) := by omega
    simp [this]
  rw [this]
  simp

/-- All points of which something is so. -/
theorem that_val {k : Nat} (x : Col) (hp : 1 ≤ x.p ∧ x.p ≤ 17) (hk : 20 ≤ k) (so : Int → Option Bool) (S : Int → Bool) (hs : ∀ a : Nat, (a : Int) < x.p → so a = some (S a)) : impl_Colouring_that k x so = some ((ir 0 x.p.toNat).filter S) := by
  have snoc : ∀ j, ir 0 (j + 1) = ir 0 j ++ [(j : Int)] := fun j => by
    unfold ir
    rw [show j + 1 - 0 = j + 1 by omega, List.range'_concat]
    simp
  unfold impl_Colouring_that
  have := loopI (f := fun k' i (s : List Int) => impl_Colouring_that_l0 x so k' i s) x.p 0 (fun i s => i ≤ x.p ∧ s = (ir 0 i.toNat).filter S) (fun r => r = (ir 0 x.p.toNat).filter S) ?_ ?_ k 0 [] (by omega) (by omega) ⟨by omega, rfl⟩
  · obtain ⟨r, e, rfl⟩ := this
    rw [e]; rfl
  · intro k' i s h0 h1 ⟨_, q⟩
    left
    obtain ⟨m, rfl⟩ := nat_of h0
    refine ⟨_, ?_, by omega, rfl⟩
    show impl_Colouring_that_l0 x so (k' + 1) m s = _
    have e0 : ((m : Int) + 1).toNat = m + 1 := by omega
    simp only [Int.toNat_natCast] at q
    have hl : s.length ≤ m := by
      rw [q]
      exact Nat.le_trans (List.length_filter_le _ _) (by rw [ir_length]; omega)
    have hl' : s.length + ([(m : Int)]).length ≤ 1099511627776 := by simp; omega
    rw [impl_Colouring_that_l0, w64_succ h0 h1 (by omega), e0, hs m h1, snoc, List.filter_append, ← q]
    cases hS : S m with
    | true =>
      have : [(m : Int)].filter S = [(m : Int)] := by simp [hS]
      rw [this]
      simp only [h1, decide_true, if_true, Option.bind_some, if_pos hl']
    | false => simp [h1, hS]
  · intro k' i s h0 h1 ⟨q1, q2⟩
    have : i = x.p := by omega
    subst this
    refine ⟨s, ?_, q2⟩
    show impl_Colouring_that_l0 x so (k' + 1) x.p s = _
    rw [impl_Colouring_that_l0]; simp

end Go.Proofs.Ytfnbhfobgimnjaa
