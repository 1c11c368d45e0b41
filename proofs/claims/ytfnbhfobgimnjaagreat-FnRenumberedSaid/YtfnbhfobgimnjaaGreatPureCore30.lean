/- Plain laws, collected out of own texts. No conditions beyond those that each lemma states. -/
import Derived.Test.YtfnbhfobgimnjaaGreatPKit
import Derived.Test.YtfnbhfobgimnjaaGreatPBits
import Derived.Test.YtfnbhfobgimnjaaGreatMk
import Derived.Test.YtfnbhfobgimnjaaGreatClqB
import Derived.Test.YtfnbhfobgimnjaaGreatExts
import Derived.Test.YtfnbhfobgimnjaaGreatGen30
set_option linter.unusedVariables false
set_option linter.unusedSimpArgs false
namespace Go.Proofs.YtfnbhfobgimnjaaGreat
open Go Go.RowKit Ab

theorem in_eq (a b c : Int) : impl_in a b c = decide (b ≤ a ∧ a ≤ c) := by
  unfold impl_in letO
  by_cases h : b ≤ a <;> by_cases h' : a ≤ c <;> simp [h, h']

theorem specIn_eq (a b c : Int) : spec_l01In a b c = decide (b ≤ a ∧ a ≤ c) := by
  unfold spec_l01In letO
  by_cases h : b ≤ a <;> by_cases h' : a ≤ c <;> simp [h, h']

def tE (x : Col) : Int := w64 ((w64 (x.p * (w64 (x.p - 1)))).tdiv 2)

def okE (x : Col) (j : Int) : Prop := (j < tE x → ((x.get j.toNat).toNat : Int) < x.k) ∧ (tE x ≤ j → ((x.get j.toNat).toNat : Int) = 0)

/-- Numbers in range, colours in range on the edges, zero behind them. -/
def Col.is (x : Col) : Prop := (1 ≤ x.p ∧ x.p ≤ 17) ∧ (1 ≤ x.k ∧ x.k ≤ 4) ∧ ∀ j, 0 ≤ j → j < 136 → okE x j

open Classical in
theorem specIs_eq (k : Nat) (h : 137 ≤ k) (x : Col) : spec_l01Is k x = some (decide x.is) := by
  unfold spec_l01Is
  rw [specIn_eq, specIn_eq]
  by_cases hp : 1 ≤ x.p ∧ x.p ≤ 17
  · by_cases hk : 1 ≤ x.k ∧ x.k ≤ 4
    · have := loopAll (f := fun k' i => spec_l01Is_l0 k x k' i) 136 false (okE x) 0
        (fun k' i h0 h1 hq => by
          show spec_l01Is_l0 k x (k' + 1) i = _
          rw [spec_l01Is_l0, w64_succ h0 h1 (by omega)]
          obtain ⟨q1, q2⟩ := hq
          change (i < tE x → _) at q1
          by_cases hc : i < tE x
          · have e1 := q1 hc
            have e2 : ¬ tE x ≤ i := by omega
            have e3 : ¬ x.k ≤ ((x.get i.toNat).toNat : Int) := by omega
            unfold tE at hc e2
            simp [h0, h1, hc, e2, e3]
          · have e1 := q2 (by omega)
            have e2 : tE x ≤ i := by omega
            unfold tE at hc e2
            simp [h0, h1, hc, e2, e1])
        (fun k' i h0 h1 hq => by
          show spec_l01Is_l0 k x (k' + 1) i = _
          rw [spec_l01Is_l0]
          by_cases hc : i < tE x
          · have e2 : ¬ tE x ≤ i := by omega
            have e3 : x.k ≤ ((x.get i.toNat).toNat : Int) := by
              apply Int.not_lt.1
              intro e; exact hq ⟨fun _ => e, fun h => (e2 h).elim⟩
            unfold tE at hc e2
            simp [h0, h1, hc, e2, e3]
          · have e2 : tE x ≤ i := by omega
            have e3 : ¬ ((x.get i.toNat).toNat : Int) = 0 := by
              intro e; exact hq ⟨fun h => (hc h).elim, fun _ => e⟩
            unfold tE at hc e2
            have e5 : ¬ (x.get i.toNat).toNat = 0 := by omega
            simp [h0, h1, hc, e2, e5])
        (fun k' i h1 => by
          show spec_l01Is_l0 k x (k' + 1) i = _
          rw [spec_l01Is_l0]
          have : ¬ i < 136 := by omega
          simp [this]) k 0 (by omega) (by omega)
      simp only [hp, hk, decide_true, Bool.not_true, Bool.false_eq_true, if_false, letO, and_self]
      rw [this]
      by_cases ha : ∀ j, 0 ≤ j → j < 136 → okE x j
      · have : x.is := ⟨hp, hk, ha⟩
        rw [if_pos ha]; simp [this]
      · have : ¬ x.is := fun h => ha h.2.2
        simp only [if_neg ha, this]
        simp
    · have : ¬ x.is := fun h => hk h.2.1
      simp [hp, hk, letO, this]
  · have : ¬ x.is := fun h => hp h.1
    simp [hp, letO, this]

open Classical in
theorem isColouring_eq (k : Nat) (h : 137 ≤ k) (x : Col) : impl_Colouring_isColouring k x = some (decide x.is) := by
  unfold impl_Colouring_isColouring
  rw [in_eq, in_eq]
  by_cases hp : 1 ≤ x.p ∧ x.p ≤ 17
  · by_cases hk : 1 ≤ x.k ∧ x.k ≤ 4
    · have := loopAll (f := fun k' i => impl_Colouring_isColouring_l0 k x k' i) 136 false (okE x) 0
        (fun k' i h0 h1 hq => by
          show impl_Colouring_isColouring_l0 k x (k' + 1) i = _
          rw [impl_Colouring_isColouring_l0, w64_succ h0 h1 (by omega)]
          obtain ⟨q1, q2⟩ := hq
          change (i < tE x → ((x.e.get i.toNat).toNat : Int) < x.k) at q1
          change (tE x ≤ i → ((x.e.get i.toNat).toNat : Int) = 0) at q2
          change (if _ then _ else _) = _
          have hE : impl_Colouring_edges x = tE x := rfl
          by_cases hc : i < tE x
          · have e1 := q1 hc
            have e2 : ¬ tE x ≤ i := by omega
            have e3 : ¬ x.k ≤ ((x.e.get i.toNat).toNat : Int) := by omega
            simp [h0, h1, hc, e2, e3, hE, letO]
          · have e1 := q2 (by omega)
            have e2 : tE x ≤ i := by omega
            have e3 : ¬ x.k ≤ ((x.e.get i.toNat).toNat : Int) := by omega
            rw [e1] at e3
            simp [h0, h1, hc, e2, e1, e3, hE, letO])
        (fun k' i h0 h1 hq => by
          show impl_Colouring_isColouring_l0 k x (k' + 1) i = _
          rw [impl_Colouring_isColouring_l0]
          have hE : impl_Colouring_edges x = tE x := rfl
          by_cases e3 : x.k ≤ ((x.e.get i.toNat).toNat : Int)
          · simp [h0, h1, e3, letO]
          · have e2 : tE x ≤ i := by
              apply Int.not_lt.1
              intro hc; exact hq ⟨fun _ => by change ((x.e.get i.toNat).toNat : Int) < x.k; omega, fun h => by omega⟩
            have e4 : ¬ ((x.e.get i.toNat).toNat : Int) = 0 := by
              intro e; exact hq ⟨fun h => by omega, fun _ => e⟩
            have e5 : ¬ (x.e.get i.toNat).toNat = 0 := by omega
            simp [h0, h1, e2, e3, e5, hE, letO])
        (fun k' i h1 => by
          show impl_Colouring_isColouring_l0 k x (k' + 1) i = _
          rw [impl_Colouring_isColouring_l0]
          have : ¬ i < 136 := by omega
          simp [this]) k 0 (by omega) (by omega)
      simp only [hp, hk, decide_true, Bool.not_true, Bool.false_eq_true, if_false, letO, and_self]
      rw [this]
      by_cases ha : ∀ j, 0 ≤ j → j < 136 → okE x j
      · have : x.is := ⟨hp, hk, ha⟩
        rw [if_pos ha]; simp [this]
      · have : ¬ x.is := fun h => ha h.2.2
        simp only [if_neg ha, this]
        simp
    · have : ¬ x.is := fun h => hk h.2.1
      simp [hp, hk, letO, this]
  · have : ¬ x.is := fun h => hp h.1
    simp [hp, letO, this]

theorem number_eq (i j : Int) (hi : 0 ≤ i ∧ i < 17) (hj : 0 ≤ j ∧ j < 17) : impl_number i j = (eN i.toNat j.toNat : Int) := by
  have : ∀ i, i < 17 → ∀ j, j < 17 → impl_number (i : Nat) (j : Nat) = (eN i j : Int) := by decide +kernel
  have h := this i.toNat (by omega) j.toNat (by omega)
  rwa [Int.toNat_of_nonneg hi.1, Int.toNat_of_nonneg hj.1] at h

theorem edge_eq (i j : Int) (hi : 0 ≤ i ∧ i < 17) (hj : 0 ≤ j ∧ j < 17) : spec_l01Edge i j = (eN i.toNat j.toNat : Int) := by
  have : ∀ i, i < 17 → ∀ j, j < 17 → spec_l01Edge (i : Nat) (j : Nat) = (eN i j : Int) := by decide +kernel
  have h := this i.toNat (by omega) j.toNat (by omega)
  rwa [Int.toNat_of_nonneg hi.1, Int.toNat_of_nonneg hj.1] at h

def Col.cc (x : Col) (i j : Int) : Int := ((x.e.get (eN i.toNat j.toNat)).toNat : Int)

theorem specAt_eq (x : Col) (i j : Int) (h0 : 0 ≤ i) (h : i < j) (hj : 0 ≤ j) (hj' : j < 17) : spec_l01At x i j = some (x.cc i j) := by
  unfold spec_l01At
  rw [edge_eq i j (by omega) (by omega)]
  have := eN_136 (i := i.toNat) (j := j.toNat) (by omega) (by omega) (by omega)
  rw [if_pos (by omega)]
  rfl

theorem implAt_eq (x : Col) (i j : Int) (h0 : 0 ≤ i) (h : i < j) (hj : 0 ≤ j) (hj' : j < 17) : impl_Colouring_at x i j = some (x.cc i j) := by
  unfold impl_Colouring_at
  rw [number_eq i j (by omega) (by omega)]
  have := eN_136 (i := i.toNat) (j := j.toNat) (by omega) (by omega) (by omega)
  rw [if_pos (by omega)]
  rfl

theorem getD_app' {α : Type} (l m : List α) (d : α) (i : Nat) (h : l.length ≤ i) : (l ++ m).getD i d = m.getD (i - l.length) d := by
  simp only [List.getD]; rw [List.getElem?_append_right h]

theorem cc_comm (x : Col) (i j : Int) : x.cc i j = x.cc j i := by unfold Col.cc; rw [eN_comm]

theorem implAt_ne (x : Col) (i j : Int) (h0 : 0 ≤ i) (h1 : i < 17) (hj : 0 ≤ j) (hj' : j < 17) (h : i ≠ j) : impl_Colouring_at x i j = some (x.cc i j) := by
  unfold impl_Colouring_at
  rw [number_eq i j (by omega) (by omega)]
  have := eN_136 (i := i.toNat) (j := j.toNat) (by omega) (by omega) (by omega)
  rw [if_pos (by omega)]
  rfl

theorem specAt_ne (x : Col) (i j : Int) (h0 : 0 ≤ i) (h1 : i < 17) (hj : 0 ≤ j) (hj' : j < 17) (h : i ≠ j) : spec_l01At x i j = some (x.cc i j) := by
  unfold spec_l01At
  rw [edge_eq i j ⟨h0, h1⟩ ⟨hj, hj'⟩]
  have := eN_136 (i := i.toNat) (j := j.toNat) (by omega) (by omega) (by omega)
  rw [if_pos ⟨by omega, by omega⟩]
  rfl

theorem eqb_refl' (x : Col) : x.eqb x = true := (Col.eqb_iff x x).2 rfl

theorem like_refl (k : Nat) (l : List Int) (hk : l.length + 1 ≤ k) (hl : (l.length : Int) ≤ 1099511627776) : laws_likeInts k l l = some true := by
  unfold laws_likeInts
  have := loopAll (f := fun k' i => laws_likeInts_l0 l l k' i) (l.length : Int) false (fun _ => True) 0
    (fun k' i h0 h1 _ => by
      show laws_likeInts_l0 l l (k' + 1) i = _
      rw [laws_likeInts_l0, w64_succ h0 h1 (by omega)]
      simp [h0, h1])
    (fun k' i h0 h1 hq => (hq trivial).elim)
    (fun k' i h1 => by
      show laws_likeInts_l0 l l (k' + 1) i = _
      rw [laws_likeInts_l0]
      have : ¬ i < (l.length : Int) := by omega
      simp [this]) k 0 (by omega) (by omega)
  rw [this]; simp

open Classical in
theorem index_eq (k : Nat) (l : List Int) (v : Int) (h : l.length + 1 ≤ k) (hl : (l.length : Int) ≤ 1099511627776) : slices_Contains k l v = some (decide (∃ a, a < l.length ∧ l.getD a 0 = v)) := by
  unfold slices_Contains slices_Index
  have := loopI (f := fun k' i (_ : Unit) => slices_Index_l0 l v k' i) (l.length : Int) 0 (fun i _ => ∀ a, a < i.toNat → l.getD a 0 ≠ v)
    (fun r => ((∃ a, a < l.length ∧ l.getD a 0 = v) ∧ ∃ i, r = .inr i ∧ 0 ≤ i) ∨ (¬ (∃ a, a < l.length ∧ l.getD a 0 = v)) ∧ r = .inl ()) ?_ ?_ k 0 () (by omega) (by omega) (fun a h => by omega)
  · obtain ⟨r, e, h⟩ := this
    rw [e]
    rcases h with ⟨hd, i, rfl, hi⟩ | ⟨hd, rfl⟩
    · simp [hi, -List.getD_eq_getElem?_getD, hd]
    · simp [-List.getD_eq_getElem?_getD, hd]
  · intro k' i _ h0 h1 hq
    obtain ⟨m, rfl⟩ := nat_of h0
    have hm : m < l.length := by omega
    by_cases e : v = l.getD m 0
    · right
      refine ⟨.inr m, ?_, .inl ⟨⟨m, hm, e.symm⟩, m, rfl, h0⟩⟩
      show slices_Index_l0 l v (k' + 1) m = _
      rw [slices_Index_l0]
      simp [hm, -List.getD_eq_getElem?_getD, ← e]
    · left
      refine ⟨(), ?_, ?_⟩
      · show slices_Index_l0 l v (k' + 1) m = _
        rw [slices_Index_l0, w64_succ h0 h1 (by omega)]
        simp [hm, -List.getD_eq_getElem?_getD, e]
      · intro a ha
        by_cases h : a = m
        · subst h; exact fun h => e h.symm
        · exact hq a (by omega)
  · intro k' i _ h0 h1 hq
    refine ⟨.inl (), ?_, .inr ⟨fun ⟨a, ha, he⟩ => hq a (by omega) he, rfl⟩⟩
    show slices_Index_l0 l v (k' + 1) i = _
    rw [slices_Index_l0]
    have : ¬ i < (l.length : Int) := by omega
    simp [this]

def bitsN (P : Nat → Bool) : Nat → Nat
  | 0 => 0
  | n + 1 => if P n then bitsN P n ||| 2 ^ n else bitsN P n

theorem bitsN_test (P : Nat → Bool) (n j : Nat) : (bitsN P n).testBit j = (decide (j < n) && P j) := by
  induction n with
  | zero => simp [bitsN]
  | succ n ih =>
    unfold bitsN
    by_cases h : P n
    · rw [if_pos h, add_bit, ih]
      by_cases e : n = j
      · subst e; simp [h]
      · have : decide (j < n + 1) = decide (j < n) := by simp; omega
        simp [e, this]
    · rw [if_neg h, ih]
      by_cases e : n = j
      · subst e; simp [h]
      · have : decide (j < n + 1) = decide (j < n) := by simp; omega
        rw [this]

theorem bitsN_lt (P : Nat → Bool) (n : Nat) : bitsN P n < 2 ^ n := bits_lt fun i h => by
  rw [bitsN_test]
  have : ¬ i < n := by omega
  simp [this]

theorem lt17 {s n : Nat} (h : s < 2 ^ n) (hn : n ≤ 17) : s < 2 ^ 17 := Nat.lt_of_lt_of_le h (Nat.pow_le_pow_right (by omega) hn)

theorem lt63 {s : Nat} (h : s < 2 ^ 17) : s < 2 ^ 63 := Nat.lt_of_lt_of_le h (by decide)

theorem made_l1 (f : Int → Int → Option Int) (n : Nat) (hn : n ≤ 17) (g : Nat → Nat → Int) (j : Nat) (hj : j < n) (hf : ∀ i : Nat, i < j → f i j = some (g i j)) (p c : Int) :
    ∀ k, 18 ≤ k → ∀ x : Col, x.p = p → x.k = c → MInv n (fun a b => toByte (g a b)) j 0 x.e → ∃ y : Col, impl_made_l1 f (j : Int) k 0 x = some y ∧ y.p = p ∧ y.k = c ∧ MInv n (fun a b => toByte (g a b)) j j y.e := by
  intro k hk x hp hc hx
  refine loopI (f := fun k i s => impl_made_l1 f (j : Int) k i s) (j : Int) 0 (fun i s => s.p = p ∧ s.k = c ∧ MInv n (fun a b => toByte (g a b)) j i.toNat s.e ∧ i ≤ j) (fun y => y.p = p ∧ y.k = c ∧ MInv n (fun a b => toByte (g a b)) j j y.e) ?_ ?_ k 0 x (by omega) (by omega) ⟨hp, hc, hx, by omega⟩
  · intro k i s h0 h1 ⟨q1, q2, q3, _⟩
    left
    obtain ⟨m, rfl⟩ := nat_of h0
    refine ⟨s.set (eN m j) (toByte (g m j)), ?_, q1, q2, ?_, by omega⟩
    · show impl_made_l1 f (j : Int) (k + 1) m s = _
      rw [impl_made_l1, hf m (by omega), w64_succ h0 h1 (by omega)]
      unfold impl_Colouring_put
      rw [number_eq m j (by omega) (by omega)]
      have := eN_136 (i := m) (j := j) (by omega) (by omega) (by omega)
      have h136 : ((eN m j : Nat) : Int) < 136 := by omega
      have hmj : m < j := by omega
      simp [hmj, this, h136]
    · have := MInv.step hn q3 hj (show m < j by omega)
      exact this
  · intro k i s h0 h1 ⟨q1, q2, q3, q4⟩
    have : i = j := by omega
    subst this
    refine ⟨s, ?_, q1, q2, q3⟩
    show impl_made_l1 f (j : Int) (k + 1) j s = _
    rw [impl_made_l1]; simp

theorem made_eq (f : Int → Int → Option Int) (n : Int) (hn0 : 0 ≤ n) (hn : n ≤ 17) (g : Nat → Nat → Int) (hf : ∀ i j : Nat, i < j → (j : Int) < n → f i j = some (g i j)) (c : Int) :
    ∀ k, 19 ≤ k → ∃ y : Col, impl_made k n c f = some y ∧ Made y n c (fun a b => toByte (g a b)) := by
  intro k hk
  obtain ⟨n, rfl⟩ := nat_of hn0
  unfold impl_made
  have := loopI (f := fun k' i s => impl_made_l0 k n f k' i s) (n : Int) 0 (fun i (s : Col) => s.p = n ∧ s.k = c ∧ MInv n (fun a b => toByte (g a b)) i.toNat 0 s.e ∧ i ≤ n) (fun y => Made y n c (fun a b => toByte (g a b))) ?_ ?_ k 0 (⟨n, c, B136.zero⟩ : Col) (by omega) (by omega) ⟨rfl, rfl, MInv.start _ _, by omega⟩
  · obtain ⟨y, e, h⟩ := this
    exact ⟨y, by rw [e]; rfl, h⟩
  · intro k' i s h0 h1 ⟨q1, q2, q3, _⟩
    left
    obtain ⟨j, rfl⟩ := nat_of h0
    obtain ⟨y, e, h1', h2', h3'⟩ := made_l1 f n (by omega) g j (by omega) (fun i hi => hf i j hi h1) n c k (by omega) s q1 q2 q3
    refine ⟨y, ?_, h1', h2', MInv.row h3', by omega⟩
    show impl_made_l0 k n f (k' + 1) j s = _
    rw [impl_made_l0, e, w64_succ h0 h1 (by omega)]
    have : j < n := by omega
    simp [this]
  · intro k' i s h0 h1 ⟨q1, q2, q3, q4⟩
    have : i = n := by omega
    subst this
    refine ⟨s, ?_, MInv.made q3 q1 q2⟩
    show impl_made_l0 k n f (k' + 1) n s = _
    rw [impl_made_l0]; simp

theorem pw_ext : ∀ (l m : List Int), l.Pairwise (· < ·) → m.Pairwise (· < ·) → (∀ x, x ∈ l ↔ x ∈ m) → l = m
  | [], [], _, _, _ => rfl
  | [], b :: m, _, _, h => by have := (h b).2 (by simp); simp at this
  | a :: l, [], _, _, h => by have := (h a).1 (by simp); simp at this
  | a :: l, b :: m, hl, hm, h => by
    have hl' := List.pairwise_cons.1 hl
    have hm' := List.pairwise_cons.1 hm
    have e : a = b := by
      rcases List.mem_cons.1 ((h a).1 (by simp)) with e | e
      · exact e
      · rcases List.mem_cons.1 ((h b).2 (by simp)) with e' | e'
        · exact e'.symm
        · have := hl'.1 b e'; have := hm'.1 a e; omega
    subst e
    rw [pw_ext l m hl'.2 hm'.2 (fun x => by
      constructor
      · intro hx
        rcases List.mem_cons.1 ((h x).1 (by simp [hx])) with e | e
        · subst e; have := hl'.1 x hx; omega
        · exact e
      · intro hx
        rcases List.mem_cons.1 ((h x).2 (by simp [hx])) with e | e
        · subst e; have := hm'.1 x hx; omega
        · exact e)]

def itr {σ : Type} (g : Int → σ → σ) : Nat → Int → σ → σ
  | 0, _, s => s
  | m + 1, i, s => itr g m (i + 1) (g i s)

/-- A loop whose rounds change a state. -/
theorem loopRun {α σ : Type} (f : Nat → Int → σ → Option α) (n : Int) (g : Int → σ → σ) (e : σ → α) (a : Int) (hok : ∀ k i s, a ≤ i → i < n → f (k + 1) i s = f k (i + 1) (g i s)) (hfin : ∀ k i s, n ≤ i → f (k + 1) i s = some (e s)) :
    ∀ k i s, a ≤ i → (n - i).toNat < k → f k i s = some (e (itr g (n - i).toNat i s)) := by
  intro k
  induction k with
  | zero => intro i s _ h; omega
  | succ k ih =>
    intro i s h0 h
    by_cases hi : i < n
    · rw [hok k i s h0 hi, ih (i + 1) _ (by omega) (by omega)]
      have : (n - i).toNat = (n - (i + 1)).toNat + 1 := by omega
      rw [this]; rfl
    · rw [hfin k i s (by omega)]
      have : (n - i).toNat = 0 := by omega
      rw [this]; rfl

def distL (l : List Int) : Prop := ∀ a b : Nat, a < b → b < l.length → l.getD a 0 ≠ l.getD b 0

def isOrd (l : List Int) (n : Int) : Prop := (l.length : Int) = n ∧ (∀ a : Nat, a < l.length → 0 ≤ l.getD a 0 ∧ l.getD a 0 < n) ∧ distL l

theorem distL_nodup (l : List Int) : distL l ↔ l.Nodup := by
  unfold distL List.Nodup
  rw [List.pairwise_iff_getElem]
  constructor
  · intro h i j hi hj hij
    have := h i j hij hj
    simpa [List.getD, hi, hj] using this
  · intro h i j hij hj
    have := h i j (by omega) hj hij
    simpa [List.getD, hj, show i < l.length by omega] using this

theorem sorted_mem (l : List Int) (x : Int) : x ∈ sorted l ↔ x ∈ l := by
  unfold sorted
  exact (List.mergeSort_perm l _).mem_iff

theorem sorted_pw (l : List Int) : (sorted l).Pairwise (· ≤ ·) := by
  unfold sorted
  have := List.pairwise_mergeSort (le := fun x y : Int => decide (x ≤ y)) (fun a b c h1 h2 => by simp at *; omega) (fun a b => by simp; omega) l
  refine this.imp fun h => ?_
  simpa using h

theorem sorted_nodup (l : List Int) : (sorted l).Nodup ↔ l.Nodup := by
  unfold sorted
  exact (List.mergeSort_perm l _).nodup_iff

theorem mem_getD {l : List Int} {x : Int} : x ∈ l ↔ ∃ a, a < l.length ∧ l.getD a 0 = x := by
  constructor
  · intro h
    obtain ⟨a, ha, e⟩ := List.getElem_of_mem h
    exact ⟨a, ha, by simp [List.getD, ha, e]⟩
  · rintro ⟨a, ha, rfl⟩
    simp [List.getD, ha]

/-- A list sorted shows whether it is an order. -/
theorem order_iff (l : List Int) : (∀ i : Nat, i < l.length → (sorted l).getD i 0 = i) ↔ ((∀ a : Nat, a < l.length → 0 ≤ l.getD a 0 ∧ l.getD a 0 < l.length) ∧ distL l) := by
  constructor
  · intro h
    have hm : ∀ x ∈ l, 0 ≤ x ∧ x < l.length := fun x hx => by
      have hx' := (sorted_mem l x).2 hx
      obtain ⟨a, ha, rfl⟩ := mem_getD.1 hx'
      rw [sorted_length] at ha
      rw [h a ha]; omega
    refine ⟨fun a ha => hm _ (mem_getD.2 ⟨a, ha, rfl⟩), ?_⟩
    rw [distL_nodup, ← sorted_nodup, ← distL_nodup]
    intro a b hab hb
    rw [sorted_length] at hb
    rw [h a (by omega), h b hb]; omega
  · rintro ⟨hr, hd⟩
    have hs : distL (sorted l) := by rw [distL_nodup, sorted_nodup, ← distL_nodup]; exact hd
    have hp := sorted_pw l
    rw [List.pairwise_iff_getElem] at hp
    have hlt : ∀ a b : Nat, a < b → b < l.length → (sorted l).getD a 0 < (sorted l).getD b 0 := fun a b hab hb => by
      have h1 := hs a b hab (by rw [sorted_length]; exact hb)
      have ha' : a < (sorted l).length := by rw [sorted_length]; omega
      have hb' : b < (sorted l).length := by rw [sorted_length]; omega
      have h2 := hp a b ha' hb' hab
      simp only [List.getD, List.getElem?_eq_getElem ha', List.getElem?_eq_getElem hb', Option.getD_some] at h1 ⊢
      omega
    have hb : ∀ a : Nat, a < l.length → 0 ≤ (sorted l).getD a 0 ∧ (sorted l).getD a 0 < l.length := fun a ha => by
      have : (sorted l).getD a 0 ∈ l := (sorted_mem l _).1 (mem_getD.2 ⟨a, by rw [sorted_length]; exact ha, rfl⟩)
      obtain ⟨b, hb, e⟩ := mem_getD.1 this
      rw [← e]; exact hr b hb
    have lo : ∀ a : Nat, a < l.length → (a : Int) ≤ (sorted l).getD a 0 := by
      intro a
      induction a with
      | zero => intro h; have := (hb 0 h).1; omega
      | succ a ih => intro h; have := ih (by omega); have := hlt a (a + 1) (by omega) h; omega
    have hi : ∀ d a : Nat, a < l.length → a + 1 + d = l.length → (sorted l).getD a 0 ≤ a := by
      intro d
      induction d with
      | zero => intro a ha e; have := (hb a ha).2; omega
      | succ d ih => intro a ha e; have := ih (a + 1) (by omega) (by omega); have := hlt a (a + 1) (by omega) (by omega); omega
    intro i h
    have := lo i h
    have := hi (l.length - i - 1) i h (by omega)
    omega

open Classical in
theorem implOrder_eq (k : Nat) (l : List Int) (n : Int) (hk : l.length + 1 ≤ k) (hl : (l.length : Int) ≤ 1099511627776) : impl_isOrder k l n = some (decide (isOrd l n)) := by
  unfold impl_isOrder sortedI
  rw [if_pos (by omega)]
  have := loopAll (f := fun k' i => impl_isOrder_l0 (sorted l) k' i) (l.length : Int) false (fun i => (sorted l).getD i.toNat 0 = i) 0
    (fun k' i h0 h1 hq => by
      show impl_isOrder_l0 (sorted l) (k' + 1) i = _
      rw [impl_isOrder_l0, w64_succ h0 h1 (by omega), hq, sorted_length]
      simp [h0, h1])
    (fun k' i h0 h1 hq => by
      show impl_isOrder_l0 (sorted l) (k' + 1) i = _
      rw [impl_isOrder_l0, sorted_length]
      have : ¬ i = (sorted l).getD i.toNat 0 := fun e => hq e.symm
      simp only [h1, decide_true, if_true, h0, true_and, this, decide_false, Bool.not_false])
    (fun k' i h1 => by
      show impl_isOrder_l0 (sorted l) (k' + 1) i = _
      rw [impl_isOrder_l0, sorted_length]
      have : ¬ i < (l.length : Int) := by omega
      simp [this]) k 0 (by omega) (by omega)
  simp only [Option.bind_some]
  rw [this]
  have key : (∀ j : Int, 0 ≤ j → j < l.length → (sorted l).getD j.toNat 0 = j) ↔ ((∀ a : Nat, a < l.length → 0 ≤ l.getD a 0 ∧ l.getD a 0 < l.length) ∧ distL l) := by
    rw [← order_iff]
    constructor
    · intro h i hi; have := h i (by omega) (by omega); simpa using this
    · intro h j h0 h1; obtain ⟨m, rfl⟩ := nat_of h0; have := h m (by omega); simpa using this
  by_cases ha : ∀ j : Int, 0 ≤ j → j < l.length → (sorted l).getD j.toNat 0 = j
  · rw [if_pos ha]
    have hk2 := key.1 ha
    simp only [Option.bind_some]
    congr 1
    by_cases hn : (l.length : Int) = n
    · have : isOrd l n := ⟨hn, fun a h => by rw [← hn]; exact hk2.1 a h, hk2.2⟩
      simp [this, impl_size, hn]
    · have : ¬ isOrd l n := fun h => hn h.1
      simp [this, impl_size, hn]
  · rw [if_neg ha]
    have : ¬ isOrd l n := fun h => ha (key.2 ⟨fun a h' => by have := h.2.1 a h'; rw [h.1]; exact this, h.2.2⟩)
    simp [this]

open Classical in
theorem specOrder_eq (k : Nat) (l : List Int) (n : Int) (hk : l.length + 1 ≤ k) (hl : (l.length : Int) ≤ 1099511627776) (hn : 1 ≤ n ∧ n ≤ 17) : spec_l01Order k l n = some (decide (isOrd l n)) := by
  unfold spec_l01Order
  rw [if_pos ⟨by omega, by omega, by omega⟩]
  have := loopI (f := fun k' i (s : List Bool) => spec_l01Order_l0 l n k' i s) (l.length : Int) 0
    (fun i s => (s.length : Int) = n ∧ i ≤ l.length ∧ (∀ a : Nat, a < i.toNat → 0 ≤ l.getD a 0 ∧ l.getD a 0 < n) ∧ (∀ a b : Nat, a < b → b < i.toNat → l.getD a 0 ≠ l.getD b 0) ∧
      ∀ v : Nat, (v : Int) < n → (s.getD v false = true ↔ ∃ a : Nat, a < i.toNat ∧ l.getD a 0 = v))
    (fun r => (r = .inl () ∧ (∀ a : Nat, a < l.length → 0 ≤ l.getD a 0 ∧ l.getD a 0 < n) ∧ distL l) ∨ (r = .inr false ∧ ¬ ((∀ a : Nat, a < l.length → 0 ≤ l.getD a 0 ∧ l.getD a 0 < n) ∧ distL l))) ?_ ?_ k 0 (List.replicate n.toNat false) (by omega) (by omega)
    ⟨by simp; omega, by omega, fun a h => by omega, fun a b h h' => by omega, fun v hv => by
      have : (List.replicate n.toNat false).getD v false = false := by
        rw [List.getD_eq_getElem?_getD, List.getElem?_replicate]; split <;> rfl
      rw [this]
      simp⟩
  · obtain ⟨r, e, h⟩ := this
    rw [e]
    rcases h with ⟨rfl, h1, h2⟩ | ⟨rfl, h⟩
    · simp only [Option.bind_some]
      by_cases hq : (l.length : Int) = n
      · have : isOrd l n := ⟨hq, h1, h2⟩
        simp [this, hq]
      · have : ¬ isOrd l n := fun h => hq h.1
        simp [this, hq]
    · have : ¬ isOrd l n := fun h' => h ⟨h'.2.1, h'.2.2⟩
      simp [this]
  · intro k' i s h0 h1 ⟨q1, _, q3, q4, q5⟩
    obtain ⟨m, rfl⟩ := nat_of h0
    have hm : m < l.length := by omega
    simp only [Int.toNat_natCast] at q3 q4 q5
    by_cases hr : 0 ≤ l.getD m 0 ∧ l.getD m 0 ≤ n - 1
    · obtain ⟨v, hv⟩ := nat_of hr.1
      have hvn : (v : Int) < n := by omega
      have hvs : v < s.length := by omega
      by_cases hmet : s.getD v false = true
      · right
        obtain ⟨a, ha, e⟩ := (q5 v hvn).1 hmet
        refine ⟨_, ?_, .inr ⟨rfl, fun h => h.2 a m ha hm (by rw [e, hv])⟩⟩
        show spec_l01Order_l0 l n (k' + 1) m s = _
        rw [spec_l01Order_l0, specIn_eq, w64_id (n := n - 1) (by omega)]
        simp only [Int.toNat_natCast, hv] at hr ⊢
        simp only [hr, h1, q1, hvn, hmet, decide_true, Bool.not_true, Bool.false_eq_true, if_false, if_true, and_self, Option.bind_some, Int.toNat_natCast, h0, Int.natCast_nonneg]
      · left
        have hmet' : s.getD v false = false := by simpa using hmet
        refine ⟨s.set v true, ?_, by simpa using q1, by omega, ?_, ?_, ?_⟩
        · show spec_l01Order_l0 l n (k' + 1) m s = _
          rw [spec_l01Order_l0, specIn_eq, w64_id (n := n - 1) (by omega), w64_succ h0 h1 (by omega)]
          simp only [Int.toNat_natCast, hv] at hr ⊢
          simp only [hr, h1, q1, hvn, hmet', decide_true, Bool.not_true, Bool.false_eq_true, if_false, if_true, and_self, Option.bind_some, Int.toNat_natCast, h0, Int.natCast_nonneg]
        · intro a ha
          by_cases e : a = m
          · subst e; omega
          · exact q3 a (by omega)
        · intro a b hab hb
          by_cases e : b = m
          · subst e
            intro e2
            exact hmet ((q5 v hvn).2 ⟨a, hab, by rw [e2, hv]⟩)
          · exact q4 a b hab (by omega)
        · intro u hu
          by_cases e : v = u
          · subst e
            simp only [List.getD, List.getElem?_set_self hvs, Option.getD_some, true_iff]
            exact ⟨m, by omega, hv⟩
          · have := q5 u hu
            simp only [List.getD] at this ⊢
            rw [List.getElem?_set_ne e, this]
            constructor
            · rintro ⟨a, ha, e'⟩; exact ⟨a, by omega, e'⟩
            · rintro ⟨a, ha, e'⟩
              refine ⟨a, ?_, e'⟩
              by_cases e2 : a = m
              · subst e2
                rw [show (l[a]?.getD 0) = l.getD a 0 from rfl, hv] at e'
                omega
              · omega
    · right
      refine ⟨_, ?_, .inr ⟨rfl, fun h => hr ⟨(h.1 m hm).1, by have := (h.1 m hm).2; omega⟩⟩⟩
      show spec_l01Order_l0 l n (k' + 1) m s = _
      rw [spec_l01Order_l0, specIn_eq, w64_id (n := n - 1) (by omega)]
      simp only [Int.toNat_natCast, hr, h1, h0, decide_true, decide_false, Bool.not_false, if_true, and_self, Option.bind_some]
  · intro k' i s h0 h1 ⟨q1, q2, q3, q4, q5⟩
    have : i = l.length := by omega
    subst this
    simp only [Int.toNat_natCast] at q3 q4
    refine ⟨_, ?_, .inl ⟨rfl, q3, q4⟩⟩
    show spec_l01Order_l0 l n (k' + 1) l.length s = _
    rw [spec_l01Order_l0]; simp

def renStep (x : Col) (l : List Int) (j i : Int) (s : Col) : Col := s.set (eN (l.getD i.toNat 0).toNat (l.getD j.toNat 0).toNat) (toByte (x.cc i j))

def renRow (x : Col) (l : List Int) (j : Int) (s : Col) : Col := itr (renStep x l j) j.toNat 0 s

def ren (x : Col) (l : List Int) : Col := itr (renRow x l) (x.p - 1).toNat 1 ⟨x.p, x.k, B136.zero⟩

theorem ord_pts {l : List Int} {n : Int} (h : isOrd l n) (hn : n ≤ 17) {i j : Nat} (hij : i < j) (hj : (j : Int) < n) :
    ∃ a b : Nat, l.getD i 0 = a ∧ l.getD j 0 = b ∧ a ≠ b ∧ a < 17 ∧ b < 17 := by
  have h1 := h.2.1 i (by have := h.1; omega)
  have h2 := h.2.1 j (by have := h.1; omega)
  have h3 := h.2.2 i j hij (by have := h.1; omega)
  exact ⟨(l.getD i 0).toNat, (l.getD j 0).toNat, by omega, by omega, by omega, by omega, by omega⟩

theorem specRen_l1 (x : Col) (l : List Int) (hn : x.p ≤ 17) (h : isOrd l x.p) (j : Int) (hj0 : 0 ≤ j) (hj : j < x.p) (k : Nat) (hk : 18 ≤ k) (s : Col) : spec_l01Renamed_l1 x l j k 0 s = some (renRow x l j s) := by
  have hlen := h.1
  have := loopRun (fun k i s => spec_l01Renamed_l1 x l j k i s) j (renStep x l j) id 0
    (fun k i s h0 h1 => by
      show spec_l01Renamed_l1 x l j (k + 1) i s = _
      obtain ⟨m, rfl⟩ := nat_of h0
      obtain ⟨q, rfl⟩ := nat_of hj0
      obtain ⟨a, b, ea, eb, hab, ha, hb⟩ := ord_pts h hn (show m < q by omega) hj
      have h136 := eN_136 hab ha hb
      rw [spec_l01Renamed_l1, specAt_eq x _ _ h0 h1 hj0 (by omega), w64_succ h0 h1 (by omega)]
      simp only [Int.toNat_natCast, ea, eb]
      rw [edge_eq a b (by omega) (by omega)]
      simp only [renStep, Int.toNat_natCast, ea, eb]
      have e1 : (m : Int) < (l.length : Int) := by omega
      have e2 : (q : Int) < (l.length : Int) := by omega
      have e3 : ((eN a b : Nat) : Int) < 136 := by omega
      simp only [h1, e1, e2, e3, decide_true, if_true, Int.natCast_nonneg, and_self, Option.bind_some])
    (fun k i s h0 => by
      show spec_l01Renamed_l1 x l j (k + 1) i s = _
      rw [spec_l01Renamed_l1]
      have : ¬ i < j := by omega
      simp [this]) k 0 s (by omega) (by omega)
  rw [this]
  simp [renRow]

theorem implRen_l1 (x : Col) (l : List Int) (hn : x.p ≤ 17) (h : isOrd l x.p) (j : Int) (hj0 : 0 ≤ j) (hj : j < x.p) (k : Nat) (hk : 18 ≤ k) (s : Col) : impl_Colouring_renumbered_l1 x l j k 0 s = some (renRow x l j s) := by
  have hlen := h.1
  have := loopRun (fun k i s => impl_Colouring_renumbered_l1 x l j k i s) j (renStep x l j) id 0
    (fun k i s h0 h1 => by
      show impl_Colouring_renumbered_l1 x l j (k + 1) i s = _
      obtain ⟨m, rfl⟩ := nat_of h0
      obtain ⟨q, rfl⟩ := nat_of hj0
      obtain ⟨a, b, ea, eb, hab, ha, hb⟩ := ord_pts h hn (show m < q by omega) hj
      have h136 := eN_136 hab ha hb
      rw [impl_Colouring_renumbered_l1, implAt_eq x _ _ h0 h1 hj0 (by omega), w64_succ h0 h1 (by omega)]
      simp only [Int.toNat_natCast, ea, eb]
      unfold impl_Colouring_put
      rw [number_eq a b (by omega) (by omega)]
      simp only [renStep, Int.toNat_natCast, ea, eb]
      have e1 : (m : Int) < (l.length : Int) := by omega
      have e2 : (q : Int) < (l.length : Int) := by omega
      have e3 : ((eN a b : Nat) : Int) < 136 := by omega
      simp only [h1, e1, e2, e3, decide_true, if_true, Int.natCast_nonneg, and_self, Option.bind_some])
    (fun k i s h0 => by
      show impl_Colouring_renumbered_l1 x l j (k + 1) i s = _
      rw [impl_Colouring_renumbered_l1]
      have : ¬ i < j := by omega
      simp [this]) k 0 s (by omega) (by omega)
  rw [this]
  simp [renRow]

theorem specRen_eq (x : Col) (l : List Int) (hn : 1 ≤ x.p ∧ x.p ≤ 17) (h : isOrd l x.p) (k : Nat) (hk : 20 ≤ k) : spec_l01Renamed k x l = some (ren x l) := by
  unfold spec_l01Renamed
  have := loopRun (fun k' i s => spec_l01Renamed_l0 k x l k' i s) x.p (renRow x l) id 1
    (fun k' i s h0 h1 => by
      show spec_l01Renamed_l0 k x l (k' + 1) i s = _
      rw [spec_l01Renamed_l0, specRen_l1 x l hn.2 h i (by omega) h1 k (by omega), w64_succ (by omega) h1 (by omega)]
      simp [h1])
    (fun k' i s h0 => by
      show spec_l01Renamed_l0 k x l (k' + 1) i s = _
      rw [spec_l01Renamed_l0]
      have : ¬ i < x.p := by omega
      simp [this]) k 1 ⟨x.p, x.k, B136.zero⟩ (by omega) (by omega)
  rw [this]; rfl

theorem implRen_eq (x : Col) (l : List Int) (hn : 1 ≤ x.p ∧ x.p ≤ 17) (h : isOrd l x.p) (k : Nat) (hk : 20 ≤ k) : impl_Colouring_renumbered k x l = some (ren x l) := by
  unfold impl_Colouring_renumbered
  have := loopRun (fun k' i s => impl_Colouring_renumbered_l0 k x l k' i s) x.p (renRow x l) id 0
    (fun k' i s h0 h1 => by
      show impl_Colouring_renumbered_l0 k x l (k' + 1) i s = _
      rw [impl_Colouring_renumbered_l0, implRen_l1 x l hn.2 h i (by omega) h1 k (by omega), w64_succ (by omega) h1 (by omega)]
      simp [h1])
    (fun k' i s h0 => by
      show impl_Colouring_renumbered_l0 k x l (k' + 1) i s = _
      rw [impl_Colouring_renumbered_l0]
      have : ¬ i < x.p := by omega
      simp [this]) k 0 ⟨x.p, x.k, B136.zero⟩ (by omega) (by omega)
  rw [this]
  have e : (x.p - 0).toNat = (x.p - 1).toNat + 1 := by omega
  rw [e]
  rfl

theorem tE_tri (x : Col) (h : 1 ≤ x.p ∧ x.p ≤ 17) : tE x = (tri x.p.toNat : Int) := by
  obtain ⟨n, hn⟩ := nat_of (show 0 ≤ x.p by omega)
  unfold tE
  rw [hn, Int.toNat_natCast]
  have key : ∀ n : Nat, 1 ≤ n → n ≤ 17 → w64 ((w64 ((n : Int) * (w64 ((n : Int) - 1)))).tdiv 2) = (tri n : Int) := by
    have : ∀ n : Nat, n ≤ 17 → 1 ≤ n → w64 ((w64 ((n : Int) * (w64 ((n : Int) - 1)))).tdiv 2) = (tri n : Int) := by decide +kernel
    exact fun n h1 h2 => this n h2 h1
  exact key n (by omega) (by omega)

theorem edges_tri (n : Nat) (h : n ≤ 17) (k : Int) (e : B136) : w64 ((w64 ((n : Int) * (w64 ((n : Int) - 1)))).tdiv 2) = (tri n : Int) := by
  have : ∀ n : Nat, n ≤ 17 → w64 ((w64 ((n : Int) * (w64 ((n : Int) - 1)))).tdiv 2) = (tri n : Int) := by decide +kernel
  exact this n h

theorem is_lt {x : Col} (h : x.is) {e : Nat} (he : e < tri x.p.toNat) : ((x.e.get e).toNat : Int) < x.k := by
  have := tri_le (n := x.p.toNat) (by have := h.1; omega)
  have h1 := (h.2.2 e (by omega) (by omega)).1 (by rw [tE_tri x h.1]; omega)
  rw [Int.toNat_natCast] at h1
  exact h1

theorem is_zero {x : Col} (h : x.is) {e : Nat} (he : tri x.p.toNat ≤ e) (h1 : e < 136) : x.e.get e = 0 := by
  have h2 := (h.2.2 e (by omega) (by omega)).2 (by rw [tE_tri x h.1]; omega)
  rw [← u8_zero]
  rw [Int.toNat_natCast] at h2
  exact h2

theorem specTurned_eq (x : Col) (h : x.is) (q : List Int) (hq : (q.length : Int) = x.k) (k : Nat) (hk : 140 ≤ k) :
    ∃ y, spec_l01Turned k x q = some y ∧ Made y x.p x.k (fun a b => toByte (q.getD (x.e.get (eN a b)).toNat 0)) := by
  unfold spec_l01Turned
  obtain ⟨n, hn⟩ := nat_of (show 0 ≤ x.p by have := h.1; omega)
  have hn17 : n ≤ 17 := by have := h.1; omega
  have htl := tri_le hn17
  have hnt : x.p.toNat = n := by omega
  have := loopI (f := fun k' i (s : Col) => spec_l01Turned_l0 q k' i s) (tri n : Int) 0
    (fun i (s : Col) => s.p = x.p ∧ s.k = x.k ∧ i ≤ tri n ∧ (∀ e : Nat, (e : Int) < i → s.e.get e = toByte (q.getD (x.e.get e).toNat 0)) ∧ ∀ e : Nat, i ≤ e → s.e.get e = x.e.get e)
    (fun r => Made r x.p x.k (fun a b => toByte (q.getD (x.e.get (eN a b)).toNat 0))) ?_ ?_ k 0 x (by omega) (by omega) ⟨rfl, rfl, by omega, fun e h => by omega, fun e _ => rfl⟩
  · obtain ⟨y, e, hm⟩ := this
    rw [e]
    exact ⟨y, rfl, hm⟩
  · intro k' i s h0 h1 ⟨q1, q2, _, q4, q5⟩
    left
    obtain ⟨m, rfl⟩ := nat_of h0
    refine ⟨s.set m (toByte (q.getD (x.e.get m).toNat 0)), ?_, q1, q2, by omega, ?_, ?_⟩
    · show spec_l01Turned_l0 q (k' + 1) m s = _
      have hm := q5 m (Int.le_refl _)
      have hlt := is_lt h (e := m) (by rw [hnt]; omega)
      have e1 : (m : Int) < 136 := by omega
      have e2 : ((x.e.get m).toNat : Int) < (q.length : Int) := by omega
      have e3 : s.get m = x.e.get m := hm
      rw [spec_l01Turned_l0, q1, hn, edges_tri n hn17 s.k s.e, w64_succ h0 h1 (by omega)]
      simp only [Int.toNat_natCast, e3, h1, e1, e2, decide_true, if_true, Int.natCast_nonneg, and_self, h0]
    · intro e he
      rw [show (s.set m (toByte (q.getD (x.e.get m).toNat 0))).e.get e = _ from B136.get_set s.e m e _ (by omega)]
      split
      · next h => rw [h]
      · exact q4 e (by omega)
    · intro e he
      rw [show (s.set m (toByte (q.getD (x.e.get m).toNat 0))).e.get e = _ from B136.get_set s.e m e _ (by omega), if_neg (by omega)]
      exact q5 e (by omega)
  · intro k' i s h0 h1 ⟨q1, q2, q3, q4, q5⟩
    have : i = tri n := by omega
    subst this
    refine ⟨s, ?_, q1, q2, fun a b hab hb => ?_, fun e he h136 => ?_⟩
    · show spec_l01Turned_l0 q (k' + 1) (tri n : Nat) s = _
      rw [spec_l01Turned_l0, q1, hn, edges_tri n hn17 s.k s.e]
      simp
    · have := eN_lt hab (show b < n by omega) hn17
      exact q4 _ (by omega)
    · rw [q5 e (by rw [hnt] at he; omega)]
      exact is_zero h he h136

theorem code_cases {k : Nat} (hk : 5000 ≤ k) (x : Col) : (x.is → impl_Colouring_code k x (some true) = some 0 ∧ impl_Colouring_code k x (some false) = some 2) ∧ (¬ x.is → ∀ b, impl_Colouring_code k x (some b) = some 1) := by
  unfold impl_Colouring_code
  rw [isColouring_eq k (by omega)]
  constructor
  · intro h; simp [h]
  · intro h b; simp [h]

theorem tb (u : UInt8) : toByte (u.toNat : Int) = u := by
  have := u.toNat_lt
  unfold toByte
  rw [Int.emod_eq_of_lt (by omega) (by omega), Int.toNat_natCast]
  exact UInt8.ofNat_toNat

theorem tb_id {n : Int} (h : 0 ≤ n ∧ n < 256) : ((toByte n).toNat : Int) = n := by
  unfold toByte
  rw [Int.emod_eq_of_lt h.1 h.2]
  simp
  omega

theorem cc_nat (x : Col) (a b : Nat) : x.cc a b = ((x.e.get (eN a b)).toNat : Int) := by
  unfold Col.cc; simp only [Int.toNat_natCast]

/-- A colouring is told by its colours. -/
theorem is_mk {x : Col} (h : x.is) : x = mkC x.p.toNat x.k (fun a b => x.cc a b) := by
  have hp := h.1
  have hz : ((x.p.toNat : Nat) : Int) = x.p := by omega
  refine Made.to (g' := fun a b => x.e.get (eN a b)) (by omega) ⟨hz.symm, rfl, fun a b _ _ => rfl, fun e he h1 => is_zero h (by rw [Int.toNat_natCast] at he; exact he) h1⟩ fun a b _ _ => ?_
  rw [cc_nat, tb]

theorem mkC_is {n : Nat} (h1 : 1 ≤ n) (hn : n ≤ 17) {k : Int} (hk : 1 ≤ k ∧ k ≤ 4) (g : Nat → Nat → Int) (hg : ∀ a b : Nat, a < b → b < n → 0 ≤ g a b ∧ g a b < k) : (mkC n k g).is := by
  have hm := mkC_made hn k g
  refine ⟨by show 1 ≤ (n : Int) ∧ (n : Int) ≤ 17; omega, hk, fun j h0 h136 => ?_⟩
  obtain ⟨e, rfl⟩ := nat_of h0
  have ht : tE (mkC n k g) = (tri n : Int) := by
    rw [tE_tri _ (by show 1 ≤ (n : Int) ∧ (n : Int) ≤ 17; omega)]
    rfl
  refine ⟨fun h => ?_, fun h => ?_⟩
  · rw [ht] at h
    obtain ⟨j, hj, i, hi, rfl⟩ := eN_surj hn (show e < tri n by omega)
    show (((mkC n k g).e.get ((eN i j : Nat) : Int).toNat).toNat : Int) < k
    rw [Int.toNat_natCast, mkC_get hn k g hi hj, tb_id (by have := hg i j hi hj; omega)]
    exact (hg i j hi hj).2
  · rw [ht] at h
    have := hm.z e (by simpa using (show tri n ≤ e by omega)) (by omega)
    show (((mkC n k g).e.get ((e : Nat) : Int).toNat).toNat : Int) = 0
    rw [Int.toNat_natCast, this]; rfl

theorem is_cc {x : Col} (h : x.is) {a b : Nat} (ha : (a : Int) < x.p) (hb : (b : Int) < x.p) (hab : a ≠ b) : 0 ≤ x.cc a b ∧ x.cc a b < x.k := by
  have hp := h.1
  rw [cc_nat]
  refine ⟨by omega, is_lt h ?_⟩
  rcases Nat.lt_or_ge a b with q | q
  · exact eN_lt q (by omega) (by omega)
  · rw [eN_comm]; exact eN_lt (by omega) (by omega) (by omega)

theorem toN {x : Col} (h : 1 ≤ x.p ∧ x.p ≤ 17) : ((x.p.toNat : Nat) : Int) = x.p := by omega

theorem made_val {k n : Nat} {c : Int} {f : Int → Int → Option Int} {g : Nat → Nat → Int} (hn : n ≤ 17) (hk : 19 ≤ k) (hf : ∀ i j : Nat, i < j → j < n → f i j = some (g i j)) : impl_made k n c f = some (mkC n c g) := by
  obtain ⟨y, e, m⟩ := made_eq f n (by omega) (by omega) g (fun i j hij hj => hf i j hij (by omega)) c k hk
  rw [e]
  exact congrArg some (Made.to hn m fun _ _ _ _ => rfl)

theorem recol_val {k : Nat} {x : Col} (h : x.is) (k' : Int) (f : Int → Option Int) (φ : Int → Int) (hf : ∀ c, 0 ≤ c → c < x.k → f c = some (φ c)) (hk : 19 ≤ k) : impl_Colouring_recoloured k x k' f = some (mkC x.p.toNat k' (fun a b => φ (x.cc a b))) := by
  have hp := h.1
  unfold impl_Colouring_recoloured
  have := made_val (k := k) (n := x.p.toNat) (c := k') (f := fun a0 a1 => impl_Colouring_recoloured_c1 a0 a1 f x) (g := fun a b => φ (x.cc a b)) (by omega) hk fun i j hij hj => by
    have hc := is_cc h (a := i) (b := j) (by omega) (by omega) (by omega)
    unfold impl_Colouring_recoloured_c1
    rw [implAt_ne x _ _ (by omega) (by omega) (by omega) (by omega) (by omega)]
    simp only [Option.bind_some]
    rw [hf _ hc.1 hc.2]; rfl
  rw [toN hp] at this
  rw [this]; rfl

theorem turned_val {k : Nat} {x : Col} (h : x.is) (q : List Int) (hq : (q.length : Int) = x.k) (hk : 140 ≤ k) : spec_l01Turned k x q = some (mkC x.p.toNat x.k (fun a b => q.getD (x.cc a b).toNat 0)) := by
  have hp := h.1
  obtain ⟨y, e, m⟩ := specTurned_eq x h q hq k hk
  rw [e]
  rw [← toN hp] at m
  refine congrArg some (Made.to (by omega) m fun a b _ _ => ?_)
  rw [cc_nat, Int.toNat_natCast]

theorem itr_inv {σ : Type} (g : Int → σ → σ) (P : Nat → σ → Prop) : ∀ (m i : Nat) (s : σ), (∀ (j : Nat) (s : σ), i ≤ j → j < i + m → P j s → P (j + 1) (g j s)) → P i s → P (i + m) (itr g m i s) := by
  intro m
  induction m with
  | zero => intro i s _ h; exact h
  | succ m ih =>
    intro i s hs h
    have := ih (i + 1) (g i s) (fun j s h1 h2 => hs j s (by omega) (by omega)) (hs i s (Nat.le_refl _) (by omega) h)
    rw [show i + 1 + m = i + (m + 1) by omega] at this
    exact this

theorem eN_inj2 {a b c d : Nat} (hab : a ≠ b) (hcd : c ≠ d) (ha : a < 17) (hb : b < 17) (hc : c < 17) (hd : d < 17) (e : eN a b = eN c d) : (a = c ∧ b = d) ∨ (a = d ∧ b = c) := by
  rcases Nat.lt_or_ge a b with h | h
  · rcases Nat.lt_or_ge c d with h' | h'
    · exact .inl (eN_inj h hb h' hd e)
    · rw [eN_comm c d] at e
      have := eN_inj h hb (show d < c by omega) hc e
      omega
  · rw [eN_comm a b] at e
    rcases Nat.lt_or_ge c d with h' | h'
    · have := eN_inj (show b < a by omega) ha h' hd e
      omega
    · rw [eN_comm c d] at e
      have := eN_inj (show b < a by omega) ha (show d < c by omega) hc e
      omega

/-- What an order tells. -/
theorem ord_at {l : List Int} {n : Nat} (h : isOrd l n) {i : Nat} (hi : i < n) : ∃ a : Nat, l.getD i 0 = a ∧ a < n := by
  have := h.1
  have := h.2.1 i (by omega)
  exact ⟨(l.getD i 0).toNat, by omega, by omega⟩

theorem ord_ne {l : List Int} {n : Nat} (h : isOrd l n) {i j : Nat} (hi : i < n) (hj : j < n) (e : l.getD i 0 = l.getD j 0) : i = j := by
  have := h.1
  rcases Nat.lt_trichotomy i j with q | q | q
  · exact absurd e (h.2.2 i j q (by omega))
  · exact q
  · exact absurd e.symm (h.2.2 j i q (by omega))

theorem ord_surj {l : List Int} {n : Nat} (h : isOrd l n) {v : Nat} (hv : v < n) : ∃ i, i < n ∧ l.getD i 0 = v := by
  have hl := h.1
  have := (order_iff l).2 ⟨fun a ha => by rw [hl]; exact h.2.1 a ha, h.2.2⟩ v (by omega)
  have hm : (v : Int) ∈ sorted l := mem_getD.2 ⟨v, by rw [sorted_length]; omega, this⟩
  obtain ⟨i, hi, e⟩ := mem_getD.1 ((sorted_mem l _).1 hm)
  exact ⟨i, by omega, e⟩

/-- The colours of renumbered points. -/
structure RI (x : Col) (l : List Int) (j i : Nat) (s : Col) : Prop where
  p : s.p = x.p
  k : s.k = x.k
  c : ∀ a b : Nat, a < b → (b < j ∨ (b = j ∧ a < i)) → (b : Int) < x.p → s.e.get (eN (l.getD a 0).toNat (l.getD b 0).toNat) = toByte (x.cc a b)
  z : ∀ e, tri x.p.toNat ≤ e → e < 136 → s.e.get e = 0

theorem RI.step {x : Col} {l : List Int} {n : Nat} (hn : x.p = n) (hn17 : n ≤ 17) (h : isOrd l x.p) {j i : Nat} {s : Col} (q : RI x l j i s) (hi : i < j) (hj : j < n) : RI x l j (i + 1) (renStep x l j i s) := by
  rw [hn] at h
  obtain ⟨u, eu, hu⟩ := ord_at h (show i < n by omega)
  obtain ⟨v, ev, hv⟩ := ord_at h hj
  have huv : u ≠ v := fun e => by
    have := ord_ne h (show i < n by omega) hj (by rw [eu, ev, e])
    omega
  have h136 := eN_136 huv (by omega) (by omega)
  have hst : renStep x l j i s = s.set (eN u v) (toByte (x.cc i j)) := by
    unfold renStep
    rw [Int.toNat_natCast, Int.toNat_natCast, eu, ev, Int.toNat_natCast, Int.toNat_natCast]
  rw [hst]
  refine ⟨q.p, q.k, fun a b hab hc hb => ?_, fun e he h1 => ?_⟩
  · rw [show (s.set (eN u v) (toByte (x.cc i j))).e.get (eN (l.getD a 0).toNat (l.getD b 0).toNat) = _ from B136.get_set s.e _ _ _ h136]
    obtain ⟨a', ea, ha'⟩ := ord_at h (show a < n by omega)
    obtain ⟨b', eb, hb'⟩ := ord_at h (show b < n by omega)
    rw [ea, eb, Int.toNat_natCast, Int.toNat_natCast]
    have hab' : a' ≠ b' := fun e => by
      have := ord_ne h (show a < n by omega) (show b < n by omega) (by rw [ea, eb, e])
      omega
    by_cases e : eN a' b' = eN u v
    · rw [if_pos e]
      rcases eN_inj2 hab' huv (by omega) (by omega) (by omega) (by omega) e with ⟨r1, r2⟩ | ⟨r1, r2⟩
      · have e1 := ord_ne h (show a < n by omega) (show i < n by omega) (by rw [ea, eu, r1])
        have e2 := ord_ne h (show b < n by omega) hj (by rw [eb, ev, r2])
        rw [e1, e2]
      · have e1 := ord_ne h (show a < n by omega) hj (by rw [ea, ev, r1])
        have e2 := ord_ne h (show b < n by omega) (show i < n by omega) (by rw [eb, eu, r2])
        omega
    · rw [if_neg e]
      have : ¬ (a = i ∧ b = j) := fun ⟨r1, r2⟩ => by
        subst r1; subst r2
        rw [ea] at eu; rw [eb] at ev
        exact e (by rw [show a' = u by omega, show b' = v by omega])
      have := q.c a b hab (by omega) hb
      rw [ea, eb, Int.toNat_natCast, Int.toNat_natCast] at this
      exact this
  · rw [show (s.set (eN u v) (toByte (x.cc i j))).e.get e = _ from B136.get_set s.e _ _ _ h136]
    have : eN u v < tri x.p.toNat := by
      rw [hn, Int.toNat_natCast]
      rcases Nat.lt_or_ge u v with r | r
      · exact eN_lt r hv hn17
      · rw [eN_comm]; exact eN_lt (by omega) hu hn17
    rw [if_neg (by omega)]
    exact q.z e he h1

theorem ren_RI {x : Col} (hp : 1 ≤ x.p ∧ x.p ≤ 17) {l : List Int} (h : isOrd l x.p) : RI x l x.p.toNat 0 (ren x l) := by
  have hn := (toN hp).symm
  have hrow : ∀ (j : Nat) (s : Col), j < x.p.toNat → RI x l j 0 s → RI x l (j + 1) 0 (renRow x l j s) := fun j s hj q => by
    have := itr_inv (renStep x l j) (fun i s => RI x l j i s) j 0 s (fun i s _ hi q => RI.step hn (by omega) h q (by omega) hj) q
    rw [Nat.zero_add] at this
    unfold renRow
    rw [Int.toNat_natCast]
    exact ⟨this.p, this.k, fun a b hab hc hb => this.c a b hab (by omega) hb, this.z⟩
  have := itr_inv (renRow x l) (fun j s => RI x l j 0 s) (x.p - 1).toNat 1 ⟨x.p, x.k, B136.zero⟩ (fun j s _ hj q => hrow j s (by omega) q)
    ⟨rfl, rfl, fun a b hab hc hb => by omega, fun e _ _ => B136.get_zero e⟩
  rw [show 1 + (x.p - 1).toNat = x.p.toNat by omega] at this
  exact this

theorem ren_cc {x : Col} (h : x.is) {l : List Int} (ho : isOrd l x.p) {a b : Nat} (ha : (a : Int) < x.p) (hb : (b : Int) < x.p) (hab : a ≠ b) : (ren x l).cc (l.getD a 0) (l.getD b 0) = x.cc a b := by
  have hp := h.1
  have q := ren_RI hp ho
  have key : ∀ a b : Nat, a < b → (b : Int) < x.p → (ren x l).cc (l.getD a 0) (l.getD b 0) = x.cc a b := fun a b hab hb => by
    have := q.c a b hab (by omega) hb
    have hc := is_cc h (a := a) (b := b) (by omega) hb (by omega)
    have hk := h.2.1
    unfold Col.cc
    rw [this]
    exact tb_id (by omega)
  rcases Nat.lt_or_ge a b with r | r
  · exact key a b r hb
  · rw [cc_comm, key b a (by omega) ha, cc_comm]

theorem ren_is {x : Col} (h : x.is) {l : List Int} (ho : isOrd l x.p) : (ren x l).is := by
  have hp := h.1
  have q := ren_RI hp ho
  have hn := (toN hp).symm
  rw [hn] at ho
  have hc : ∀ u v : Nat, u < v → v < x.p.toNat → 0 ≤ (ren x l).cc u v ∧ (ren x l).cc u v < x.k := fun u v huv hv => by
    obtain ⟨i, hi, ei⟩ := ord_surj ho (show u < x.p.toNat by omega)
    obtain ⟨j, hj, ej⟩ := ord_surj ho hv
    rw [← ei, ← ej]
    have hne : i ≠ j := fun e => by subst e; rw [ei] at ej; omega
    rw [← hn] at ho
    rw [ren_cc h ho (by omega) (by omega) hne]
    exact is_cc h (by omega) (by omega) hne
  have e : ren x l = mkC x.p.toNat x.k (fun a b => (ren x l).cc a b) := by
    refine Made.to (g' := fun a b => (ren x l).e.get (eN a b)) (by omega) ⟨by rw [q.p]; omega, q.k, fun a b _ _ => rfl, fun e he h1 => q.z e (by rw [Int.toNat_natCast] at he; exact he) h1⟩ fun a b _ _ => ?_
    rw [cc_nat, tb]
  rw [e]
  exact mkC_is (by omega) (by omega) h.2.1 _ hc

theorem ren_back {x : Col} (h : x.is) {l bk : List Int} (ho : isOrd l x.p) (hb : isOrd bk x.p) (hlb : ∀ i : Nat, (i : Int) < x.p → bk.getD (l.getD i 0).toNat 0 = i) : ren (ren x l) bk = x := by
  have hp := h.1
  have hn := (toN hp).symm
  have hy := ren_is h ho
  have q := ren_RI hp ho
  have hb' : isOrd bk (ren x l).p := by rw [q.p]; exact hb
  have hz := ren_RI hy.1 hb'
  have e := is_mk h
  refine Eq.trans ?_ e.symm
  refine Made.to (g' := fun a b => (ren (ren x l) bk).e.get (eN a b)) (by omega) ⟨by rw [hz.p, q.p]; omega, by rw [hz.k, q.k], fun a b _ _ => rfl, fun e he h1 => hz.z e (by rw [Int.toNat_natCast] at he; rw [q.p]; exact he) h1⟩ fun a b hab hb2 => ?_
  have ho' := ho
  rw [hn] at ho'
  obtain ⟨u, eu, hu⟩ := ord_at ho' (show a < x.p.toNat by omega)
  obtain ⟨v, ev, hv⟩ := ord_at ho' hb2
  have huv : u ≠ v := fun e => by
    have := ord_ne ho' (show a < x.p.toNat by omega) hb2 (by rw [eu, ev, e])
    omega
  have h1 := ren_cc hy hb' (a := u) (b := v) (by rw [q.p]; omega) (by rw [q.p]; omega) huv
  have h2 := ren_cc h ho (a := a) (b := b) (by omega) (by omega) (by omega)
  have g1 := hlb a (by omega)
  have g2 := hlb b (by omega)
  rw [eu, Int.toNat_natCast] at g1
  rw [ev, Int.toNat_natCast] at g2
  rw [g1, g2] at h1
  rw [eu, ev] at h2
  rw [← h2, ← h1, cc_nat, tb]

def exC (x : Col) (q : List Int) : Col := mkC x.p.toNat x.k (fun a b => q.getD (x.cc a b).toNat 0)

theorem exC_is {x : Col} (h : x.is) {l : List Int} (ho : isOrd l x.k) : (exC x l).is := by
  have hp := h.1
  have hkk := h.2.1
  have hlen := ho.1
  refine mkC_is (by omega) (by omega) hkk _ fun a b hab hb => ?_
  have := is_cc h (a := a) (b := b) (by omega) (by omega) (by omega)
  exact ho.2.1 _ (by omega)

def mapL (m : Nat) (f : Nat → Int) : List Int := (List.range m).map f

theorem mapL_length (m : Nat) (f : Nat → Int) : (mapL m f).length = m := by simp [mapL]

theorem mapL_succ (m : Nat) (f : Nat → Int) : mapL (m + 1) f = mapL m f ++ [f m] := by simp [mapL, List.range_succ]

theorem mapL_get (m : Nat) (f : Nat → Int) (i : Nat) (h : i < m) : (mapL m f).getD i 0 = f i := by simp [mapL, List.getD, h]

/-- A loop that collects a list. -/
theorem collect (F : Nat → Int → List Int → Option (List Int)) (m : Nat) (f : Nat → Int) (hstep : ∀ (k' i : Nat) (s : List Int), i < m → s.length ≤ i → F (k' + 1) i s = F k' ((i + 1 : Nat) : Int) (s ++ [f i])) (hfin : ∀ (k' : Nat) (s : List Int), F (k' + 1) m s = some s) (k : Nat) (hk : m < k) : F k 0 [] = some (mapL m f) := by
  have key : ∀ (d i k : Nat), m - i = d → i ≤ m → d < k → F k i (mapL i f) = some (mapL m f) := by
    intro d
    induction d with
    | zero =>
      intro i k h1 h2 h3
      obtain ⟨k, rfl⟩ : ∃ q, k = q + 1 := ⟨k - 1, by omega⟩
      obtain rfl : i = m := by omega
      exact hfin k _
    | succ d ih =>
      intro i k h1 h2 h3
      obtain ⟨k, rfl⟩ : ∃ q, k = q + 1 := ⟨k - 1, by omega⟩
      rw [hstep k i _ (by omega) (by rw [mapL_length]; exact Nat.le_refl _), ← mapL_succ]
      exact ih (i + 1) k (by omega) (by omega) (by omega)
  exact key m 0 k (by omega) (by omega) hk

/-- All points of which something is so. -/
theorem that_val {k : Nat} (x : Col) (hp : 1 ≤ x.p ∧ x.p ≤ 17) (hk : 20 ≤ k) (so : Int → Option Bool) (S : Int → Bool) (hs : ∀ a : Nat, (a : Int) < x.p → so a = some (S a)) : impl_Colouring_that k x so = some ((ir 0 x.p.toNat).filter S) := by
  have snoc : ∀ j, ir 0 (j + 1) = ir 0 j ++ [(j : Int)] := fun j => by
    unfold ir
    rw [show j + 1 - 0 = j + 1 by omega, List.range'_concat]
    simp
  unfold impl_Colouring_that
  have := loopI (f := fun k' i (s : List Int) => impl_Colouring_that_l0 x so k' i s) x.p 0 (fun i s => i ≤ x.p ∧ s = (ir 0 i.toNat).filter S) (fun r => r = (ir 0 x.p.toNat).filter S) ?_ ?_ k 0 [] (by omega) (by omega) ⟨by omega, rfl⟩
  · obtain ⟨r, e, rfl⟩ := this
    rw [e]; rfl
  · intro k' i s h0 h1 ⟨_, q⟩
    left
    obtain ⟨m, rfl⟩ := nat_of h0
    refine ⟨_, ?_, by omega, rfl⟩
    show impl_Colouring_that_l0 x so (k' + 1) m s = _
    have e0 : ((m : Int) + 1).toNat = m + 1 := by omega
    simp only [Int.toNat_natCast] at q
    have hl : s.length ≤ m := by
      rw [q]
      exact Nat.le_trans (List.length_filter_le _ _) (by rw [ir_length]; omega)
    have hl' : s.length + ([(m : Int)]).length ≤ 1099511627776 := by simp; omega
    rw [impl_Colouring_that_l0, w64_succ h0 h1 (by omega), e0, hs m h1, snoc, List.filter_append, ← q]
    cases hS : S m with
    | true =>
      have : [(m : Int)].filter S = [(m : Int)] := by simp [hS]
      rw [this]
      simp only [h1, decide_true, if_true, Option.bind_some, if_pos hl']
    | false => simp [h1, hS]
  · intro k' i s h0 h1 ⟨q1, q2⟩
    have : i = x.p := by omega
    subst this
    refine ⟨s, ?_, q2⟩
    show impl_Colouring_that_l0 x so (k' + 1) x.p s = _
    rw [impl_Colouring_that_l0]; simp

def runT {α σ : Type} (cb : α → σ → Bool × σ) : List α → σ → Bool × σ
  | [], s => (true, s)
  | a :: t, s => if (cb a s).1 then runT cb t (cb a s).2 else (false, (cb a s).2)

theorem runT_app {α σ : Type} (cb : α → σ → Bool × σ) (B : List α) : ∀ (A : List α) (s : σ), runT cb (A ++ B) s = if (runT cb A s).1 then runT cb B (runT cb A s).2 else (false, (runT cb A s).2)
  | [], s => by simp [runT]
  | a :: t, s => by
    rw [List.cons_append, runT, runT]
    by_cases h : (cb a s).1 = true
    · rw [if_pos h, if_pos h, runT_app cb B t]
    · rw [if_neg h, if_neg h]; simp

theorem runT_nil {α σ : Type} (cb : α → σ → Bool × σ) (s : σ) : runT cb [] s = (true, s) := rfl

theorem runT_one {α σ : Type} (cb : α → σ → Bool × σ) (a : α) (s : σ) : runT cb [a] s = cb a s := by
  rw [runT]
  cases h : (cb a s).1 with
  | true => rw [if_pos rfl, runT_nil, ← h]
  | false => rw [if_neg (by simp), ← h]

theorem spl_one (cs : List Int) (n : Nat) (c : Int) (h : n < cs.length) : (splicedL cs (0 + n) ([c].length) [c]).length = cs.length ∧ (splicedL cs (0 + n) ([c].length) [c]).take (n + 1) = cs.take n ++ [c] := by
  constructor
  · rw [splicedL_length _ _ _ _ (by simp; omega)]
  · unfold splicedL
    rw [Nat.zero_add]
    rw [List.take_append_of_le_length (by simp; omega), List.take_of_length_le (by simp; omega)]
    simp

/-- What a list of extensions went through. -/
theorem exts_ok {K : Nat} {ok : List Int → Nat → Bool} : ∀ (n : Nat) (l e : List Int), e ∈ exts K ok n l → e.take l.length = l ∧ ∀ i, l.length ≤ i → i < e.length → ∃ c : Nat, c < K ∧ e.getD i 0 = (c : Int) ∧ ok (e.take i) c = true := by
  intro n
  induction n with
  | zero =>
    intro l e he
    rw [exts_zero] at he
    simp at he
    subst he
    exact ⟨by simp, fun i h1 h2 => by omega⟩
  | succ n ih =>
    intro l e he
    rw [exts] at he
    obtain ⟨c, hc0, hc⟩ := List.mem_flatMap.1 he
    have hcK := List.mem_range.1 hc0
    split at hc
    · rename_i hok
      obtain ⟨h1, h2⟩ := ih _ e hc
      have hlen : (l ++ [(c : Int)]).length = l.length + 1 := by simp
      rw [hlen] at h1 h2
      have ht : e.take l.length = l := by
        have e3 : (e.take (l.length + 1)).take l.length = (l ++ [(c : Int)]).take l.length := by rw [h1]
        rw [List.take_take, show min l.length (l.length + 1) = l.length by omega] at e3
        rw [e3]; simp
      refine ⟨ht, fun i hi1 hi2 => ?_⟩
      by_cases hi : i = l.length
      · subst hi
        refine ⟨c, hcK, ?_, by rw [ht]; exact hok⟩
        have e3 : (e.take (l.length + 1)).getD l.length 0 = (l ++ [(c : Int)]).getD l.length 0 := by rw [h1]
        have e4 : (e.take (l.length + 1)).getD l.length 0 = e.getD l.length 0 := by simp [List.getD, List.getElem?_take]
        rw [← e4, e3]
        simp [List.getD]
      · exact h2 i (by omega) hi2
    · simp at hc

theorem ir_pair {m : Nat} : (ir 0 m).Pairwise (· < ·) := ir_pw 0 m

theorem mem_exts {K : Nat} {ok : List Int → Nat → Bool} : ∀ (n : Nat) (l e : List Int), e.length = l.length + n → e.take l.length = l → (∀ i, l.length ≤ i → i < e.length → ∃ c : Nat, c < K ∧ e.getD i 0 = (c : Int) ∧ ok (e.take i) c = true) → e ∈ exts K ok n l
  | 0, l, e, h1, h2, _ => by
    rw [exts_zero, List.mem_singleton]
    rw [List.take_of_length_le (by omega)] at h2
    exact h2
  | n + 1, l, e, h1, h2, h3 => by
    obtain ⟨c, c1, c2, c3⟩ := h3 l.length (Nat.le_refl _) (by omega)
    rw [exts]
    refine List.mem_flatMap.2 ⟨c, List.mem_range.2 c1, ?_⟩
    rw [h2] at c3
    rw [c3, if_pos rfl]
    have hlt : l.length < e.length := by omega
    have ht : e.take (l.length + 1) = l ++ [(c : Int)] := by
      rw [List.take_succ_eq_append_getElem hlt, h2]
      have : e[l.length] = (c : Int) := by rw [← c2]; simp [List.getD, hlt]
      rw [this]
    refine mem_exts n _ e (by simp; omega) (by simpa using ht) fun i hi hi2 => h3 i (by simp at hi; omega) hi2

end Go.Proofs.YtfnbhfobgimnjaaGreat
