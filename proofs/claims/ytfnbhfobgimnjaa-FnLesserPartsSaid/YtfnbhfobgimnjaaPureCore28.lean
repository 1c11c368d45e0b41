/- Plain laws, collected out of own texts. No conditions beyond those that each lemma states. -/
import Derived.Test.YtfnbhfobgimnjaaPKit
import Derived.Test.YtfnbhfobgimnjaaPBits
import Derived.Test.YtfnbhfobgimnjaaClq
import Derived.Test.YtfnbhfobgimnjaaClqB
import Derived.Test.YtfnbhfobgimnjaaPureFirst
import Derived.Test.YtfnbhfobgimnjaaGen28
set_option linter.unusedVariables false
set_option linter.unusedSimpArgs false
namespace Go.Proofs.Ytfnbhfobgimnjaa
open Go Go.RowKit Ab

theorem in_eq (a b c : Int) : impl_in a b c = decide (b ≤ a ∧ a ≤ c) := by
  unfold impl_in letO
  by_cases h : b ≤ a <;> by_cases h' : a ≤ c <;> simp [h, h']

theorem specIn_eq (a b c : Int) : spec_l01In a b c = decide (b ≤ a ∧ a ≤ c) := by
  unfold spec_l01In letO
  by_cases h : b ≤ a <;> by_cases h' : a ≤ c <;> simp [h, h']

def tE (x : Col) : Int := w64 ((w64 (x.p * (w64 (x.p - 1)))).tdiv 2)

def okE (x : Col) (j : Int) : Prop := (j < tE x → ((x.get j.toNat).toNat : Int) < x.k) ∧ (tE x ≤ j → ((x.get j.toNat).toNat : Int) = 0)

/-- Numbers in range, colours in range on the edges, zero behind them. -/
def Col.is (x : Col) : Prop := (1 ≤ x.p ∧ x.p ≤ 17) ∧ (1 ≤ x.k ∧ x.k ≤ 4) ∧ ∀ j, 0 ≤ j → j < 136 → okE x j

open Classical in
theorem specIs_eq (k : Nat) (h : 137 ≤ k) (x : Col) : spec_l01Is k x = some (decide x.is) := by
  unfold spec_l01Is
  rw [specIn_eq, specIn_eq]
  by_cases hp : 1 ≤ x.p ∧ x.p ≤ 17
  · by_cases hk : 1 ≤ x.k ∧ x.k ≤ 4
    · have := loopAll (f := fun k' i => spec_l01Is_l0 k x k' i) 136 false (okE x) 0
        (fun k' i h0 h1 hq => by
          show spec_l01Is_l0 k x (k' + 1) i = _
          rw [spec_l01Is_l0, w64_succ h0 h1 (by omega)]
          obtain ⟨q1, q2⟩ := hq
          change (i < tE x → _) at q1
          by_cases hc : i < tE x
          · have e1 := q1 hc
            have e2 : ¬ tE x ≤ i := by omega
            have e3 : ¬ x.k ≤ ((x.get i.toNat).toNat : Int) := by omega
            unfold tE at hc e2
            simp [h0, h1, hc, e2, e3]
          · have e1 := q2 (by omega)
            have e2 : tE x ≤ i := by omega
            unfold tE at hc e2
            simp [h0, h1, hc, e2, e1])
        (fun k' i h0 h1 hq => by
          show spec_l01Is_l0 k x (k' + 1) i = _
          rw [spec_l01Is_l0]
          by_cases hc : i < tE x
          · have e2 : ¬ tE x ≤ i := by omega
            have e3 : x.k ≤ ((x.get i.toNat).toNat : Int) := by
              apply Int.not_lt.1
              intro e; exact hq ⟨fun _ => e, fun h => (e2 h).elim⟩
            unfold tE at hc e2
            simp [h0, h1, hc, e2, e3]
          · have e2 : tE x ≤ i := by omega
            have e3 : ¬ ((x.get i.toNat).toNat : Int) = 0 := by
              intro e; exact hq ⟨fun h => (hc h).elim, fun _ => e⟩
            unfold tE at hc e2
            have e5 : ¬ (x.get i.toNat).toNat = 0 := by omega
            simp [h0, h1, hc, e2, e5])
        (fun k' i h1 => by
          show spec_l01Is_l0 k x (k' + 1) i = _
          rw [spec_l01Is_l0]
          have : ¬ i < 136 := by omega
          simp [this]) k 0 (by omega) (by omega)
      simp only [hp, hk, decide_true, Bool.not_true, Bool.false_eq_true, if_false, letO, and_self]
      rw [this]
      by_cases ha : ∀ j, 0 ≤ j → j < 136 → okE x j
      · have : x.is := ⟨hp, hk, ha⟩
        rw [if_pos ha]; simp [this]
      · have : ¬ x.is := fun h => ha h.2.2
        simp only [if_neg ha, this]
        simp
    · have : ¬ x.is := fun h => hk h.2.1
      simp [hp, hk, letO, this]
  · have : ¬ x.is := fun h => hp h.1
    simp [hp, letO, this]

open Classical in
theorem isColouring_eq (k : Nat) (h : 137 ≤ k) (x : Col) : impl_Colouring_isColouring k x = some (decide x.is) := by
  unfold impl_Colouring_isColouring
  rw [in_eq, in_eq]
  by_cases hp : 1 ≤ x.p ∧ x.p ≤ 17
  · by_cases hk : 1 ≤ x.k ∧ x.k ≤ 4
    · have := loopAll (f := fun k' i => impl_Colouring_isColouring_l0 k x k' i) 136 false (okE x) 0
        (fun k' i h0 h1 hq => by
          show impl_Colouring_isColouring_l0 k x (k' + 1) i = _
          rw [impl_Colouring_isColouring_l0, w64_succ h0 h1 (by omega)]
          obtain ⟨q1, q2⟩ := hq
          change (i < tE x → ((x.e.get i.toNat).toNat : Int) < x.k) at q1
          change (tE x ≤ i → ((x.e.get i.toNat).toNat : Int) = 0) at q2
          change (if _ then _ else _) = _
          have hE : impl_Colouring_edges x = tE x := rfl
          by_cases hc : i < tE x
          · have e1 := q1 hc
            have e2 : ¬ tE x ≤ i := by omega
            have e3 : ¬ x.k ≤ ((x.e.get i.toNat).toNat : Int) := by omega
            simp [h0, h1, hc, e2, e3, hE, letO]
          · have e1 := q2 (by omega)
            have e2 : tE x ≤ i := by omega
            have e3 : ¬ x.k ≤ ((x.e.get i.toNat).toNat : Int) := by omega
            rw [e1] at e3
            simp [h0, h1, hc, e2, e1, e3, hE, letO])
        (fun k' i h0 h1 hq => by
          show impl_Colouring_isColouring_l0 k x (k' + 1) i = _
          rw [impl_Colouring_isColouring_l0]
          have hE : impl_Colouring_edges x = tE x := rfl
          by_cases e3 : x.k ≤ ((x.e.get i.toNat).toNat : Int)
          · simp [h0, h1, e3, letO]
          · have e2 : tE x ≤ i := by
              apply Int.not_lt.1
              intro hc; exact hq ⟨fun _ => by change ((x.e.get i.toNat).toNat : Int) < x.k; omega, fun h => by omega⟩
            have e4 : ¬ ((x.e.get i.toNat).toNat : Int) = 0 := by
              intro e; exact hq ⟨fun h => by omega, fun _ => e⟩
            have e5 : ¬ (x.e.get i.toNat).toNat = 0 := by omega
            simp [h0, h1, e2, e3, e5, hE, letO])
        (fun k' i h1 => by
          show impl_Colouring_isColouring_l0 k x (k' + 1) i = _
          rw [impl_Colouring_isColouring_l0]
          have : ¬ i < 136 := by omega
          simp [this]) k 0 (by omega) (by omega)
      simp only [hp, hk, decide_true, Bool.not_true, Bool.false_eq_true, if_false, letO, and_self]
      rw [this]
      by_cases ha : ∀ j, 0 ≤ j → j < 136 → okE x j
      · have : x.is := ⟨hp, hk, ha⟩
        rw [if_pos ha]; simp [this]
      · have : ¬ x.is := fun h => ha h.2.2
        simp only [if_neg ha, this]
        simp
    · have : ¬ x.is := fun h => hk h.2.1
      simp [hp, hk, letO, this]
  · have : ¬ x.is := fun h => hp h.1
    simp [hp, letO, this]

theorem number_eq (i j : Int) (hi : 0 ≤ i ∧ i < 17) (hj : 0 ≤ j ∧ j < 17) : impl_number i j = (eN i.toNat j.toNat : Int) := by
  have : ∀ i, i < 17 → ∀ j, j < 17 → impl_number (i : Nat) (j : Nat) = (eN i j : Int) := by decide +kernel
  have h := this i.toNat (by omega) j.toNat (by omega)
  rwa [Int.toNat_of_nonneg hi.1, Int.toNat_of_nonneg hj.1] at h

theorem edge_eq (i j : Int) (hi : 0 ≤ i ∧ i < 17) (hj : 0 ≤ j ∧ j < 17) : spec_l01Edge i j = (eN i.toNat j.toNat : Int) := by
  have : ∀ i, i < 17 → ∀ j, j < 17 → spec_l01Edge (i : Nat) (j : Nat) = (eN i j : Int) := by decide +kernel
  have h := this i.toNat (by omega) j.toNat (by omega)
  rwa [Int.toNat_of_nonneg hi.1, Int.toNat_of_nonneg hj.1] at h

def Col.cc (x : Col) (i j : Int) : Int := ((x.e.get (eN i.toNat j.toNat)).toNat : Int)

theorem specAt_eq (x : Col) (i j : Int) (h0 : 0 ≤ i) (h : i < j) (hj : 0 ≤ j) (hj' : j < 17) : spec_l01At x i j = some (x.cc i j) := by
  unfold spec_l01At
  rw [edge_eq i j (by omega) (by omega)]
  have := eN_136 (i := i.toNat) (j := j.toNat) (by omega) (by omega) (by omega)
  rw [if_pos (by omega)]
  rfl

theorem implAt_eq (x : Col) (i j : Int) (h0 : 0 ≤ i) (h : i < j) (hj : 0 ≤ j) (hj' : j < 17) : impl_Colouring_at x i j = some (x.cc i j) := by
  unfold impl_Colouring_at
  rw [number_eq i j (by omega) (by omega)]
  have := eN_136 (i := i.toNat) (j := j.toNat) (by omega) (by omega) (by omega)
  rw [if_pos (by omega)]
  rfl

theorem getD_app' {α : Type} (l m : List α) (d : α) (i : Nat) (h : l.length ≤ i) : (l ++ m).getD i d = m.getD (i - l.length) d := by
  simp only [List.getD]; rw [List.getElem?_append_right h]

theorem implAt_ne (x : Col) (i j : Int) (h0 : 0 ≤ i) (h1 : i < 17) (hj : 0 ≤ j) (hj' : j < 17) (h : i ≠ j) : impl_Colouring_at x i j = some (x.cc i j) := by
  unfold impl_Colouring_at
  rw [number_eq i j (by omega) (by omega)]
  have := eN_136 (i := i.toNat) (j := j.toNat) (by omega) (by omega) (by omega)
  rw [if_pos (by omega)]
  rfl

theorem specAt_ne (x : Col) (i j : Int) (h0 : 0 ≤ i) (h1 : i < 17) (hj : 0 ≤ j) (hj' : j < 17) (h : i ≠ j) : spec_l01At x i j = some (x.cc i j) := by
  unfold spec_l01At
  rw [edge_eq i j ⟨h0, h1⟩ ⟨hj, hj'⟩]
  have := eN_136 (i := i.toNat) (j := j.toNat) (by omega) (by omega) (by omega)
  rw [if_pos ⟨by omega, by omega⟩]
  rfl

theorem like_refl (k : Nat) (l : List Int) (hk : l.length + 1 ≤ k) (hl : (l.length : Int) ≤ 1099511627776) : laws_likeInts k l l = some true := by
  unfold laws_likeInts
  have := loopAll (f := fun k' i => laws_likeInts_l0 l l k' i) (l.length : Int) false (fun _ => True) 0
    (fun k' i h0 h1 _ => by
      show laws_likeInts_l0 l l (k' + 1) i = _
      rw [laws_likeInts_l0, w64_succ h0 h1 (by omega)]
      simp [h0, h1])
    (fun k' i h0 h1 hq => (hq trivial).elim)
    (fun k' i h1 => by
      show laws_likeInts_l0 l l (k' + 1) i = _
      rw [laws_likeInts_l0]
      have : ¬ i < (l.length : Int) := by omega
      simp [this]) k 0 (by omega) (by omega)
  rw [this]; simp

def bitsN (P : Nat → Bool) : Nat → Nat
  | 0 => 0
  | n + 1 => if P n then bitsN P n ||| 2 ^ n else bitsN P n

theorem bitsN_test (P : Nat → Bool) (n j : Nat) : (bitsN P n).testBit j = (decide (j < n) && P j) := by
  induction n with
  | zero => simp [bitsN]
  | succ n ih =>
    unfold bitsN
    by_cases h : P n
    · rw [if_pos h, add_bit, ih]
      by_cases e : n = j
      · subst e; simp [h]
      · have : decide (j < n + 1) = decide (j < n) := by simp; omega
        simp [e, this]
    · rw [if_neg h, ih]
      by_cases e : n = j
      · subst e; simp [h]
      · have : decide (j < n + 1) = decide (j < n) := by simp; omega
        rw [this]

theorem bitsN_lt (P : Nat → Bool) (n : Nat) : bitsN P n < 2 ^ n := bits_lt fun i h => by
  rw [bitsN_test]
  have : ¬ i < n := by omega
  simp [this]

theorem lt17 {s n : Nat} (h : s < 2 ^ n) (hn : n ≤ 17) : s < 2 ^ 17 := Nat.lt_of_lt_of_le h (Nat.pow_le_pow_right (by omega) hn)

theorem lt63 {s : Nat} (h : s < 2 ^ 17) : s < 2 ^ 63 := Nat.lt_of_lt_of_le h (by decide)

theorem mem_getD {l : List Int} {x : Int} : x ∈ l ↔ ∃ a, a < l.length ∧ l.getD a 0 = x := by
  constructor
  · intro h
    obtain ⟨a, ha, e⟩ := List.getElem_of_mem h
    exact ⟨a, ha, by simp [List.getD, ha, e]⟩
  · rintro ⟨a, ha, rfl⟩
    simp [List.getD, ha]

theorem indexF_eq (l : List Int) (f : Int → Option Bool) (g : Int → Bool) (hf : ∀ z ∈ l, f z = some (g z)) (hl : (l.length : Int) ≤ 1099511627776) : ∀ (d k : Nat) (i : Nat), i + d = l.length → d < k →
    ∃ r : Sum Unit Int, slices_IndexFunc_l0 l f k i = some r ∧ ((∃ z : Int, r = .inr z ∧ 0 ≤ z ∧ (l.drop i).any g = true) ∨ (r = .inl () ∧ (l.drop i).any g = false)) := by
  intro d
  induction d with
  | zero =>
    intro k i h hk
    obtain ⟨k, rfl⟩ : ∃ k', k = k' + 1 := ⟨k - 1, by omega⟩
    have : ¬ (i : Int) < (l.length : Int) := by omega
    exact ⟨.inl (), by rw [slices_IndexFunc_l0]; simp [this], .inr ⟨rfl, by rw [List.drop_of_length_le (by omega)]; rfl⟩⟩
  | succ d ih =>
    intro k i h hk
    obtain ⟨k, rfl⟩ : ∃ k', k = k' + 1 := ⟨k - 1, by omega⟩
    have hi : i < l.length := by omega
    have h1 : (i : Int) < (l.length : Int) := by omega
    have hd := List.drop_eq_getElem_cons hi
    have hg : l.getD i 0 = l[i] := by simp [List.getD, hi]
    have hmem : l[i] ∈ l := List.getElem_mem hi
    rw [slices_IndexFunc_l0, if_pos (decide_eq_true h1), if_pos ⟨by omega, h1⟩, Int.toNat_natCast, hg, hf _ hmem, w64_succ (by omega) h1 (by omega)]
    simp only [Option.bind_some]
    rw [hd]
    cases hz : g l[i] with
    | true =>
      refine ⟨.inr i, by simp, .inl ⟨i, rfl, by omega, by rw [List.any_cons, hz]; rfl⟩⟩
    | false =>
      obtain ⟨r, e, hr⟩ := ih k (i + 1) (by omega) (by omega)
      rw [show ((i : Int) + 1) = ((i + 1 : Nat) : Int) by omega, e]
      refine ⟨r, by simp, ?_⟩
      rw [List.any_cons, hz, Bool.false_or]
      exact hr

theorem containsF_eq (k : Nat) (l : List Int) (f : Int → Option Bool) (g : Int → Bool) (hf : ∀ z ∈ l, f z = some (g z)) (hk : l.length + 1 ≤ k) (hl : (l.length : Int) ≤ 1099511627776) : slices_ContainsFunc k l f = some (l.any g) := by
  unfold slices_ContainsFunc slices_IndexFunc
  obtain ⟨r, e, hr⟩ := indexF_eq l f g hf hl l.length k 0 (by omega) (by omega)
  rw [show ((0 : Nat) : Int) = 0 from rfl] at e
  rw [e]
  simp only [Option.bind_some, List.drop_zero] at hr ⊢
  rcases hr with ⟨z, rfl, h0, h1⟩ | ⟨rfl, h1⟩
  · simp [h0, h1]
  · simp [h1]

theorem code_cases {k : Nat} (hk : 5000 ≤ k) (x : Col) : (x.is → impl_Colouring_code k x (some true) = some 0 ∧ impl_Colouring_code k x (some false) = some 2) ∧ (¬ x.is → ∀ b, impl_Colouring_code k x (some b) = some 1) := by
  unfold impl_Colouring_code
  rw [isColouring_eq k (by omega)]
  constructor
  · intro h; simp [h]
  · intro h b; simp [h]

def adj (x : Col) (c : Int) (a b : Nat) : Prop := (a : Int) < x.p ∧ (b : Int) < x.p ∧ a ≠ b ∧ x.cc a b = c
instance (x : Col) (c : Int) (a b : Nat) : Decidable (adj x c a b) := by unfold adj; exact inferInstance

theorem pw_ext : ∀ (l m : List Int), l.Pairwise (· < ·) → m.Pairwise (· < ·) → (∀ x, x ∈ l ↔ x ∈ m) → l = m
  | [], [], _, _, _ => rfl
  | [], b :: m, _, _, h => by have := (h b).2 (by simp); simp at this
  | a :: l, [], _, _, h => by have := (h a).1 (by simp); simp at this
  | a :: l, b :: m, hl, hm, h => by
    have hl' := List.pairwise_cons.1 hl
    have hm' := List.pairwise_cons.1 hm
    have e : a = b := by
      rcases List.mem_cons.1 ((h a).1 (by simp)) with e | e
      · exact e
      · rcases List.mem_cons.1 ((h b).2 (by simp)) with e' | e'
        · exact e'.symm
        · have := hl'.1 b e'; have := hm'.1 a e; omega
    subst e
    rw [pw_ext l m hl'.2 hm'.2 (fun x => by
      constructor
      · intro hx
        rcases List.mem_cons.1 ((h x).1 (by simp [hx])) with e | e
        · subst e; have := hl'.1 x hx; omega
        · exact e
      · intro hx
        rcases List.mem_cons.1 ((h x).2 (by simp [hx])) with e | e
        · subst e; have := hm'.1 x hx; omega
        · exact e)]

theorem sorted_lt {l : List Int} (h : l.Nodup) : (sorted l).Pairwise (· < ·) := by
  have h1 : (sorted l).Pairwise (· ≤ ·) := by
    unfold sorted
    have := List.pairwise_mergeSort (le := fun x y : Int => decide (x ≤ y)) (fun a b c h1 h2 => by simp at *; omega) (fun a b => by simp; omega) l
    exact this.imp fun h => by simpa using h
  have h2 : (sorted l).Nodup := by unfold sorted; exact (List.mergeSort_perm l _).nodup_iff.2 h
  have := List.Pairwise.and h1 h2
  exact this.imp fun ⟨a, b⟩ => by omega

/-- Numbers 0, .., n - 1 for which something holds. -/
def pick (n : Nat) (P : Nat → Bool) : List Int := ((List.range n).filter P).map Int.ofNat

theorem pick_succ (n : Nat) (P : Nat → Bool) : pick (n + 1) P = pick n P ++ (if P n then [(n : Int)] else []) := by
  unfold pick
  rw [List.range_succ, List.filter_append, List.map_append]
  by_cases h : P n <;> simp [h]

theorem pick_mem {n : Nat} {P : Nat → Bool} {z : Int} : z ∈ pick n P ↔ ∃ v : Nat, z = v ∧ v < n ∧ P v = true := by
  unfold pick
  simp only [List.mem_map, List.mem_filter, List.mem_range]
  constructor
  · rintro ⟨v, ⟨h1, h2⟩, rfl⟩; exact ⟨v, rfl, h1, h2⟩
  · rintro ⟨v, rfl, h1, h2⟩; exact ⟨v, ⟨h1, h2⟩, rfl⟩

theorem pick_pw (n : Nat) (P : Nat → Bool) : (pick n P).Pairwise (· < ·) := by
  unfold pick
  rw [List.pairwise_map]
  exact (List.Pairwise.filter _ List.pairwise_lt_range).imp fun h => by simpa using h

theorem pick_length (n : Nat) (P : Nat → Bool) : (pick n P).length ≤ n := by
  unfold pick
  rw [List.length_map]
  exact Nat.le_trans (List.length_filter_le _ _) (by simp)

/-- Different numbers below n are at most n. -/
theorem nodup_len (n : Nat) (l : List Int) (h : l.Nodup) (hl : ∀ z ∈ l, 0 ≤ z ∧ z < n) : l.length ≤ n := by
  have h1 : sorted l = pick n (fun v => decide ((v : Int) ∈ l)) := pw_ext _ _ (sorted_lt h) (pick_pw _ _) (fun z => by
    unfold sorted
    rw [(List.mergeSort_perm l _).mem_iff, pick_mem]
    constructor
    · intro hz; have := hl z hz; exact ⟨z.toNat, by omega, by omega, by rw [decide_eq_true_eq, Int.toNat_of_nonneg this.1]; exact hz⟩
    · rintro ⟨v, rfl, _, h⟩; simpa using h)
  have h2 : (sorted l).length = l.length := by simp [sorted]
  rw [← h2, h1]
  exact pick_length _ _

theorem that_eq (k : Nat) (x : Col) (hx : 1 ≤ x.p ∧ x.p ≤ 17) (hk : 18 ≤ k) (f : Int → Option Bool) (g : Nat → Bool) (hf : ∀ j : Nat, (j : Int) < x.p → f j = some (g j)) : impl_Colouring_that k x f = some (pick x.p.toNat g) := by
  unfold impl_Colouring_that
  have := loopI (f := fun k i (s : List Int) => impl_Colouring_that_l0 x f k i s) x.p 0 (fun i s => i ≤ x.p ∧ s = pick i.toNat g) (fun r => r = pick x.p.toNat g) ?_ ?_ k 0 [] (by omega) (by omega) ⟨by omega, rfl⟩
  · obtain ⟨r, e, rfl⟩ := this
    rw [e]; rfl
  · intro k i s h0 h1 ⟨_, q⟩
    left
    obtain ⟨m, rfl⟩ := nat_of h0
    refine ⟨pick (m + 1) g, ?_, by omega, by rw [show ((m : Int) + 1).toNat = m + 1 by omega]⟩
    show impl_Colouring_that_l0 x f (k + 1) m s = _
    rw [impl_Colouring_that_l0, hf m h1, w64_succ h0 h1 (by omega), q, pick_succ]
    have hl := pick_length m g
    simp only [Int.toNat_natCast, h1, decide_true, if_true, Option.bind_some]
    by_cases hg : g m
    · have : (pick m g).length + 1 ≤ 1099511627776 := by omega
      simp [hg, this]
    · simp [hg]
  · intro k i s h0 h1 ⟨q1, q2⟩
    have : i = x.p := by omega
    subst this
    refine ⟨s, ?_, q2⟩
    show impl_Colouring_that_l0 x f (k + 1) x.p s = _
    rw [impl_Colouring_that_l0]; simp

theorem at_ne (x : Col) (i j : Int) (h0 : 0 ≤ i) (h1 : i < 17) (hj : 0 ≤ j) (hj' : j < 17) (h : i ≠ j) : impl_Colouring_at x i j = some (x.cc i j) := by
  unfold impl_Colouring_at
  rw [number_eq i j ⟨h0, h1⟩ ⟨hj, hj'⟩]
  have := eN_136 (i := i.toNat) (j := j.toNat) (by omega) (by omega) (by omega)
  rw [if_pos ⟨by omega, by omega⟩]
  rfl

theorem getD_set_self {l : List Int} {i : Nat} {v : Int} (h : i < l.length) : (l.set i v).getD i 0 = v := by
  simp [List.getD, h]

theorem getD_set_ne {l : List Int} {i j : Nat} {v : Int} (h : i ≠ j) : (l.set i v).getD j 0 = l.getD j 0 := by
  simp only [List.getD, List.getElem?_set_ne h]

theorem getD_mem {l : List Int} {i : Nat} (h : i < l.length) : l.getD i 0 ∈ l := by
  simp [List.getD, h]

theorem around_eq (k : Nat) (x : Col) (hx : 1 ≤ x.p ∧ x.p ≤ 17) (hk : 20 ≤ k) (c : Int) (i : Nat) (hi : (i : Int) < x.p) : spec_l01Around k x i c = some ((bitsN (fun j => decide (adj x c i j)) x.p.toNat : Nat) : Int) := by
  unfold spec_l01Around
  have := loopI (f := fun k t (s : Int) => spec_l01Around_l0 x i c k s t) x.p 0 (fun t s => t ≤ x.p ∧ s = ((bitsN (fun j => decide (adj x c i j)) t.toNat : Nat) : Int)) (fun r => r = ((bitsN (fun j => decide (adj x c i j)) x.p.toNat : Nat) : Int)) ?_ ?_ k 0 0 (by omega) (by omega) ⟨by omega, rfl⟩
  · obtain ⟨r, e, rfl⟩ := this
    rw [e]; rfl
  · intro k t s h0 h1 ⟨_, q⟩
    left
    obtain ⟨m, rfl⟩ := nat_of h0
    refine ⟨_, ?_, by omega, rfl⟩
    show spec_l01Around_l0 x i c (k + 1) s m = _
    have e0 : ((m : Int) + 1).toNat = m + 1 := by omega
    rw [spec_l01Around_l0, w64_succ h0 h1 (by omega), e0, u64_id (by omega)]
    simp only [Int.toNat_natCast] at q
    have hb := lt63 (lt17 (bitsN_lt (fun j => decide (adj x c i j)) m) (by omega))
    have hor := bOr_nat (a := bitsN (fun j => decide (adj x c i j)) m) (b := 2 ^ m) hb (Nat.pow_lt_pow_right (by omega) (by omega))
    simp only [h1, decide_true, if_true]
    by_cases e : m = i
    · subst e
      have : ¬ adj x c m m := fun h => h.2.2.1 rfl
      simp [this, bitsN, q]
    · have e' : ¬ (m : Int) = i := by omega
      rw [specAt_ne x i m (by omega) (by omega) (by omega) (by omega) (by omega)]
      have ha : adj x c i m ↔ x.cc i m = c := ⟨fun h => h.2.2.2, fun h => ⟨hi, h1, by omega, h⟩⟩
      by_cases h : x.cc i m = c
      · have ha' : adj x c i m := ha.2 h
        simp only [e', h, decide_false, Bool.not_false, if_true, Option.bind_some, decide_true, h0, q]
        rw [bShl_one (by omega), hor]
        simp [bitsN, ha']
      · have ha' : ¬ adj x c i m := fun h' => h (ha.1 h')
        simp [e', h, bitsN, ha', q]
  · intro k t s h0 h1 ⟨q1, q2⟩
    have : t = x.p := by omega
    subst this
    refine ⟨s, ?_, q2⟩
    show spec_l01Around_l0 x i c (k + 1) s x.p = _
    rw [spec_l01Around_l0]; simp

abbrev li (l : List Int) (i : Int) : Int := l.getD i.toNat 0

def inP (x : Col) (l : List Int) : Prop := ∀ i : Int, 0 ≤ i → i < l.length → 0 ≤ li l i ∧ li l i ≤ x.p - 1

def inc (l : List Int) : Prop := ∀ i : Int, 1 ≤ i → i < l.length → li l (i - 1) < li l i

open Classical in
theorem specAll_eq (k : Nat) (l : List Int) (p : Int) (hk : l.length + 1 ≤ k) (hl : (l.length : Int) ≤ 1099511627776) (hp : -9223372036854775808 ≤ p - 1 ∧ p - 1 < 9223372036854775808) : spec_l01All k l p = some (decide (∀ i : Int, 0 ≤ i → i < l.length → 0 ≤ li l i ∧ li l i ≤ p - 1)) := by
  unfold spec_l01All
  rw [loopAll (f := fun k' i => spec_l01All_l0 l p k' i) (l.length : Int) false (fun i => 0 ≤ li l i ∧ li l i ≤ p - 1) 0 ?_ ?_ ?_ k 0 (by omega) (by omega)]
  · by_cases h : ∀ i : Int, 0 ≤ i → i < l.length → 0 ≤ li l i ∧ li l i ≤ p - 1
    · rw [if_pos h]; simp only [Option.bind_some]; rw [decide_eq_true h]
    · rw [if_neg h]; simp only [Option.bind_some]; rw [decide_eq_false h]
  · intro k' i h0 h1 hq
    show spec_l01All_l0 l p (k' + 1) i = _
    rw [spec_l01All_l0, w64_succ h0 h1 (by omega), specIn_eq, w64_id hp]
    simp only [h0, h1, and_self, if_true, decide_true]
    rw [decide_eq_true (show 0 ≤ l.getD i.toNat 0 ∧ l.getD i.toNat 0 ≤ p - 1 from hq)]; simp
  · intro k' i h0 h1 hq
    show spec_l01All_l0 l p (k' + 1) i = _
    rw [spec_l01All_l0, specIn_eq, w64_id hp]
    simp only [h0, h1, and_self, if_true, decide_true]
    rw [decide_eq_false (show ¬ (0 ≤ l.getD i.toNat 0 ∧ l.getD i.toNat 0 ≤ p - 1) from hq)]; simp
  · intro k' i h1
    show spec_l01All_l0 l p (k' + 1) i = _
    rw [spec_l01All_l0]
    have : ¬ i < (l.length : Int) := by omega
    simp [this]

/-- What the reference answers to a colouring, a colour and numbers of points. -/
theorem specGiven_eq (k : Nat) (x : Col) (c : Int) (l : List Int) (hk : l.length + 137 ≤ k) (hl : (l.length : Int) ≤ 1099511627776) [Decidable x.is] [Decidable ((0 ≤ c ∧ c ≤ x.k - 1) ∧ inP x l)] :
    spec_l01Given k x c l = some (if x.is then (if (0 ≤ c ∧ c ≤ x.k - 1) ∧ inP x l then 0 else 2) else 1) := by
  classical
  unfold spec_l01Given
  rw [specIs_eq k (by omega)]
  by_cases h : x.is
  · have hp := h.1; have hkk := h.2.1
    rw [specAll_eq k l x.p (by omega) hl (by omega), specIn_eq, w64_id (by omega)]
    by_cases hc : 0 ≤ c ∧ c ≤ x.k - 1
    · by_cases hi : inP x l
      · have e : decide (∀ i : Int, 0 ≤ i → i < l.length → 0 ≤ li l i ∧ li l i ≤ x.p - 1) = true := decide_eq_true hi
        rw [e]; simp [h, hc, hi]
      · have e : decide (∀ i : Int, 0 ≤ i → i < l.length → 0 ≤ li l i ∧ li l i ≤ x.p - 1) = false := decide_eq_false hi
        rw [e]; simp [h, hc, hi]
    · simp [h, hc]
  · simp [h]

open Classical in
theorem specSet_eq (k : Nat) (x : Col) (l : List Int) (hk : l.length + 137 ≤ k) (hl : (l.length : Int) ≤ 1099511627776) :
    spec_l01Set k x l = some (if x.is then (if inP x l ∧ inc l then 0 else 2) else 1) := by
  unfold spec_l01Set
  rw [specGiven_eq k x 0 l hk hl]
  by_cases h : x.is
  · have hkk := h.2.1
    by_cases hi : inP x l
    · have hg : (0 ≤ (0 : Int) ∧ (0 : Int) ≤ x.k - 1) ∧ inP x l := ⟨by omega, hi⟩
      simp only [if_pos h, if_pos hg]
      simp only [Option.bind_some, decide_true, Bool.not_true, Bool.false_eq_true, if_false]
      rw [loopAll (f := fun k' i => spec_l01Set_l0 l k' i) (l.length : Int) 2 (fun i => li l (i - 1) < li l i) 1 ?_ ?_ ?_ k 1 (by omega) (by omega)]
      · by_cases hq : inc l
        · have : inP x l ∧ inc l := ⟨hi, hq⟩
          rw [if_pos (show ∀ j : Int, 1 ≤ j → j < l.length → li l (j - 1) < li l j from hq), if_pos this]; rfl
        · have : ¬ (inP x l ∧ inc l) := fun h => hq h.2
          rw [if_neg (show ¬ ∀ j : Int, 1 ≤ j → j < l.length → li l (j - 1) < li l j from hq), if_neg this]; rfl
      · intro k' i h0 h1 hq
        show spec_l01Set_l0 l (k' + 1) i = _
        rw [spec_l01Set_l0, w64_succ (by omega) h1 (by omega), w64_id (by omega)]
        have e : ¬ l.getD i.toNat 0 ≤ l.getD (i - 1).toNat 0 := Int.not_le.2 hq
        simp only [h1, decide_true, if_true, e, decide_false, Bool.false_eq_true, if_false]
        rw [if_pos (show 0 ≤ i ∧ True from ⟨by omega, trivial⟩), if_pos (show 0 ≤ i - 1 ∧ i - 1 < (l.length : Int) by omega)]
      · intro k' i h0 h1 hq
        show spec_l01Set_l0 l (k' + 1) i = _
        rw [spec_l01Set_l0, w64_id (by omega)]
        have e : l.getD i.toNat 0 ≤ l.getD (i - 1).toNat 0 := Int.not_lt.1 hq
        simp only [h1, decide_true, if_true, e]
        rw [if_pos (show 0 ≤ i ∧ True from ⟨by omega, trivial⟩), if_pos (show 0 ≤ i - 1 ∧ i - 1 < (l.length : Int) by omega)]
      · intro k' i h1
        show spec_l01Set_l0 l (k' + 1) i = _
        rw [spec_l01Set_l0]
        have : ¬ i < (l.length : Int) := by omega
        simp [this]
    · have hg : ¬ ((0 ≤ (0 : Int) ∧ (0 : Int) ≤ x.k - 1) ∧ inP x l) := fun h => hi h.2
      have : ¬ (inP x l ∧ inc l) := fun h => hi h.1
      simp only [if_pos h, if_neg hg, if_neg this]; simp
  · simp only [if_neg h]; simp

open Classical in
theorem isSet_eq (k : Nat) (x : Col) (h : x.is) (l : List Int) (hk : l.length + 1 ≤ k) (hl : (l.length : Int) ≤ 1099511627776) : impl_Colouring_isSet k x l = some (decide (inP x l ∧ inc l)) := by
  have hp := h.1
  unfold impl_Colouring_isSet
  rw [loopAll (f := fun k' i => impl_Colouring_isSet_l0 x l k' i) (l.length : Int) false (fun i => (0 ≤ li l i ∧ li l i ≤ x.p - 1) ∧ (0 < i → li l (i - 1) < li l i)) 0 ?_ ?_ ?_ k 0 (by omega) (by omega)]
  · have e : (∀ i : Int, 0 ≤ i → i < l.length → (0 ≤ li l i ∧ li l i ≤ x.p - 1) ∧ (0 < i → li l (i - 1) < li l i)) ↔ inP x l ∧ inc l :=
      ⟨fun h => ⟨fun i h0 h1 => (h i h0 h1).1, fun i h0 h1 => (h i (by omega) h1).2 (by omega)⟩, fun h i h0 h1 => ⟨h.1 i h0 h1, fun h2 => h.2 i (by omega) h1⟩⟩
    by_cases hq : inP x l ∧ inc l
    · rw [if_pos (e.2 hq), decide_eq_true hq]; rfl
    · rw [if_neg (fun h => hq (e.1 h)), decide_eq_false hq]; rfl
  · intro k' i h0 h1 hq
    show impl_Colouring_isSet_l0 x l (k' + 1) i = _
    rw [impl_Colouring_isSet_l0, w64_succ (by omega) h1 (by omega)]
    unfold impl_Colouring_has
    rw [in_eq, w64_id (by omega), decide_eq_true (show 0 ≤ l.getD i.toNat 0 ∧ l.getD i.toNat 0 ≤ x.p - 1 from hq.1)]
    by_cases hi : 0 < i
    · have e := hq.2 hi
      have e : ¬ l.getD i.toNat 0 ≤ l.getD (i - 1).toNat 0 := Int.not_le.2 e
      rw [w64_id (show -9223372036854775808 ≤ i - 1 ∧ i - 1 < 9223372036854775808 by omega)]
      simp only [h1, h0, hi, e, decide_true, decide_false, Bool.not_true, Bool.false_eq_true, if_true, if_false, and_self]
      rw [if_pos (show 0 ≤ i - 1 ∧ i - 1 < (l.length : Int) by omega)]
      rfl
    · simp only [h1, h0, hi, decide_true, decide_false, Bool.not_true, Bool.false_eq_true, if_true, if_false, and_self]
      rfl
  · intro k' i h0 h1 hq
    show impl_Colouring_isSet_l0 x l (k' + 1) i = _
    rw [impl_Colouring_isSet_l0]
    unfold impl_Colouring_has
    rw [in_eq, w64_id (show -9223372036854775808 ≤ x.p - 1 ∧ x.p - 1 < 9223372036854775808 by omega)]
    by_cases ha : 0 ≤ l.getD i.toNat 0 ∧ l.getD i.toNat 0 ≤ x.p - 1
    · have hi : 0 < i := by
        apply Int.not_le.1
        intro hi; exact hq ⟨ha, fun h => by omega⟩
      have e : l.getD i.toNat 0 ≤ l.getD (i - 1).toNat 0 := by
        apply Int.not_lt.1
        intro e; exact hq ⟨ha, fun _ => e⟩
      rw [w64_id (show -9223372036854775808 ≤ i - 1 ∧ i - 1 < 9223372036854775808 by omega), decide_eq_true ha]
      simp only [h1, h0, hi, e, decide_true, Bool.not_true, Bool.false_eq_true, if_true, if_false, and_self]
      rw [if_pos (show 0 ≤ i - 1 ∧ i - 1 < (l.length : Int) by omega)]
      rfl
    · rw [decide_eq_false ha]
      simp only [h1, h0, decide_true, Bool.not_false, if_true, and_self]
      rfl
  · intro k' i h1
    show impl_Colouring_isSet_l0 x l (k' + 1) i = _
    rw [impl_Colouring_isSet_l0]
    have : ¬ i < (l.length : Int) := by omega
    simp [this]

theorem inc_lt {l : List Int} (h : inc l) : ∀ (d : Nat) (i j : Int), 0 ≤ i → i < j → j < l.length → j = i + d → li l i < li l j := by
  intro d
  induction d with
  | zero => intro i j h0 h1 h2 e; omega
  | succ d ih =>
    intro i j h0 h1 h2 e
    have hs := h j (by omega) h2
    by_cases he : i = j - 1
    · rw [he]; exact hs
    · exact Int.lt_trans (ih i (j - 1) h0 (by omega) (by omega) (by omega)) hs

theorem inc_at {l : List Int} (h : inc l) {i j : Int} (h0 : 0 ≤ i) (h1 : i < j) (h2 : j < l.length) : li l i < li l j := inc_lt h (j - i).toNat i j h0 h1 h2 (by omega)

def goodL (x : Col) (l : List Int) (i : Int) : Prop := ∀ j, i + 2 ≤ j → j < (l.length : Int) → x.cc (li l i) (li l j) = x.cc (li l i) (li l (i + 1))

open Classical in
theorem specLesser_eq (k : Nat) (x : Col) (h : x.is) (l : List Int) (hi : inP x l) (hq : inc l) (hk : l.length + 3 ≤ k) (hl : (l.length : Int) ≤ 1099511627776) :
    spec_l10Lesser k x l = some (decide (∀ i : Int, 0 ≤ i → i < l.length → goodL x l i)) := by
  have hp := h.1
  have inner : ∀ i : Int, 0 ≤ i → i < l.length → spec_l10Lesser_l1 x l i k (i + 2) = some (if goodL x l i then .inl () else .inr (.inr false)) := by
    intro i h0 h1
    refine loopAll (f := fun k' j => spec_l10Lesser_l1 x l i k' j) (l.length : Int) (.inr false) (fun j => x.cc (li l i) (li l j) = x.cc (li l i) (li l (i + 1))) (i + 2) ?_ ?_ ?_ k (i + 2) (by omega) (by omega)
    · intro k' j g0 g1 hg
      show spec_l10Lesser_l1 x l i (k' + 1) j = _
      have a1 := hi i h0 h1; have a2 := hi j (by omega) g1; have a3 := hi (i + 1) (by omega) (by omega)
      have b1 := inc_at hq h0 (show i < j by omega) g1; have b2 := inc_at hq h0 (show i < i + 1 by omega) (by omega)
      rw [spec_l10Lesser_l1, w64_succ (by omega) g1 (by omega), w64_id (show -9223372036854775808 ≤ i + 1 ∧ i + 1 < 9223372036854775808 by omega), specAt_eq x _ _ a1.1 b1 a2.1 (by omega), specAt_eq x _ _ a1.1 b2 a3.1 (by omega)]
      simp only [g1, h0, h1, decide_true, if_true, and_self, Option.bind_some]
      rw [if_pos (show 0 ≤ j ∧ True from ⟨by omega, trivial⟩), if_pos (show 0 ≤ i + 1 ∧ i + 1 < (l.length : Int) by omega), decide_eq_true hg]
      rfl
    · intro k' j g0 g1 hg
      show spec_l10Lesser_l1 x l i (k' + 1) j = _
      have a1 := hi i h0 h1; have a2 := hi j (by omega) g1; have a3 := hi (i + 1) (by omega) (by omega)
      have b1 := inc_at hq h0 (show i < j by omega) g1; have b2 := inc_at hq h0 (show i < i + 1 by omega) (by omega)
      rw [spec_l10Lesser_l1, w64_id (show -9223372036854775808 ≤ i + 1 ∧ i + 1 < 9223372036854775808 by omega), specAt_eq x _ _ a1.1 b1 a2.1 (by omega), specAt_eq x _ _ a1.1 b2 a3.1 (by omega)]
      simp only [g1, h0, h1, decide_true, if_true, and_self, Option.bind_some]
      rw [if_pos (show 0 ≤ j ∧ True from ⟨by omega, trivial⟩), if_pos (show 0 ≤ i + 1 ∧ i + 1 < (l.length : Int) by omega), decide_eq_false hg]
      rfl
    · intro k' j g1
      show spec_l10Lesser_l1 x l i (k' + 1) j = _
      rw [spec_l10Lesser_l1]
      have : ¬ j < (l.length : Int) := by omega
      simp [this]
  unfold spec_l10Lesser
  rw [loopAll (f := fun k' i => spec_l10Lesser_l0 k x l k' i) (l.length : Int) false (goodL x l) 0 ?_ ?_ ?_ k 0 (by omega) (by omega)]
  · by_cases hg : ∀ i : Int, 0 ≤ i → i < l.length → goodL x l i
    · rw [if_pos hg, decide_eq_true hg]; rfl
    · rw [if_neg hg, decide_eq_false hg]; rfl
  · intro k' i h0 h1 hg
    show spec_l10Lesser_l0 k x l (k' + 1) i = _
    rw [spec_l10Lesser_l0, w64_succ (by omega) h1 (by omega), w64_id (show -9223372036854775808 ≤ i + 2 ∧ i + 2 < 9223372036854775808 by omega), inner i h0 h1, if_pos hg]
    simp [h1]
  · intro k' i h0 h1 hg
    show spec_l10Lesser_l0 k x l (k' + 1) i = _
    rw [spec_l10Lesser_l0, w64_id (show -9223372036854775808 ≤ i + 2 ∧ i + 2 < 9223372036854775808 by omega), inner i h0 h1, if_neg hg]
    simp [h1]
  · intro k' i h1
    show spec_l10Lesser_l0 k x l (k' + 1) i = _
    rw [spec_l10Lesser_l0]
    have : ¬ i < (l.length : Int) := by omega
    simp [this]

theorem drop_at (l : List Int) (n t : Nat) : ((l.take l.length).drop n).getD t 0 = l.getD (n + t) 0 := by
  rw [List.take_length]
  simp [List.getD]

open Classical in
theorem implLesser_eq (k : Nat) (x : Col) (h : x.is) (l : List Int) (hi : inP x l) (hq : inc l) (hk : l.length + 3 ≤ k) (hl : (l.length : Int) ≤ 1099511627776) :
    impl_IsLesserColoured_l0 k x l k 0 = some (if ∀ i : Int, 0 ≤ i → i < l.length → goodL x l i then .inl () else .inr (false, 0)) := by
  have hp := h.1
  have inner : ∀ i : Int, 0 ≤ i → i < l.length → impl_IsLesserColoured_l1 x l i k 0 = some (if goodL x l i then .inl () else .inr (.inr (false, 0))) := by
    intro i h0 h1
    have hd : (((l.take l.length).drop (i + 1).toNat).length : Int) = l.length - (i + 1) := by simp; omega
    have := loopAll (f := fun k' j => impl_IsLesserColoured_l1 x l i k' j) ((((l.take l.length).drop (i + 1).toNat).length : Int)) (.inr (false, 0)) (fun t => x.cc (li l i) (li l (i + 1 + t)) = x.cc (li l i) (li l (i + 1))) 0 ?_ ?_ ?_ k 0 (by omega) (by omega)
    · rw [this]
      have e : (∀ t, 0 ≤ t → t < (((l.take l.length).drop (i + 1).toNat).length : Int) → x.cc (li l i) (li l (i + 1 + t)) = x.cc (li l i) (li l (i + 1))) ↔ goodL x l i := by
        constructor
        · intro h j g0 g1
          have := h (j - (i + 1)) (by omega) (by omega)
          rwa [show i + 1 + (j - (i + 1)) = j by omega] at this
        · intro h t g0 g1
          by_cases ht : t = 0
          · rw [ht, Int.add_zero]
          · exact h (i + 1 + t) (by omega) (by omega)
      simp only [e]
    · intro k' t g0 g1 hg
      show impl_IsLesserColoured_l1 x l i (k' + 1) t = _
      have a1 := hi i h0 h1; have a2 := hi (i + 1 + t) (by omega) (by omega); have a3 := hi (i + 1) (by omega) (by omega)
      have b1 := inc_at hq h0 (show i < i + 1 + t by omega) (by omega); have b2 := inc_at hq h0 (show i < i + 1 by omega) (by omega)
      have ed : ((l.take l.length).drop (i + 1).toNat).getD t.toNat 0 = li l (i + 1 + t) := by rw [drop_at]; unfold li; congr 1; omega
      rw [impl_IsLesserColoured_l1, w64_id (show -9223372036854775808 ≤ i + 1 ∧ i + 1 < 9223372036854775808 by omega), w64_id (show -9223372036854775808 ≤ t + 1 ∧ t + 1 < 9223372036854775808 by omega), ed, implAt_eq x _ _ a1.1 b1 a2.1 (by omega), implAt_eq x _ _ a1.1 b2 a3.1 (by omega)]
      simp only [g1, g0, decide_true, if_true, and_self, Option.bind_some]
      rw [if_pos (show 0 ≤ i + 1 ∧ i + 1 < (l.length : Int) by omega), decide_eq_true hg]
      rfl
    · intro k' t g0 g1 hg
      show impl_IsLesserColoured_l1 x l i (k' + 1) t = _
      have a1 := hi i h0 h1; have a2 := hi (i + 1 + t) (by omega) (by omega); have a3 := hi (i + 1) (by omega) (by omega)
      have b1 := inc_at hq h0 (show i < i + 1 + t by omega) (by omega); have b2 := inc_at hq h0 (show i < i + 1 by omega) (by omega)
      have ed : ((l.take l.length).drop (i + 1).toNat).getD t.toNat 0 = li l (i + 1 + t) := by rw [drop_at]; unfold li; congr 1; omega
      rw [impl_IsLesserColoured_l1, w64_id (show -9223372036854775808 ≤ i + 1 ∧ i + 1 < 9223372036854775808 by omega), w64_id (show -9223372036854775808 ≤ t + 1 ∧ t + 1 < 9223372036854775808 by omega), ed, implAt_eq x _ _ a1.1 b1 a2.1 (by omega), implAt_eq x _ _ a1.1 b2 a3.1 (by omega)]
      simp only [g1, g0, decide_true, if_true, and_self, Option.bind_some]
      rw [if_pos (show 0 ≤ i + 1 ∧ i + 1 < (l.length : Int) by omega), decide_eq_false hg]
      rfl
    · intro k' t g1
      show impl_IsLesserColoured_l1 x l i (k' + 1) t = _
      rw [impl_IsLesserColoured_l1, w64_id (show -9223372036854775808 ≤ i + 1 ∧ i + 1 < 9223372036854775808 by omega)]
      have : ¬ t < (((l.take l.length).drop (i + 1).toNat).length : Int) := by omega
      simp only [this, decide_false, Bool.false_eq_true, if_false]
  refine loopAll (f := fun k' i => impl_IsLesserColoured_l0 k x l k' i) (l.length : Int) (false, 0) (goodL x l) 0 ?_ ?_ ?_ k 0 (by omega) (by omega)
  · intro k' i h0 h1 hg
    show impl_IsLesserColoured_l0 k x l (k' + 1) i = _
    rw [impl_IsLesserColoured_l0, w64_succ (by omega) h1 (by omega), inner i h0 h1, if_pos hg]
    simp only [h1, h0, decide_true, if_true, and_self]
    rw [if_pos (show 0 ≤ i + 1 ∧ i + 1 ≤ (l.length : Int) ∧ (l.length : Int) ≤ l.length by omega)]
    rfl
  · intro k' i h0 h1 hg
    show impl_IsLesserColoured_l0 k x l (k' + 1) i = _
    rw [impl_IsLesserColoured_l0, w64_id (show -9223372036854775808 ≤ i + 1 ∧ i + 1 < 9223372036854775808 by omega), inner i h0 h1, if_neg hg]
    simp only [h1, h0, decide_true, if_true, and_self]
    rw [if_pos (show 0 ≤ i + 1 ∧ i + 1 ≤ (l.length : Int) ∧ (l.length : Int) ≤ l.length by omega)]
    rfl
  · intro k' i h1
    show impl_IsLesserColoured_l0 k x l (k' + 1) i = _
    rw [impl_IsLesserColoured_l0]
    have : ¬ i < (l.length : Int) := by omega
    simp [this]

def mapL (m : Nat) (f : Nat → Int) : List Int := (List.range m).map f

theorem mapL_length (m : Nat) (f : Nat → Int) : (mapL m f).length = m := by simp [mapL]

theorem mapL_succ (m : Nat) (f : Nat → Int) : mapL (m + 1) f = mapL m f ++ [f m] := by simp [mapL, List.range_succ]

theorem mapL_get (m : Nat) (f : Nat → Int) (i : Nat) (h : i < m) : (mapL m f).getD i 0 = f i := by simp [mapL, List.getD, h]

/-- A loop that collects a list. -/
theorem collect (F : Nat → Int → List Int → Option (List Int)) (m : Nat) (f : Nat → Int) (hstep : ∀ (k' i : Nat) (s : List Int), i < m → s.length ≤ i → F (k' + 1) i s = F k' ((i + 1 : Nat) : Int) (s ++ [f i])) (hfin : ∀ (k' : Nat) (s : List Int), F (k' + 1) m s = some s) (k : Nat) (hk : m < k) : F k 0 [] = some (mapL m f) := by
  have key : ∀ (d i k : Nat), m - i = d → i ≤ m → d < k → F k i (mapL i f) = some (mapL m f) := by
    intro d
    induction d with
    | zero =>
      intro i k h1 h2 h3
      obtain ⟨k, rfl⟩ : ∃ q, k = q + 1 := ⟨k - 1, by omega⟩
      obtain rfl : i = m := by omega
      exact hfin k _
    | succ d ih =>
      intro i k h1 h2 h3
      obtain ⟨k, rfl⟩ : ∃ q, k = q + 1 := ⟨k - 1, by omega⟩
      rw [hstep k i _ (by omega) (by rw [mapL_length]; exact Nat.le_refl _), ← mapL_succ]
      exact ih (i + 1) k (by omega) (by omega) (by omega)
  exact key m 0 k (by omega) (by omega) hk

end Go.Proofs.Ytfnbhfobgimnjaa
