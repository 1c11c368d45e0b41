/- Plain laws, collected out of own texts. No conditions beyond those that each lemma states. -/
import Derived.Test.YtfoijbdnkkaceaaPKit
import Derived.Test.YtfoijbdnkkaceaaPBits
import Derived.Test.YtfoijbdnkkaceaaGen19
set_option linter.unusedVariables false
set_option linter.unusedSimpArgs false
namespace Go.Proofs.Ytfoijbdnkkaceaa
open Go Go.RowKit Ab

theorem in_eq (a b c : Int) : impl_in a b c = decide (b ≤ a ∧ a ≤ c) := by
  unfold impl_in letO
  by_cases h : b ≤ a <;> by_cases h' : a ≤ c <;> simp [h, h']

theorem specIn_eq (a b c : Int) : spec_l01In a b c = decide (b ≤ a ∧ a ≤ c) := by
  unfold spec_l01In letO
  by_cases h : b ≤ a <;> by_cases h' : a ≤ c <;> simp [h, h']

def tE (x : Col) : Int := w64 ((w64 (x.p * (w64 (x.p - 1)))).tdiv 2)

def okE (x : Col) (j : Int) : Prop := (j < tE x → ((x.get j.toNat).toNat : Int) < x.k) ∧ (tE x ≤ j → ((x.get j.toNat).toNat : Int) = 0)

/-- Numbers in range, colours in range on the edges, zero behind them. -/
def Col.is (x : Col) : Prop := (1 ≤ x.p ∧ x.p ≤ 17) ∧ (1 ≤ x.k ∧ x.k ≤ 4) ∧ ∀ j, 0 ≤ j → j < 136 → okE x j

open Classical in
theorem specIs_eq (k : Nat) (h : 137 ≤ k) (x : Col) : spec_l01Is k x = some (decide x.is) := by
  unfold spec_l01Is
  rw [specIn_eq, specIn_eq]
  by_cases hp : 1 ≤ x.p ∧ x.p ≤ 17
  · by_cases hk : 1 ≤ x.k ∧ x.k ≤ 4
    · have := loopAll (f := fun k' i => spec_l01Is_l0 k x k' i) 136 false (okE x) 0
        (fun k' i h0 h1 hq => by
          show spec_l01Is_l0 k x (k' + 1) i = _
          rw [spec_l01Is_l0, w64_succ h0 h1 (by omega)]
          obtain ⟨q1, q2⟩ := hq
          change (i < tE x → _) at q1
          by_cases hc : i < tE x
          · have e1 := q1 hc
            have e2 : ¬ tE x ≤ i := by omega
            have e3 : ¬ x.k ≤ ((x.get i.toNat).toNat : Int) := by omega
            unfold tE at hc e2
            simp [h0, h1, hc, e2, e3]
          · have e1 := q2 (by omega)
            have e2 : tE x ≤ i := by omega
            unfold tE at hc e2
            simp [h0, h1, hc, e2, e1])
        (fun k' i h0 h1 hq => by
          show spec_l01Is_l0 k x (k' + 1) i = _
          rw [spec_l01Is_l0]
          by_cases hc : i < tE x
          · have e2 : ¬ tE x ≤ i := by omega
            have e3 : x.k ≤ ((x.get i.toNat).toNat : Int) := by
              apply Int.not_lt.1
              intro e; exact hq ⟨fun _ => e, fun h => (e2 h).elim⟩
            unfold tE at hc e2
            simp [h0, h1, hc, e2, e3]
          · have e2 : tE x ≤ i := by omega
            have e3 : ¬ ((x.get i.toNat).toNat : Int) = 0 := by
              intro e; exact hq ⟨fun h => (hc h).elim, fun _ => e⟩
            unfold tE at hc e2
            have e5 : ¬ (x.get i.toNat).toNat = 0 := by omega
            simp [h0, h1, hc, e2, e5])
        (fun k' i h1 => by
          show spec_l01Is_l0 k x (k' + 1) i = _
          rw [spec_l01Is_l0]
          have : ¬ i < 136 := by omega
          simp [this]) k 0 (by omega) (by omega)
      simp only [hp, hk, decide_true, Bool.not_true, Bool.false_eq_true, if_false, letO, and_self]
      rw [this]
      by_cases ha : ∀ j, 0 ≤ j → j < 136 → okE x j
      · have : x.is := ⟨hp, hk, ha⟩
        rw [if_pos ha]; simp [this]
      · have : ¬ x.is := fun h => ha h.2.2
        simp only [if_neg ha, this]
        simp
    · have : ¬ x.is := fun h => hk h.2.1
      simp [hp, hk, letO, this]
  · have : ¬ x.is := fun h => hp h.1
    simp [hp, letO, this]

open Classical in
theorem isColouring_eq (k : Nat) (h : 137 ≤ k) (x : Col) : impl_Colouring_isColouring k x = some (decide x.is) := by
  unfold impl_Colouring_isColouring
  rw [in_eq, in_eq]
  by_cases hp : 1 ≤ x.p ∧ x.p ≤ 17
  · by_cases hk : 1 ≤ x.k ∧ x.k ≤ 4
    · have := loopAll (f := fun k' i => impl_Colouring_isColouring_l0 k x k' i) 136 false (okE x) 0
        (fun k' i h0 h1 hq => by
          show impl_Colouring_isColouring_l0 k x (k' + 1) i = _
          rw [impl_Colouring_isColouring_l0, w64_succ h0 h1 (by omega)]
          obtain ⟨q1, q2⟩ := hq
          change (i < tE x → ((x.e.get i.toNat).toNat : Int) < x.k) at q1
          change (tE x ≤ i → ((x.e.get i.toNat).toNat : Int) = 0) at q2
          change (if _ then _ else _) = _
          have hE : impl_Colouring_edges x = tE x := rfl
          by_cases hc : i < tE x
          · have e1 := q1 hc
            have e2 : ¬ tE x ≤ i := by omega
            have e3 : ¬ x.k ≤ ((x.e.get i.toNat).toNat : Int) := by omega
            simp [h0, h1, hc, e2, e3, hE, letO]
          · have e1 := q2 (by omega)
            have e2 : tE x ≤ i := by omega
            have e3 : ¬ x.k ≤ ((x.e.get i.toNat).toNat : Int) := by omega
            rw [e1] at e3
            simp [h0, h1, hc, e2, e1, e3, hE, letO])
        (fun k' i h0 h1 hq => by
          show impl_Colouring_isColouring_l0 k x (k' + 1) i = _
          rw [impl_Colouring_isColouring_l0]
          have hE : impl_Colouring_edges x = tE x := rfl
          by_cases e3 : x.k ≤ ((x.e.get i.toNat).toNat : Int)
          · simp [h0, h1, e3, letO]
          · have e2 : tE x ≤ i := by
              apply Int.not_lt.1
              intro hc; exact hq ⟨fun _ => by change ((x.e.get i.toNat).toNat : Int) < x.k; omega, fun h => by omega⟩
            have e4 : ¬ ((x.e.get i.toNat).toNat : Int) = 0 := by
              intro e; exact hq ⟨fun h => by omega, fun _ => e⟩
            have e5 : ¬ (x.e.get i.toNat).toNat = 0 := by omega
            simp [h0, h1, e2, e3, e5, hE, letO])
        (fun k' i h1 => by
          show impl_Colouring_isColouring_l0 k x (k' + 1) i = _
          rw [impl_Colouring_isColouring_l0]
          have : ¬ i < 136 := by omega
          simp [this]) k 0 (by omega) (by omega)
      simp only [hp, hk, decide_true, Bool.not_true, Bool.false_eq_true, if_false, letO, and_self]
      rw [this]
      by_cases ha : ∀ j, 0 ≤ j → j < 136 → okE x j
      · have : x.is := ⟨hp, hk, ha⟩
        rw [if_pos ha]; simp [this]
      · have : ¬ x.is := fun h => ha h.2.2
        simp only [if_neg ha, this]
        simp
    · have : ¬ x.is := fun h => hk h.2.1
      simp [hp, hk, letO, this]
  · have : ¬ x.is := fun h => hp h.1
    simp [hp, letO, this]

theorem number_eq (i j : Int) (hi : 0 ≤ i ∧ i < 17) (hj : 0 ≤ j ∧ j < 17) : impl_number i j = (eN i.toNat j.toNat : Int) := by
  have : ∀ i, i < 17 → ∀ j, j < 17 → impl_number (i : Nat) (j : Nat) = (eN i j : Int) := by decide +kernel
  have h := this i.toNat (by omega) j.toNat (by omega)
  rwa [Int.toNat_of_nonneg hi.1, Int.toNat_of_nonneg hj.1] at h

theorem edge_eq (i j : Int) (hi : 0 ≤ i ∧ i < 17) (hj : 0 ≤ j ∧ j < 17) : spec_l01Edge i j = (eN i.toNat j.toNat : Int) := by
  have : ∀ i, i < 17 → ∀ j, j < 17 → spec_l01Edge (i : Nat) (j : Nat) = (eN i j : Int) := by decide +kernel
  have h := this i.toNat (by omega) j.toNat (by omega)
  rwa [Int.toNat_of_nonneg hi.1, Int.toNat_of_nonneg hj.1] at h

def Col.cc (x : Col) (i j : Int) : Int := ((x.e.get (eN i.toNat j.toNat)).toNat : Int)

theorem specAt_eq (x : Col) (i j : Int) (h0 : 0 ≤ i) (h : i < j) (hj : 0 ≤ j) (hj' : j < 17) : spec_l01At x i j = some (x.cc i j) := by
  unfold spec_l01At
  rw [edge_eq i j (by omega) (by omega)]
  have := eN_136 (i := i.toNat) (j := j.toNat) (by omega) (by omega) (by omega)
  rw [if_pos (by omega)]
  rfl

abbrev li (l : List Int) (i : Int) : Int := l.getD i.toNat 0

open Classical in
theorem specAll_eq (k : Nat) (l : List Int) (p : Int) (hk : l.length + 1 ≤ k) (hl : (l.length : Int) ≤ 1099511627776) (hp : -9223372036854775808 ≤ p - 1 ∧ p - 1 < 9223372036854775808) : spec_l01All k l p = some (decide (∀ i : Int, 0 ≤ i → i < l.length → 0 ≤ li l i ∧ li l i ≤ p - 1)) := by
  unfold spec_l01All
  rw [loopAll (f := fun k' i => spec_l01All_l0 l p k' i) (l.length : Int) false (fun i => 0 ≤ li l i ∧ li l i ≤ p - 1) 0 ?_ ?_ ?_ k 0 (by omega) (by omega)]
  · by_cases h : ∀ i : Int, 0 ≤ i → i < l.length → 0 ≤ li l i ∧ li l i ≤ p - 1
    · rw [if_pos h]; simp only [Option.bind_some]; rw [decide_eq_true h]
    · rw [if_neg h]; simp only [Option.bind_some]; rw [decide_eq_false h]
  · intro k' i h0 h1 hq
    show spec_l01All_l0 l p (k' + 1) i = _
    rw [spec_l01All_l0, w64_succ h0 h1 (by omega), specIn_eq, w64_id hp]
    simp only [h0, h1, and_self, if_true, decide_true]
    rw [decide_eq_true (show 0 ≤ l.getD i.toNat 0 ∧ l.getD i.toNat 0 ≤ p - 1 from hq)]; simp
  · intro k' i h0 h1 hq
    show spec_l01All_l0 l p (k' + 1) i = _
    rw [spec_l01All_l0, specIn_eq, w64_id hp]
    simp only [h0, h1, and_self, if_true, decide_true]
    rw [decide_eq_false (show ¬ (0 ≤ l.getD i.toNat 0 ∧ l.getD i.toNat 0 ≤ p - 1) from hq)]; simp
  · intro k' i h1
    show spec_l01All_l0 l p (k' + 1) i = _
    rw [spec_l01All_l0]
    have : ¬ i < (l.length : Int) := by omega
    simp [this]

theorem getD_app' {α : Type} (l m : List α) (d : α) (i : Nat) (h : l.length ≤ i) : (l ++ m).getD i d = m.getD (i - l.length) d := by
  simp only [List.getD]; rw [List.getElem?_append_right h]

theorem implAt_ne (x : Col) (i j : Int) (h0 : 0 ≤ i) (h1 : i < 17) (hj : 0 ≤ j) (hj' : j < 17) (h : i ≠ j) : impl_Colouring_at x i j = some (x.cc i j) := by
  unfold impl_Colouring_at
  rw [number_eq i j (by omega) (by omega)]
  have := eN_136 (i := i.toNat) (j := j.toNat) (by omega) (by omega) (by omega)
  rw [if_pos (by omega)]
  rfl

theorem specAt_ne (x : Col) (i j : Int) (h0 : 0 ≤ i) (h1 : i < 17) (hj : 0 ≤ j) (hj' : j < 17) (h : i ≠ j) : spec_l01At x i j = some (x.cc i j) := by
  unfold spec_l01At
  rw [edge_eq i j ⟨h0, h1⟩ ⟨hj, hj'⟩]
  have := eN_136 (i := i.toNat) (j := j.toNat) (by omega) (by omega) (by omega)
  rw [if_pos ⟨by omega, by omega⟩]
  rfl

theorem like_refl (k : Nat) (l : List Int) (hk : l.length + 1 ≤ k) (hl : (l.length : Int) ≤ 1099511627776) : laws_likeInts k l l = some true := by
  unfold laws_likeInts
  have := loopAll (f := fun k' i => laws_likeInts_l0 l l k' i) (l.length : Int) false (fun _ => True) 0
    (fun k' i h0 h1 _ => by
      show laws_likeInts_l0 l l (k' + 1) i = _
      rw [laws_likeInts_l0, w64_succ h0 h1 (by omega)]
      simp [h0, h1])
    (fun k' i h0 h1 hq => (hq trivial).elim)
    (fun k' i h1 => by
      show laws_likeInts_l0 l l (k' + 1) i = _
      rw [laws_likeInts_l0]
      have : ¬ i < (l.length : Int) := by omega
      simp [this]) k 0 (by omega) (by omega)
  rw [this]; simp

def MInv (n : Nat) (g : Nat → Nat → UInt8) (j i : Nat) (x : B136) : Prop :=
  (∀ a b, a < b → b < n → x.get (eN a b) = if b < j ∨ (b = j ∧ a < i) then g a b else 0) ∧ ∀ e, tri n ≤ e → e < 136 → x.get e = 0

theorem MInv.start (n : Nat) (g : Nat → Nat → UInt8) : MInv n g 0 0 B136.zero :=
  ⟨fun a b h hb => by rw [B136.get_zero, if_neg (by omega)], fun e _ _ => B136.get_zero e⟩

theorem MInv.row {n : Nat} {g : Nat → Nat → UInt8} {j : Nat} {x : B136} (h : MInv n g j j x) : MInv n g (j + 1) 0 x := by
  refine ⟨fun a b ha hb => ?_, h.2⟩
  rw [h.1 a b ha hb]
  by_cases hc : b < j ∨ (b = j ∧ a < j)
  · rw [if_pos hc, if_pos (by omega)]
  · rw [if_neg hc, if_neg (by omega)]

theorem MInv.step {n : Nat} {g : Nat → Nat → UInt8} {j i : Nat} {x : B136} (hn : n ≤ 17) (h : MInv n g j i x) (hj : j < n) (hi : i < j) : MInv n g j (i + 1) (x.set (eN i j) (g i j)) := by
  have h136 := eN_136 (i := i) (j := j) (by omega) (by omega) (by omega)
  refine ⟨fun a b ha hb => ?_, fun e he h1 => ?_⟩
  · rw [B136.get_set _ _ _ _ h136]
    by_cases e : eN a b = eN i j
    · obtain ⟨rfl, rfl⟩ := eN_inj ha (by omega) hi (by omega) e
      rw [if_pos rfl, if_pos (by omega)]
    · rw [if_neg e, h.1 a b ha hb]
      by_cases hc : b < j ∨ (b = j ∧ a < i)
      · rw [if_pos hc, if_pos (by omega)]
      · have : ¬ (a = i ∧ b = j) := fun ⟨x, y⟩ => e (by rw [x, y])
        rw [if_neg hc, if_neg (by omega)]
  · have := eN_lt hi hj hn
    rw [B136.get_set _ _ _ _ h136, if_neg (by omega), h.2 e he h1]

theorem MInv.keep {n : Nat} {g : Nat → Nat → UInt8} {j i : Nat} {x : B136} (hn : n ≤ 17) (h : MInv n g j i x) (hj : j < n) (hi : i < j) (h0 : g i j = 0) : MInv n g j (i + 1) x := by
  have := MInv.step hn h hj hi
  have e : x.get (eN i j) = g i j := by rw [h.1 i j hi hj, if_neg (by omega), h0]
  rwa [← e, B136.set_get] at this

/-- A colouring with these colours between the points and nothing behind them. -/
structure Made (x : Col) (n k : Int) (g : Nat → Nat → UInt8) : Prop where
  p : x.p = n
  k : x.k = k
  e : ∀ a b : Nat, a < b → (b : Int) < n → x.e.get (eN a b) = g a b
  z : ∀ e, tri n.toNat ≤ e → e < 136 → x.e.get e = 0

theorem MInv.made {n : Nat} {g : Nat → Nat → UInt8} {x : Col} {k : Int} (h : MInv n g n 0 x.e) (hp : x.p = n) (hk : x.k = k) : Made x n k g :=
  ⟨hp, hk, fun a b ha hb => by rw [h.1 a b ha (by omega), if_pos (by omega)], fun e he h1 => h.2 e (by simpa using he) h1⟩

theorem Made.eq {x y : Col} {n k : Int} {g g' : Nat → Nat → UInt8} (hn0 : 0 ≤ n) (hn : n ≤ 17) (h : Made x n k g) (h' : Made y n k g') (hg : ∀ a b : Nat, a < b → (b : Int) < n → g a b = g' a b) : x = y := by
  refine Col.ext' (by rw [h.p, h'.p]) (by rw [h.k, h'.k]) (B136.ext_get fun e he => ?_)
  by_cases ht : e < tri n.toNat
  · obtain ⟨j, hj, i, hi, rfl⟩ := eN_surj (n := n.toNat) (by omega) ht
    rw [h.e i j hi (by omega), h'.e i j hi (by omega), hg i j hi (by omega)]
  · rw [h.z e (by omega) he, h'.z e (by omega) he]

theorem made_l1 (f : Int → Int → Option Int) (n : Nat) (hn : n ≤ 17) (g : Nat → Nat → Int) (j : Nat) (hj : j < n) (hf : ∀ i : Nat, i < j → f i j = some (g i j)) (p c : Int) :
    ∀ k, 18 ≤ k → ∀ x : Col, x.p = p → x.k = c → MInv n (fun a b => toByte (g a b)) j 0 x.e → ∃ y : Col, impl_made_l1 f (j : Int) k 0 x = some y ∧ y.p = p ∧ y.k = c ∧ MInv n (fun a b => toByte (g a b)) j j y.e := by
  intro k hk x hp hc hx
  refine loopI (f := fun k i s => impl_made_l1 f (j : Int) k i s) (j : Int) 0 (fun i s => s.p = p ∧ s.k = c ∧ MInv n (fun a b => toByte (g a b)) j i.toNat s.e ∧ i ≤ j) (fun y => y.p = p ∧ y.k = c ∧ MInv n (fun a b => toByte (g a b)) j j y.e) ?_ ?_ k 0 x (by omega) (by omega) ⟨hp, hc, hx, by omega⟩
  · intro k i s h0 h1 ⟨q1, q2, q3, _⟩
    left
    obtain ⟨m, rfl⟩ := nat_of h0
    refine ⟨s.set (eN m j) (toByte (g m j)), ?_, q1, q2, ?_, by omega⟩
    · show impl_made_l1 f (j : Int) (k + 1) m s = _
      rw [impl_made_l1, hf m (by omega), w64_succ h0 h1 (by omega)]
      unfold impl_Colouring_put
      rw [number_eq m j (by omega) (by omega)]
      have := eN_136 (i := m) (j := j) (by omega) (by omega) (by omega)
      have h136 : ((eN m j : Nat) : Int) < 136 := by omega
      have hmj : m < j := by omega
      simp [hmj, this, h136]
    · have := MInv.step hn q3 hj (show m < j by omega)
      exact this
  · intro k i s h0 h1 ⟨q1, q2, q3, q4⟩
    have : i = j := by omega
    subst this
    refine ⟨s, ?_, q1, q2, q3⟩
    show impl_made_l1 f (j : Int) (k + 1) j s = _
    rw [impl_made_l1]; simp

theorem made_eq (f : Int → Int → Option Int) (n : Int) (hn0 : 0 ≤ n) (hn : n ≤ 17) (g : Nat → Nat → Int) (hf : ∀ i j : Nat, i < j → (j : Int) < n → f i j = some (g i j)) (c : Int) :
    ∀ k, 19 ≤ k → ∃ y : Col, impl_made k n c f = some y ∧ Made y n c (fun a b => toByte (g a b)) := by
  intro k hk
  obtain ⟨n, rfl⟩ := nat_of hn0
  unfold impl_made
  have := loopI (f := fun k' i s => impl_made_l0 k n f k' i s) (n : Int) 0 (fun i (s : Col) => s.p = n ∧ s.k = c ∧ MInv n (fun a b => toByte (g a b)) i.toNat 0 s.e ∧ i ≤ n) (fun y => Made y n c (fun a b => toByte (g a b))) ?_ ?_ k 0 (⟨n, c, B136.zero⟩ : Col) (by omega) (by omega) ⟨rfl, rfl, MInv.start _ _, by omega⟩
  · obtain ⟨y, e, h⟩ := this
    exact ⟨y, by rw [e]; rfl, h⟩
  · intro k' i s h0 h1 ⟨q1, q2, q3, _⟩
    left
    obtain ⟨j, rfl⟩ := nat_of h0
    obtain ⟨y, e, h1', h2', h3'⟩ := made_l1 f n (by omega) g j (by omega) (fun i hi => hf i j hi h1) n c k (by omega) s q1 q2 q3
    refine ⟨y, ?_, h1', h2', MInv.row h3', by omega⟩
    show impl_made_l0 k n f (k' + 1) j s = _
    rw [impl_made_l0, e, w64_succ h0 h1 (by omega)]
    have : j < n := by omega
    simp [this]
  · intro k' i s h0 h1 ⟨q1, q2, q3, q4⟩
    have : i = n := by omega
    subst this
    refine ⟨s, ?_, MInv.made q3 q1 q2⟩
    show impl_made_l0 k n f (k' + 1) n s = _
    rw [impl_made_l0]; simp

end Go.Proofs.Ytfoijbdnkkaceaa
