/- The plain law of FnExactSequenceColouring: the program's answer is the reference's. No conditions beyond those that each lemma states. -/
import Derived.Test.YtgebhhhdckpciaaPureBase
set_option linter.unusedVariables false
set_option linter.unusedSimpArgs false
namespace Go.Proofs.Ytgebhhhdckpciaa
open Go Go.RowKit Ab

/-! ### Colourings that are built edge by edge -/
def MInv (n : Nat) (g : Nat → Nat → UInt8) (j i : Nat) (x : B136) : Prop :=
  (∀ a b, a < b → b < n → x.get (eN a b) = if b < j ∨ (b = j ∧ a < i) then g a b else 0) ∧ ∀ e, tri n ≤ e → e < 136 → x.get e = 0
theorem MInv.start (n : Nat) (g : Nat → Nat → UInt8) : MInv n g 0 0 B136.zero :=
  ⟨fun a b h hb => by rw [B136.get_zero, if_neg (by omega)], fun e _ _ => B136.get_zero e⟩
theorem MInv.row {n : Nat} {g : Nat → Nat → UInt8} {j : Nat} {x : B136} (h : MInv n g j j x) : MInv n g (j + 1) 0 x := by
  refine ⟨fun a b ha hb => ?_, h.2⟩
  rw [h.1 a b ha hb]
  by_cases hc : b < j ∨ (b = j ∧ a < j)
  · rw [if_pos hc, if_pos (by omega)]
  · rw [if_neg hc, if_neg (by omega)]
theorem MInv.step {n : Nat} {g : Nat → Nat → UInt8} {j i : Nat} {x : B136} (hn : n ≤ 17) (h : MInv n g j i x) (hj : j < n) (hi : i < j) : MInv n g j (i + 1) (x.set (eN i j) (g i j)) := by
  have h136 := eN_136 (i := i) (j := j) (by omega) (by omega) (by omega)
  refine ⟨fun a b ha hb => ?_, fun e he h1 => ?_⟩
  · rw [B136.get_set _ _ _ _ h136]
    by_cases e : eN a b = eN i j
    · obtain ⟨rfl, rfl⟩ := eN_inj ha (by omega) hi (by omega) e
      rw [if_pos rfl, if_pos (by omega)]
    · rw [if_neg e, h.1 a b ha hb]
      by_cases hc : b < j ∨ (b = j ∧ a < i)
      · rw [if_pos hc, if_pos (by omega)]
      · have : ¬ (a = i ∧ b = j) := fun ⟨x, y⟩ => e (by rw [x, y])
        rw [if_neg hc, if_neg (by omega)]
  · have := eN_lt hi hj hn
    rw [B136.get_set _ _ _ _ h136, if_neg (by omega), h.2 e he h1]
theorem MInv.keep {n : Nat} {g : Nat → Nat → UInt8} {j i : Nat} {x : B136} (hn : n ≤ 17) (h : MInv n g j i x) (hj : j < n) (hi : i < j) (h0 : g i j = 0) : MInv n g j (i + 1) x := by
  have := MInv.step hn h hj hi
  have e : x.get (eN i j) = g i j := by rw [h.1 i j hi hj, if_neg (by omega), h0]
  rwa [← e, B136.set_get] at this
/-- A colouring with these colours between the points and nothing behind them. -/
structure Made (x : Col) (n k : Int) (g : Nat → Nat → UInt8) : Prop where
  p : x.p = n
  k : x.k = k
  e : ∀ a b : Nat, a < b → (b : Int) < n → x.e.get (eN a b) = g a b
  z : ∀ e, tri n.toNat ≤ e → e < 136 → x.e.get e = 0
theorem MInv.made {n : Nat} {g : Nat → Nat → UInt8} {x : Col} {k : Int} (h : MInv n g n 0 x.e) (hp : x.p = n) (hk : x.k = k) : Made x n k g :=
  ⟨hp, hk, fun a b ha hb => by rw [h.1 a b ha (by omega), if_pos (by omega)], fun e he h1 => h.2 e (by simpa using he) h1⟩
theorem Made.eq {x y : Col} {n k : Int} {g g' : Nat → Nat → UInt8} (hn0 : 0 ≤ n) (hn : n ≤ 17) (h : Made x n k g) (h' : Made y n k g') (hg : ∀ a b : Nat, a < b → (b : Int) < n → g a b = g' a b) : x = y := by
  refine Col.ext' (by rw [h.p, h'.p]) (by rw [h.k, h'.k]) (B136.ext_get fun e he => ?_)
  by_cases ht : e < tri n.toNat
  · obtain ⟨j, hj, i, hi, rfl⟩ := eN_surj (n := n.toNat) (by omega) ht
    rw [h.e i j hi (by omega), h'.e i j hi (by omega), hg i j hi (by omega)]
  · rw [h.z e (by omega) he, h'.z e (by omega) he]

theorem made_l1 (f : Int → Int → Option Int) (n : Nat) (hn : n ≤ 17) (g : Nat → Nat → Int) (j : Nat) (hj : j < n) (hf : ∀ i : Nat, i < j → f i j = some (g i j)) (p c : Int) :
    ∀ k, 18 ≤ k → ∀ x : Col, x.p = p → x.k = c → MInv n (fun a b => toByte (g a b)) j 0 x.e → ∃ y : Col, impl_made_l1 f (j : Int) k 0 x = some y ∧ y.p = p ∧ y.k = c ∧ MInv n (fun a b => toByte (g a b)) j j y.e := by
  intro k hk x hp hc hx
  refine loopI (f := fun k i s => impl_made_l1 f (j : Int) k i s) (j : Int) 0 (fun i s => s.p = p ∧ s.k = c ∧ MInv n (fun a b => toByte (g a b)) j i.toNat s.e ∧ i ≤ j) (fun y => y.p = p ∧ y.k = c ∧ MInv n (fun a b => toByte (g a b)) j j y.e) ?_ ?_ k 0 x (by omega) (by omega) ⟨hp, hc, hx, by omega⟩
  · intro k i s h0 h1 ⟨q1, q2, q3, _⟩
    left
    obtain ⟨m, rfl⟩ := nat_of h0
    refine ⟨s.set (eN m j) (toByte (g m j)), ?_, q1, q2, ?_, by omega⟩
    · show impl_made_l1 f (j : Int) (k + 1) m s = _
      rw [impl_made_l1, hf m (by omega), w64_succ h0 h1 (by omega)]
      unfold impl_Colouring_put
      rw [number_eq m j (by omega) (by omega)]
      have := eN_136 (i := m) (j := j) (by omega) (by omega) (by omega)
      have h136 : ((eN m j : Nat) : Int) < 136 := by omega
      have hmj : m < j := by omega
      simp [hmj, this, h136]
    · have := MInv.step hn q3 hj (show m < j by omega)
      exact this
  · intro k i s h0 h1 ⟨q1, q2, q3, q4⟩
    have : i = j := by omega
    subst this
    refine ⟨s, ?_, q1, q2, q3⟩
    show impl_made_l1 f (j : Int) (k + 1) j s = _
    rw [impl_made_l1]; simp
theorem made_eq (f : Int → Int → Option Int) (n : Int) (hn0 : 0 ≤ n) (hn : n ≤ 17) (g : Nat → Nat → Int) (hf : ∀ i j : Nat, i < j → (j : Int) < n → f i j = some (g i j)) (c : Int) :
    ∀ k, 19 ≤ k → ∃ y : Col, impl_made k n c f = some y ∧ Made y n c (fun a b => toByte (g a b)) := by
  intro k hk
  obtain ⟨n, rfl⟩ := nat_of hn0
  unfold impl_made
  have := loopI (f := fun k' i s => impl_made_l0 k n f k' i s) (n : Int) 0 (fun i (s : Col) => s.p = n ∧ s.k = c ∧ MInv n (fun a b => toByte (g a b)) i.toNat 0 s.e ∧ i ≤ n) (fun y => Made y n c (fun a b => toByte (g a b))) ?_ ?_ k 0 (⟨n, c, B136.zero⟩ : Col) (by omega) (by omega) ⟨rfl, rfl, MInv.start _ _, by omega⟩
  · obtain ⟨y, e, h⟩ := this
    exact ⟨y, by rw [e]; rfl, h⟩
  · intro k' i s h0 h1 ⟨q1, q2, q3, _⟩
    left
    obtain ⟨j, rfl⟩ := nat_of h0
    obtain ⟨y, e, h1', h2', h3'⟩ := made_l1 f n (by omega) g j (by omega) (fun i hi => hf i j hi h1) n c k (by omega) s q1 q2 q3
    refine ⟨y, ?_, h1', h2', MInv.row h3', by omega⟩
    show impl_made_l0 k n f (k' + 1) j s = _
    rw [impl_made_l0, e, w64_succ h0 h1 (by omega)]
    have : j < n := by omega
    simp [this]
  · intro k' i s h0 h1 ⟨q1, q2, q3, q4⟩
    have : i = n := by omega
    subst this
    refine ⟨s, ?_, MInv.made q3 q1 q2⟩
    show impl_made_l0 k n f (k' + 1) n s = _
    rw [impl_made_l0]; simp

/-! ### Copies of lists, equality of lists and colourings -/
theorem toInt64S_eq (k : Nat) (l : List Int) (h : l.length + 1 ≤ k) (hl : (l.length : Int) ≤ 1099511627776) : laws_toInt64S k l = some l := by
  unfold laws_toInt64S
  rw [if_pos ⟨by omega, by omega, hl⟩]
  have := loopI (f := fun k i s => laws_toInt64S_l0 l k i s) (l.length : Int) 0 (fun i (s : List Int) => s.length = l.length ∧ ∀ j : Nat, (j : Int) < i → s.getD j 0 = l.getD j 0) (fun y => y = l) ?_ ?_ k 0 (List.replicate (l.length : Int).toNat 0) (by omega) (by omega) ⟨by simp, fun j hj => by omega⟩
  · obtain ⟨r, e, rfl⟩ := this
    rw [e]; rfl
  · intro k i s h0 h1 ⟨q1, q2⟩
    left
    refine ⟨s.set i.toNat (l.getD i.toNat 0), ?_, by simp [q1], ?_⟩
    · show laws_toInt64S_l0 l (k + 1) i s = _
      rw [laws_toInt64S_l0, w64_succ h0 h1 (by omega)]
      have : i < (s.length : Int) := by omega
      simp [h0, h1, this]
    · intro j hj
      by_cases e : i.toNat = j
      · subst e
        simp [List.getD, List.getElem?_set, show i.toNat < s.length by omega]
      · have := q2 j (by omega)
        simp only [List.getD] at this ⊢
        rw [List.getElem?_set_ne e, this]
  · intro k i s h0 h1 ⟨q1, q2⟩
    refine ⟨s, ?_, ?_⟩
    · show laws_toInt64S_l0 l (k + 1) i s = _
      rw [laws_toInt64S_l0]
      have : ¬ i < (l.length : Int) := by omega
      simp [this]
    · refine List.ext_getElem q1 fun j hj hj' => ?_
      have := q2 j (by omega)
      simpa [List.getD, hj, hj'] using this

theorem eqB_refl (k : Nat) (h : 137 ≤ k) (x : B136) : laws_eqByteA136 k x x = some true := by
  unfold laws_eqByteA136
  have := loopAll (f := fun k' i => laws_eqByteA136_l0 x x k' i) 136 false (fun _ => True) 0
    (fun k' i h0 h1 _ => by
      show laws_eqByteA136_l0 x x (k' + 1) i = _
      rw [laws_eqByteA136_l0, w64_succ h0 h1 (by omega)]
      simp [h0, h1])
    (fun k' i h0 h1 hq => (hq trivial).elim)
    (fun k' i h1 => by
      show laws_eqByteA136_l0 x x (k' + 1) i = _
      rw [laws_eqByteA136_l0]
      have : ¬ i < 136 := by omega
      simp [this]) k 0 (by omega) (by omega)
  rw [this]; simp
theorem eqCol_refl (k : Nat) (h : 137 ≤ k) (x : Col) : laws_eqColouring k x x = some true := by
  unfold laws_eqColouring
  rw [eqB_refl k h]; simp
theorem eqInts_refl (k : Nat) (x : List Int) (h : x.length + 1 ≤ k) (hx : (x.length : Int) ≤ 1099511627776) : laws_eqInt64S k x x = some true := by
  unfold laws_eqInt64S
  have := loopAll (f := fun k' i => laws_eqInt64S_l0 x x k' i) (x.length : Int) false (fun _ => True) 0
    (fun k' i h0 h1 _ => by
      show laws_eqInt64S_l0 x x (k' + 1) i = _
      rw [laws_eqInt64S_l0, w64_succ h0 h1 (by omega)]
      simp [h0, h1])
    (fun k' i h0 h1 hq => (hq trivial).elim)
    (fun k' i h1 => by
      show laws_eqInt64S_l0 x x (k' + 1) i = _
      rw [laws_eqInt64S_l0]
      have : ¬ i < (x.length : Int) := by omega
      simp [this]) k 0 (by omega) (by omega)
  rw [this]; simp

/-! ### Colourings of sequences -/
def seqG (l : List Int) (i j : Nat) : UInt8 := if l.getD i 0 < l.getD j 0 then 0 else 1
def dist (l : List Int) : Prop := ∀ a b : Nat, a < b → b < l.length → l.getD a 0 ≠ l.getD b 0

theorem specSeq_l1 (l : List Int) (hn : l.length ≤ 17) (j : Nat) (hj : j < l.length) (z : Col) (p c : Int) : ∀ k, 18 ≤ k → ∀ x : Col, x.p = p → x.k = c → MInv l.length (seqG l) j 0 x.e →
    ∃ r, spec_SequenceColouring_l1 l j k 0 z x = some r ∧ (((∀ a, a < j → l.getD a 0 ≠ l.getD j 0) ∧ ∃ y : Col, r = .inl (z, y) ∧ y.p = p ∧ y.k = c ∧ MInv l.length (seqG l) j j y.e) ∨
      (∃ a, a < j ∧ l.getD a 0 = l.getD j 0) ∧ r = .inr (Col.zero, 2)) := by
  intro k hk x hp hc hx
  refine loopI (f := fun k i (s : Col) => spec_SequenceColouring_l1 l j k i z s) (j : Int) 0 (fun i (s : Col) => s.p = p ∧ s.k = c ∧ MInv l.length (seqG l) j i.toNat s.e ∧ i ≤ j ∧ ∀ a, a < i.toNat → l.getD a 0 ≠ l.getD j 0) _ ?_ ?_ k 0 x (by omega) (by omega) ⟨hp, hc, hx, by omega, fun a h => by omega⟩
  · intro k i s h0 h1 ⟨q1, q2, q3, _, q5⟩
    obtain ⟨m, rfl⟩ := nat_of h0
    have hm : (m : Int) < (l.length : Int) := by omega
    have hm' : m < l.length := by omega
    have hmj : m < j := by omega
    have hj2 : (j : Int) < (l.length : Int) := by omega
    by_cases e : l.getD m 0 = l.getD j 0
    · right
      refine ⟨_, ?_, .inr ⟨⟨m, hmj, e⟩, rfl⟩⟩
      show spec_SequenceColouring_l1 l j (k + 1) m z s = _
      rw [spec_SequenceColouring_l1]
      simp only [Int.toNat_natCast, e]
      simp [h1, hm, hj2, hmj, hm', hj]
      rfl
    · left
      have h136 := eN_136 (i := m) (j := j) (by omega) (by omega) (by omega)
      have h136' : ((eN m j : Nat) : Int) < 136 := by omega
      by_cases lt : l.getD j 0 < l.getD m 0
      · refine ⟨s.set (eN m j) 1, ?_, q1, q2, ?_, by omega, ?_⟩
        · show spec_SequenceColouring_l1 l j (k + 1) m z s = _
          rw [spec_SequenceColouring_l1, w64_succ h0 h1 (by omega), edge_eq m j (by omega) (by omega)]
          simp only [Int.toNat_natCast]
          simp [h1, hm, hj2, hmj, hm', hj, h136, h136', -List.getD_eq_getElem?_getD, e, lt]
        · have := MInv.step hn q3 hj hmj
          have e1 : seqG l m j = 1 := by unfold seqG; rw [if_neg (by omega)]
          simp only [Int.toNat_natCast] at this
          rw [e1] at this
          exact this
        · intro a ha
          by_cases h : a = m
          · subst h; exact e
          · exact q5 a (by omega)
      · refine ⟨s, ?_, q1, q2, ?_, by omega, ?_⟩
        · show spec_SequenceColouring_l1 l j (k + 1) m z s = _
          rw [spec_SequenceColouring_l1, w64_succ h0 h1 (by omega), edge_eq m j (by omega) (by omega)]
          simp only [Int.toNat_natCast]
          simp [h1, hm, hj2, hmj, hm', hj, h136, h136', -List.getD_eq_getElem?_getD, e, lt]
        · have e1 : seqG l m j = 0 := by unfold seqG; rw [if_pos (by omega)]
          exact MInv.keep hn q3 hj hmj e1
        · intro a ha
          by_cases h : a = m
          · subst h; exact e
          · exact q5 a (by omega)
  · intro k i s h0 h1 ⟨q1, q2, q3, q4, q5⟩
    have : i = j := by omega
    subst this
    refine ⟨_, ?_, .inl ⟨q5, s, rfl, q1, q2, q3⟩⟩
    show spec_SequenceColouring_l1 l j (k + 1) j z s = _
    rw [spec_SequenceColouring_l1]; simp

theorem specSeq (l : List Int) (hn1 : 1 ≤ l.length) (hn : l.length ≤ 17) (k : Nat) (hk : 20 ≤ k) :
    ∃ r, spec_SequenceColouring k l = some r ∧ ((dist l ∧ r.2 = 0 ∧ Made r.1 l.length 2 (seqG l)) ∨ (¬ dist l ∧ r = (Col.zero, 2))) := by
  unfold spec_SequenceColouring
  rw [specIn_eq, decide_eq_true (by omega)]
  simp only [Bool.not_true, Bool.false_eq_true, if_false]
  have := loopI (f := fun k' i (s : Col) => spec_SequenceColouring_l0 k l k' i Col.zero s) (l.length : Int) 1
    (fun i (s : Col) => s.p = l.length ∧ s.k = 2 ∧ MInv l.length (seqG l) i.toNat 0 s.e ∧ i ≤ l.length ∧ ∀ a b : Nat, a < b → b < i.toNat → l.getD a 0 ≠ l.getD b 0)
    (fun r => (dist l ∧ ∃ y : Col, r = .inl (Col.zero, y) ∧ Made y l.length 2 (seqG l)) ∨ (¬ dist l ∧ r = .inr (Col.zero, 2))) ?_ ?_ k 1 (⟨(l.length : Int), 2, B136.zero⟩ : Col) (by omega) (by omega)
    ⟨rfl, rfl, MInv.row (MInv.start _ _), by omega, fun a b h h' => by simp at h'; omega⟩
  · obtain ⟨r, e, h⟩ := this
    rw [e]
    rcases h with ⟨hd, y, rfl, hm⟩ | ⟨hd, rfl⟩
    · exact ⟨_, rfl, .inl ⟨hd, rfl, hm⟩⟩
    · exact ⟨_, rfl, .inr ⟨hd, rfl⟩⟩
  · intro k' i s h0 h1 ⟨q1, q2, q3, _, q5⟩
    obtain ⟨j, rfl⟩ := nat_of (show 0 ≤ i by omega)
    obtain ⟨r, e, h⟩ := specSeq_l1 l hn j (by omega) Col.zero l.length 2 k (by omega) s q1 q2 q3
    rcases h with ⟨hd, y, rfl, p1, p2, p3⟩ | ⟨⟨a, ha, hea⟩, rfl⟩
    · left
      refine ⟨y, ?_, p1, p2, MInv.row p3, by omega, ?_⟩
      · show spec_SequenceColouring_l0 k l (k' + 1) j Col.zero s = _
        rw [spec_SequenceColouring_l0, e, w64_succ (by omega) h1 (by omega)]
        have : j < l.length := by omega
        simp [this]
      · intro a b hab hb
        by_cases hbj : b = j
        · subst hbj; exact hd a hab
        · exact q5 a b hab (by omega)
    · right
      refine ⟨.inr (Col.zero, 2), ?_, .inr ⟨fun hd => hd a j ha (by omega) hea, rfl⟩⟩
      show spec_SequenceColouring_l0 k l (k' + 1) j Col.zero s = _
      rw [spec_SequenceColouring_l0, e]
      have : j < l.length := by omega
      simp [this]
  · intro k' i s h0 h1 ⟨q1, q2, q3, q4, q5⟩
    have : i = l.length := by omega
    subst this
    refine ⟨.inl (Col.zero, s), ?_, .inl ⟨fun a b hab hb => q5 a b hab (by simpa using hb), s, rfl, MInv.made q3 q1 q2⟩⟩
    show spec_SequenceColouring_l0 k l (k' + 1) l.length Col.zero s = _
    rw [spec_SequenceColouring_l0]; simp

/-! ### .. by the program -/
open Classical in
theorem index_eq (k : Nat) (l : List Int) (v : Int) (h : l.length + 1 ≤ k) (hl : (l.length : Int) ≤ 1099511627776) : slices_Contains k l v = some (decide (∃ a, a < l.length ∧ l.getD a 0 = v)) := by
  unfold slices_Contains slices_Index
  have := loopI (f := fun k' i (_ : Unit) => slices_Index_l0 l v k' i) (l.length : Int) 0 (fun i _ => ∀ a, a < i.toNat → l.getD a 0 ≠ v)
    (fun r => ((∃ a, a < l.length ∧ l.getD a 0 = v) ∧ ∃ i, r = .inr i ∧ 0 ≤ i) ∨ (¬ (∃ a, a < l.length ∧ l.getD a 0 = v)) ∧ r = .inl ()) ?_ ?_ k 0 () (by omega) (by omega) (fun a h => by omega)
  · obtain ⟨r, e, h⟩ := this
    rw [e]
    rcases h with ⟨hd, i, rfl, hi⟩ | ⟨hd, rfl⟩
    · simp [hi, -List.getD_eq_getElem?_getD, hd]
    · simp [-List.getD_eq_getElem?_getD, hd]
  · intro k' i _ h0 h1 hq
    obtain ⟨m, rfl⟩ := nat_of h0
    have hm : m < l.length := by omega
    by_cases e : v = l.getD m 0
    · right
      refine ⟨.inr m, ?_, .inl ⟨⟨m, hm, e.symm⟩, m, rfl, h0⟩⟩
      show slices_Index_l0 l v (k' + 1) m = _
      rw [slices_Index_l0]
      simp [hm, -List.getD_eq_getElem?_getD, ← e]
    · left
      refine ⟨(), ?_, ?_⟩
      · show slices_Index_l0 l v (k' + 1) m = _
        rw [slices_Index_l0, w64_succ h0 h1 (by omega)]
        simp [hm, -List.getD_eq_getElem?_getD, e]
      · intro a ha
        by_cases h : a = m
        · subst h; exact fun h => e h.symm
        · exact hq a (by omega)
  · intro k' i _ h0 h1 hq
    refine ⟨.inl (), ?_, .inr ⟨fun ⟨a, ha, he⟩ => hq a (by omega) he, rfl⟩⟩
    show slices_Index_l0 l v (k' + 1) i = _
    rw [slices_Index_l0]
    have : ¬ i < (l.length : Int) := by omega
    simp [this]

theorem implSeq (l : List Int) (hn1 : 1 ≤ l.length) (hn : l.length ≤ 17) (k : Nat) (hk : 20 ≤ k) :
    ∃ r, impl_SequenceColouring k l = some r ∧ ((dist l ∧ r.2 = 0 ∧ Made r.1 l.length 2 (seqG l)) ∨ (¬ dist l ∧ r = (Col.zero, 2))) := by
  classical
  unfold impl_SequenceColouring impl_size
  rw [in_eq, decide_eq_true (by omega)]
  simp only [Bool.not_true, Bool.false_eq_true, if_false]
  have := loopI (f := fun k' i (_ : Unit) => impl_SequenceColouring_l0 k l k' i Col.zero) (l.length : Int) 0
    (fun i _ => ∀ a b : Nat, a < b → b < i.toNat → l.getD a 0 ≠ l.getD b 0)
    (fun r => (dist l ∧ r = .inl Col.zero) ∨ (¬ dist l ∧ r = .inr (Col.zero, 2))) ?_ ?_ k 0 () (by omega) (by omega) (fun a b _ h => by simp at h)
  · obtain ⟨r, e, h⟩ := this
    rw [e]
    rcases h with ⟨hd, rfl⟩ | ⟨hd, rfl⟩
    · obtain ⟨y, ey, hy⟩ := made_eq (fun a0 a1 => impl_SequenceColouring_c1 a0 a1 l) l.length (by omega) (by omega) (fun i j => if l.getD i 0 < l.getD j 0 then 0 else 1) (fun i j hij hj => by
        unfold impl_SequenceColouring_c1
        rw [if_pos (by omega), if_pos (by omega)]
        simp only [Int.toNat_natCast]
        by_cases h : l.getD i 0 < l.getD j 0
        · simp only [h, decide_true, if_true]
        · simp only [h, decide_false, Bool.false_eq_true, if_false]) 2 k (by omega)
      refine ⟨(y, 0), ?_, .inl ⟨hd, rfl, ?_⟩⟩
      · simp only [Option.bind_some]
        rw [ey]; rfl
      · refine ⟨hy.p, hy.k, fun a b ha hb => ?_, hy.z⟩
        rw [hy.e a b ha hb]
        unfold seqG
        by_cases h : l.getD a 0 < l.getD b 0
        · simp only [h, if_true]; rfl
        · simp only [h, if_false]; rfl
    · exact ⟨_, rfl, .inr ⟨hd, rfl⟩⟩
  · intro k' i _ h0 h1 hq
    obtain ⟨m, rfl⟩ := nat_of h0
    have hm : m < l.length := by omega
    have htl : ((l.take m).drop 0).length = m := by simp; omega
    have hidx := index_eq k ((l.take m).drop 0) (l.getD m 0) (by omega) (by omega)
    have hiff : (∃ a, a < ((l.take m).drop 0).length ∧ ((l.take m).drop 0).getD a 0 = l.getD m 0) ↔ ∃ a, a < m ∧ l.getD a 0 = l.getD m 0 := by
      rw [htl]
      refine exists_congr fun a => and_congr_right fun ha => ?_
      simp [List.getD, List.getElem?_take, ha]
    by_cases hc : ∃ a, a < m ∧ l.getD a 0 = l.getD m 0
    · right
      refine ⟨.inr (Col.zero, 2), ?_, .inr ⟨fun hd => by obtain ⟨a, ha, he⟩ := hc; exact hd a m ha hm he, rfl⟩⟩
      show impl_SequenceColouring_l0 k l (k' + 1) m Col.zero = _
      rw [impl_SequenceColouring_l0]
      simp only [Int.toNat_natCast]
      rw [hidx, decide_eq_true (hiff.2 hc)]
      have h2 : (m : Int) ≤ (l.length : Int) := by omega
      simp [h1, h2, hm]
      rfl
    · left
      refine ⟨(), ?_, ?_⟩
      · show impl_SequenceColouring_l0 k l (k' + 1) m Col.zero = _
        rw [impl_SequenceColouring_l0, w64_succ h0 h1 (by omega)]
        simp only [Int.toNat_natCast]
        rw [hidx, decide_eq_false (fun h => hc (hiff.1 h))]
        have h2 : m ≤ l.length := by omega
        simp [h1, h2, hm]
      · intro a b hab hb
        by_cases h : b = m
        · subst h; exact fun he => hc ⟨a, hab, he⟩
        · exact hq a b hab (by omega)
  · intro k' i _ h0 h1 hq
    refine ⟨.inl Col.zero, ?_, .inl ⟨fun a b hab hb => hq a b hab (by omega), rfl⟩⟩
    show impl_SequenceColouring_l0 k l (k' + 1) i Col.zero = _
    rw [impl_SequenceColouring_l0]
    have : ¬ i < (l.length : Int) := by omega
    simp [this]

theorem seq_pure (l : List Int) : laws_FnExactSequenceColouring (l.length + 200) l = some true := by
  unfold laws_FnExactSequenceColouring
  by_cases hb : 1048576 < (l.length : Int)
  · simp [hb]
  rw [toInt64S_eq _ l (by omega) (by omega)]
  simp only [Option.bind_some, hb, decide_false, Bool.false_eq_true, if_false]
  have key : ∃ r, spec_SequenceColouring (l.length + 200) l = some r ∧ impl_SequenceColouring (l.length + 200) l = some r := by
    by_cases h : 1 ≤ l.length ∧ l.length ≤ 17
    · obtain ⟨r, e, h1⟩ := specSeq l h.1 h.2 (l.length + 200) (by omega)
      obtain ⟨r', e', h1'⟩ := implSeq l h.1 h.2 (l.length + 200) (by omega)
      have : r = r' := by
        rcases h1 with ⟨hd, h2, hm⟩ | ⟨hd, h2⟩ <;> rcases h1' with ⟨hd', h2', hm'⟩ | ⟨hd', h2'⟩
        · exact Prod.ext (Made.eq (by omega) (by omega) hm hm' (fun _ _ _ _ => rfl)) (h2.trans h2'.symm)
        · exact (hd' hd).elim
        · exact (hd hd').elim
        · rw [h2, h2']
      exact ⟨r, e, by rw [e', this]⟩
    · refine ⟨(⟨0, 0, B136.zero⟩, 2), ?_, ?_⟩
      · unfold spec_SequenceColouring
        rw [specIn_eq, decide_eq_false (by omega)]; rfl
      · unfold impl_SequenceColouring impl_size
        rw [in_eq, decide_eq_false (by omega)]; rfl
  obtain ⟨r, e, e'⟩ := key
  rw [e]
  simp only [Option.bind_some]
  rw [e']
  simp only [Option.bind_some]
  rw [eqCol_refl _ (by omega), eqInts_refl _ l (by omega) (by omega)]
  simp
end Go.Proofs.Ytgebhhhdckpciaa
