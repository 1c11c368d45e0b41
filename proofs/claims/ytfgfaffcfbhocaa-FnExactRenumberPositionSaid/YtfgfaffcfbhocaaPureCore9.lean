/- Plain laws that positions need: lists, orders. (Collected out of the own texts PureBase, PureMark and PurePerm.) No conditions beyond those that each lemma states. -/
import Derived.Test.YtfgfaffcfbhocaaPKit
import Derived.Test.YtfgfaffcfbhocaaGen9
set_option linter.unusedVariables false
set_option linter.unusedSimpArgs false
namespace Go.Proofs.Ytfgfaffcfbhocaa
open Go Go.RowKit Ab

theorem in_eq (a b c : Int) : impl_in a b c = decide (b ≤ a ∧ a ≤ c) := by
  unfold impl_in letO
  by_cases h : b ≤ a <;> by_cases h' : a ≤ c <;> simp [h, h']

theorem specIn_eq (a b c : Int) : spec_l01In a b c = decide (b ≤ a ∧ a ≤ c) := by
  unfold spec_l01In letO
  by_cases h : b ≤ a <;> by_cases h' : a ≤ c <;> simp [h, h']

theorem number_eq (i j : Int) (hi : 0 ≤ i ∧ i < 17) (hj : 0 ≤ j ∧ j < 17) : impl_number i j = (eN i.toNat j.toNat : Int) := by
  have : ∀ i, i < 17 → ∀ j, j < 17 → impl_number (i : Nat) (j : Nat) = (eN i j : Int) := by decide +kernel
  have h := this i.toNat (by omega) j.toNat (by omega)
  rwa [Int.toNat_of_nonneg hi.1, Int.toNat_of_nonneg hj.1] at h

theorem edge_eq (i j : Int) (hi : 0 ≤ i ∧ i < 17) (hj : 0 ≤ j ∧ j < 17) : spec_l01Edge i j = (eN i.toNat j.toNat : Int) := by
  have : ∀ i, i < 17 → ∀ j, j < 17 → spec_l01Edge (i : Nat) (j : Nat) = (eN i j : Int) := by decide +kernel
  have h := this i.toNat (by omega) j.toNat (by omega)
  rwa [Int.toNat_of_nonneg hi.1, Int.toNat_of_nonneg hj.1] at h

theorem toInt64S_eq (k : Nat) (l : List Int) (h : l.length + 1 ≤ k) (hl : (l.length : Int) ≤ 1099511627776) : laws_toInt64S k l = some l := by
  unfold laws_toInt64S
  rw [if_pos ⟨by omega, by omega, hl⟩]
  have := loopI (f := fun k i s => laws_toInt64S_l0 l k i s) (l.length : Int) 0 (fun i (s : List Int) => s.length = l.length ∧ ∀ j : Nat, (j : Int) < i → s.getD j 0 = l.getD j 0) (fun y => y = l) ?_ ?_ k 0 (List.replicate (l.length : Int).toNat 0) (by omega) (by omega) ⟨by simp, fun j hj => by omega⟩
  · obtain ⟨r, e, rfl⟩ := this
    rw [e]; rfl
  · intro k i s h0 h1 ⟨q1, q2⟩
    left
    refine ⟨s.set i.toNat (l.getD i.toNat 0), ?_, by simp [q1], ?_⟩
    · show laws_toInt64S_l0 l (k + 1) i s = _
      rw [laws_toInt64S_l0, w64_succ h0 h1 (by omega)]
      have : i < (s.length : Int) := by omega
      simp [h0, h1, this]
    · intro j hj
      by_cases e : i.toNat = j
      · subst e
        simp [List.getD, List.getElem?_set, show i.toNat < s.length by omega]
      · have := q2 j (by omega)
        simp only [List.getD] at this ⊢
        rw [List.getElem?_set_ne e, this]
  · intro k i s h0 h1 ⟨q1, q2⟩
    refine ⟨s, ?_, ?_⟩
    · show laws_toInt64S_l0 l (k + 1) i s = _
      rw [laws_toInt64S_l0]
      have : ¬ i < (l.length : Int) := by omega
      simp [this]
    · refine List.ext_getElem q1 fun j hj hj' => ?_
      have := q2 j (by omega)
      simpa [List.getD, hj, hj'] using this

theorem eqInts_refl (k : Nat) (x : List Int) (h : x.length + 1 ≤ k) (hx : (x.length : Int) ≤ 1099511627776) : laws_eqInt64S k x x = some true := by
  unfold laws_eqInt64S
  have := loopAll (f := fun k' i => laws_eqInt64S_l0 x x k' i) (x.length : Int) false (fun _ => True) 0
    (fun k' i h0 h1 _ => by
      show laws_eqInt64S_l0 x x (k' + 1) i = _
      rw [laws_eqInt64S_l0, w64_succ h0 h1 (by omega)]
      simp [h0, h1])
    (fun k' i h0 h1 hq => (hq trivial).elim)
    (fun k' i h1 => by
      show laws_eqInt64S_l0 x x (k' + 1) i = _
      rw [laws_eqInt64S_l0]
      have : ¬ i < (x.length : Int) := by omega
      simp [this]) k 0 (by omega) (by omega)
  rw [this]; simp

/-- 1, 2, 3, .. -/
def marked (n : Nat) : List Int := (List.range n).map fun i : Nat => 1 + (i : Int)

theorem marked_length (n : Nat) : (marked n).length = n := by simp [marked]

theorem marked_get (n i : Nat) (h : i < n) : (marked n).getD i 0 = 1 + i := by simp [marked, List.getD, h]

theorem mark_eq (k : Nat) (l : List Int) (hk : l.length + 1 ≤ k) (hl : (l.length : Int) ≤ 1099511627776) : laws_markInt64S k l 1 = some ((1 : Int) + l.length, marked l.length) := by
  unfold laws_markInt64S
  have := loopI (f := fun k i (s : Int × List Int) => laws_markInt64S_l0 k s.1 i s.2) (l.length : Int) 0 (fun i s => s.2.length = l.length ∧ s.1 = 1 + i ∧ i ≤ l.length ∧ ∀ j : Nat, (j : Int) < i → s.2.getD j 0 = 1 + j)
    (fun r => r = (1 + (l.length : Int), marked l.length)) ?_ ?_ k 0 (1, l) (by omega) (by omega) ⟨rfl, rfl, by omega, fun j h => by omega⟩
  · obtain ⟨r, e, rfl⟩ := this
    rw [e]; rfl
  · intro k i s h0 h1 ⟨q1, q2, _, q4⟩
    left
    refine ⟨(1 + i + 1, s.2.set i.toNat s.1), ?_, by simp [q1], by simp; omega, by omega, ?_⟩
    · show laws_markInt64S_l0 (k + 1) s.1 i s.2 = _
      rw [laws_markInt64S_l0, q1, w64_succ h0 h1 (by omega), q2, w64_id (by omega)]
      simp [h0, h1]
    · intro j hj
      by_cases e : i.toNat = j
      · subst e
        simp only [List.getD, List.getElem?_set_self (show i.toNat < s.2.length by omega), Option.getD_some, q2]
        omega
      · have := q4 j (by omega)
        simp only [List.getD] at this ⊢
        rw [List.getElem?_set_ne e, this]
  · intro k i s h0 h1 ⟨q1, q2, q3, q4⟩
    have hi : i = l.length := by omega
    have e2 : s.2 = marked l.length := by
      refine List.ext_getElem (by rw [q1, marked_length]) fun j hj hj' => ?_
      have h1 := q4 j (by omega)
      have h2 := marked_get l.length j (by omega)
      simp only [List.getD, List.getElem?_eq_getElem hj, Option.getD_some] at h1
      simp only [List.getD, List.getElem?_eq_getElem hj', Option.getD_some] at h2
      rw [h1, h2]
    refine ⟨_, ?_, rfl⟩
    show laws_markInt64S_l0 (k + 1) s.1 i s.2 = _
    rw [laws_markInt64S_l0, q1, e2, q2, hi]
    have : ¬ (l.length : Int) < (l.length : Int) := by omega
    simp only [this, decide_false, Bool.false_eq_true, if_false]

theorem held_eq (k n : Nat) (hk : n + 1 ≤ k) (hl : (n : Int) ≤ 1099511627776) : laws_heldInt64S k (marked n) 1 = some (1 + n) := by
  unfold laws_heldInt64S
  have := loopI (f := fun k i (s : Int) => laws_heldInt64S_l0 (marked n) k s i) (n : Int) 0 (fun i s => s = 1 + i ∧ i ≤ n)
    (fun r => r = .inl (1 + (n : Int))) ?_ ?_ k 0 1 (by omega) (by omega) ⟨rfl, by omega⟩
  · obtain ⟨r, e, rfl⟩ := this
    rw [e]; rfl
  · intro k i s h0 h1 ⟨q1, _⟩
    left
    refine ⟨1 + i + 1, ?_, by omega, by omega⟩
    show laws_heldInt64S_l0 (marked n) (k + 1) s i = _
    rw [laws_heldInt64S_l0, marked_length, w64_succ h0 h1 (by omega), marked_get n i.toNat (by omega), q1, w64_id (by omega)]
    have e : (1 : Int) + (i.toNat : Int) = 1 + i := by omega
    rw [e]
    simp [h0, h1]
  · intro k i s h0 h1 ⟨q1, q2⟩
    refine ⟨_, ?_, rfl⟩
    show laws_heldInt64S_l0 (marked n) (k + 1) s i = _
    rw [laws_heldInt64S_l0, marked_length]
    have : ¬ i < (n : Int) := by omega
    have hi : i = n := by omega
    simp [this, q1, hi]

theorem held_nil (k : Nat) (hk : 1 ≤ k) : laws_heldInt64S k [] 1 = some 1 := held_eq k 0 hk (by omega)

theorem mark_nil (k : Nat) (hk : 1 ≤ k) : laws_markInt64S_d0 k [] 1 = some 1 := by
  unfold laws_markInt64S_d0
  obtain ⟨k, rfl⟩ : ∃ k', k = k' + 1 := ⟨k - 1, by omega⟩
  rw [laws_markInt64S_d0_l0]; simp

def itr {σ : Type} (g : Int → σ → σ) : Nat → Int → σ → σ
  | 0, _, s => s
  | m + 1, i, s => itr g m (i + 1) (g i s)

/-- A loop whose rounds change a state. -/
theorem loopRun {α σ : Type} (f : Nat → Int → σ → Option α) (n : Int) (g : Int → σ → σ) (e : σ → α) (a : Int) (hok : ∀ k i s, a ≤ i → i < n → f (k + 1) i s = f k (i + 1) (g i s)) (hfin : ∀ k i s, n ≤ i → f (k + 1) i s = some (e s)) :
    ∀ k i s, a ≤ i → (n - i).toNat < k → f k i s = some (e (itr g (n - i).toNat i s)) := by
  intro k
  induction k with
  | zero => intro i s _ h; omega
  | succ k ih =>
    intro i s h0 h
    by_cases hi : i < n
    · rw [hok k i s h0 hi, ih (i + 1) _ (by omega) (by omega)]
      have : (n - i).toNat = (n - (i + 1)).toNat + 1 := by omega
      rw [this]; rfl
    · rw [hfin k i s (by omega)]
      have : (n - i).toNat = 0 := by omega
      rw [this]; rfl

def distL (l : List Int) : Prop := ∀ a b : Nat, a < b → b < l.length → l.getD a 0 ≠ l.getD b 0

def isOrd (l : List Int) (n : Int) : Prop := (l.length : Int) = n ∧ (∀ a : Nat, a < l.length → 0 ≤ l.getD a 0 ∧ l.getD a 0 < n) ∧ distL l

theorem distL_nodup (l : List Int) : distL l ↔ l.Nodup := by
  unfold distL List.Nodup
  rw [List.pairwise_iff_getElem]
  constructor
  · intro h i j hi hj hij
    have := h i j hij hj
    simpa [List.getD, hi, hj] using this
  · intro h i j hij hj
    have := h i j (by omega) hj hij
    simpa [List.getD, hj, show i < l.length by omega] using this

theorem sorted_mem (l : List Int) (x : Int) : x ∈ sorted l ↔ x ∈ l := by
  unfold sorted
  exact (List.mergeSort_perm l _).mem_iff

theorem sorted_pw (l : List Int) : (sorted l).Pairwise (· ≤ ·) := by
  unfold sorted
  have := List.pairwise_mergeSort (le := fun x y : Int => decide (x ≤ y)) (fun a b c h1 h2 => by simp at *; omega) (fun a b => by simp; omega) l
  refine this.imp fun h => ?_
  simpa using h

theorem sorted_nodup (l : List Int) : (sorted l).Nodup ↔ l.Nodup := by
  unfold sorted
  exact (List.mergeSort_perm l _).nodup_iff

theorem mem_getD {l : List Int} {x : Int} : x ∈ l ↔ ∃ a, a < l.length ∧ l.getD a 0 = x := by
  constructor
  · intro h
    obtain ⟨a, ha, e⟩ := List.getElem_of_mem h
    exact ⟨a, ha, by simp [List.getD, ha, e]⟩
  · rintro ⟨a, ha, rfl⟩
    simp [List.getD, ha]

/-- A list sorted shows whether it is an order. -/
theorem order_iff (l : List Int) : (∀ i : Nat, i < l.length → (sorted l).getD i 0 = i) ↔ ((∀ a : Nat, a < l.length → 0 ≤ l.getD a 0 ∧ l.getD a 0 < l.length) ∧ distL l) := by
  constructor
  · intro h
    have hm : ∀ x ∈ l, 0 ≤ x ∧ x < l.length := fun x hx => by
      have hx' := (sorted_mem l x).2 hx
      obtain ⟨a, ha, rfl⟩ := mem_getD.1 hx'
      rw [sorted_length] at ha
      rw [h a ha]; omega
    refine ⟨fun a ha => hm _ (mem_getD.2 ⟨a, ha, rfl⟩), ?_⟩
    rw [distL_nodup, ← sorted_nodup, ← distL_nodup]
    intro a b hab hb
    rw [sorted_length] at hb
    rw [h a (by omega), h b hb]; omega
  · rintro ⟨hr, hd⟩
    have hs : distL (sorted l) := by rw [distL_nodup, sorted_nodup, ← distL_nodup]; exact hd
    have hp := sorted_pw l
    rw [List.pairwise_iff_getElem] at hp
    have hlt : ∀ a b : Nat, a < b → b < l.length → (sorted l).getD a 0 < (sorted l).getD b 0 := fun a b hab hb => by
      have h1 := hs a b hab (by rw [sorted_length]; exact hb)
      have ha' : a < (sorted l).length := by rw [sorted_length]; omega
      have hb' : b < (sorted l).length := by rw [sorted_length]; omega
      have h2 := hp a b ha' hb' hab
      simp only [List.getD, List.getElem?_eq_getElem ha', List.getElem?_eq_getElem hb', Option.getD_some] at h1 ⊢
      omega
    have hb : ∀ a : Nat, a < l.length → 0 ≤ (sorted l).getD a 0 ∧ (sorted l).getD a 0 < l.length := fun a ha => by
      have : (sorted l).getD a 0 ∈ l := (sorted_mem l _).1 (mem_getD.2 ⟨a, by rw [sorted_length]; exact ha, rfl⟩)
      obtain ⟨b, hb, e⟩ := mem_getD.1 this
      rw [← e]; exact hr b hb
    have lo : ∀ a : Nat, a < l.length → (a : Int) ≤ (sorted l).getD a 0 := by
      intro a
      induction a with
      | zero => intro h; have := (hb 0 h).1; omega
      | succ a ih => intro h; have := ih (by omega); have := hlt a (a + 1) (by omega) h; omega
    have hi : ∀ d a : Nat, a < l.length → a + 1 + d = l.length → (sorted l).getD a 0 ≤ a := by
      intro d
      induction d with
      | zero => intro a ha e; have := (hb a ha).2; omega
      | succ d ih => intro a ha e; have := ih (a + 1) (by omega) (by omega); have := hlt a (a + 1) (by omega) (by omega); omega
    intro i h
    have := lo i h
    have := hi (l.length - i - 1) i h (by omega)
    omega

open Classical in
theorem implOrder_eq (k : Nat) (l : List Int) (n : Int) (hk : l.length + 1 ≤ k) (hl : (l.length : Int) ≤ 1099511627776) : impl_isOrder k l n = some (decide (isOrd l n)) := by
  unfold impl_isOrder sortedI
  rw [if_pos (by omega)]
  have := loopAll (f := fun k' i => impl_isOrder_l0 (sorted l) k' i) (l.length : Int) false (fun i => (sorted l).getD i.toNat 0 = i) 0
    (fun k' i h0 h1 hq => by
      show impl_isOrder_l0 (sorted l) (k' + 1) i = _
      rw [impl_isOrder_l0, w64_succ h0 h1 (by omega), hq, sorted_length]
      simp [h0, h1])
    (fun k' i h0 h1 hq => by
      show impl_isOrder_l0 (sorted l) (k' + 1) i = _
      rw [impl_isOrder_l0, sorted_length]
      have : ¬ i = (sorted l).getD i.toNat 0 := fun e => hq e.symm
      simp only [h1, decide_true, if_true, h0, true_and, this, decide_false, Bool.not_false])
    (fun k' i h1 => by
      show impl_isOrder_l0 (sorted l) (k' + 1) i = _
      rw [impl_isOrder_l0, sorted_length]
      have : ¬ i < (l.length : Int) := by omega
      simp [this]) k 0 (by omega) (by omega)
  simp only [Option.bind_some]
  rw [this]
  have key : (∀ j : Int, 0 ≤ j → j < l.length → (sorted l).getD j.toNat 0 = j) ↔ ((∀ a : Nat, a < l.length → 0 ≤ l.getD a 0 ∧ l.getD a 0 < l.length) ∧ distL l) := by
    rw [← order_iff]
    constructor
    · intro h i hi; have := h i (by omega) (by omega); simpa using this
    · intro h j h0 h1; obtain ⟨m, rfl⟩ := nat_of h0; have := h m (by omega); simpa using this
  by_cases ha : ∀ j : Int, 0 ≤ j → j < l.length → (sorted l).getD j.toNat 0 = j
  · rw [if_pos ha]
    have hk2 := key.1 ha
    simp only [Option.bind_some]
    congr 1
    by_cases hn : (l.length : Int) = n
    · have : isOrd l n := ⟨hn, fun a h => by rw [← hn]; exact hk2.1 a h, hk2.2⟩
      simp [this, impl_size, hn]
    · have : ¬ isOrd l n := fun h => hn h.1
      simp [this, impl_size, hn]
  · rw [if_neg ha]
    have : ¬ isOrd l n := fun h => ha (key.2 ⟨fun a h' => by have := h.2.1 a h'; rw [h.1]; exact this, h.2.2⟩)
    simp [this]

open Classical in
theorem specOrder_eq (k : Nat) (l : List Int) (n : Int) (hk : l.length + 1 ≤ k) (hl : (l.length : Int) ≤ 1099511627776) (hn : 1 ≤ n ∧ n ≤ 17) : spec_l01Order k l n = some (decide (isOrd l n)) := by
  unfold spec_l01Order
  rw [if_pos ⟨by omega, by omega, by omega⟩]
  have := loopI (f := fun k' i (s : List Bool) => spec_l01Order_l0 l n k' i s) (l.length : Int) 0
    (fun i s => (s.length : Int) = n ∧ i ≤ l.length ∧ (∀ a : Nat, a < i.toNat → 0 ≤ l.getD a 0 ∧ l.getD a 0 < n) ∧ (∀ a b : Nat, a < b → b < i.toNat → l.getD a 0 ≠ l.getD b 0) ∧
      ∀ v : Nat, (v : Int) < n → (s.getD v false = true ↔ ∃ a : Nat, a < i.toNat ∧ l.getD a 0 = v))
    (fun r => (r = .inl () ∧ (∀ a : Nat, a < l.length → 0 ≤ l.getD a 0 ∧ l.getD a 0 < n) ∧ distL l) ∨ (r = .inr false ∧ ¬ ((∀ a : Nat, a < l.length → 0 ≤ l.getD a 0 ∧ l.getD a 0 < n) ∧ distL l))) ?_ ?_ k 0 (List.replicate n.toNat false) (by omega) (by omega)
    ⟨by simp; omega, by omega, fun a h => by omega, fun a b h h' => by omega, fun v hv => by
      have : (List.replicate n.toNat false).getD v false = false := by
        rw [List.getD_eq_getElem?_getD, List.getElem?_replicate]; split <;> rfl
      rw [this]
      simp⟩
  · obtain ⟨r, e, h⟩ := this
    rw [e]
    rcases h with ⟨rfl, h1, h2⟩ | ⟨rfl, h⟩
    · simp only [Option.bind_some]
      by_cases hq : (l.length : Int) = n
      · have : isOrd l n := ⟨hq, h1, h2⟩
        simp [this, hq]
      · have : ¬ isOrd l n := fun h => hq h.1
        simp [this, hq]
    · have : ¬ isOrd l n := fun h' => h ⟨h'.2.1, h'.2.2⟩
      simp [this]
  · intro k' i s h0 h1 ⟨q1, _, q3, q4, q5⟩
    obtain ⟨m, rfl⟩ := nat_of h0
    have hm : m < l.length := by omega
    simp only [Int.toNat_natCast] at q3 q4 q5
    by_cases hr : 0 ≤ l.getD m 0 ∧ l.getD m 0 ≤ n - 1
    · obtain ⟨v, hv⟩ := nat_of hr.1
      have hvn : (v : Int) < n := by omega
      have hvs : v < s.length := by omega
      by_cases hmet : s.getD v false = true
      · right
        obtain ⟨a, ha, e⟩ := (q5 v hvn).1 hmet
        refine ⟨_, ?_, .inr ⟨rfl, fun h => h.2 a m ha hm (by rw [e, hv])⟩⟩
        show spec_l01Order_l0 l n (k' + 1) m s = _
        rw [spec_l01Order_l0, specIn_eq, w64_id (n := n - 1) (by omega)]
        simp only [Int.toNat_natCast, hv] at hr ⊢
        simp only [hr, h1, q1, hvn, hmet, decide_true, Bool.not_true, Bool.false_eq_true, if_false, if_true, and_self, Option.bind_some, Int.toNat_natCast, h0, Int.natCast_nonneg]
      · left
        have hmet' : s.getD v false = false := by simpa using hmet
        refine ⟨s.set v true, ?_, by simpa using q1, by omega, ?_, ?_, ?_⟩
        · show spec_l01Order_l0 l n (k' + 1) m s = _
          rw [spec_l01Order_l0, specIn_eq, w64_id (n := n - 1) (by omega), w64_succ h0 h1 (by omega)]
          simp only [Int.toNat_natCast, hv] at hr ⊢
          simp only [hr, h1, q1, hvn, hmet', decide_true, Bool.not_true, Bool.false_eq_true, if_false, if_true, and_self, Option.bind_some, Int.toNat_natCast, h0, Int.natCast_nonneg]
        · intro a ha
          by_cases e : a = m
          · subst e; omega
          · exact q3 a (by omega)
        · intro a b hab hb
          by_cases e : b = m
          · subst e
            intro e2
            exact hmet ((q5 v hvn).2 ⟨a, hab, by rw [e2, hv]⟩)
          · exact q4 a b hab (by omega)
        · intro u hu
          by_cases e : v = u
          · subst e
            simp only [List.getD, List.getElem?_set_self hvs, Option.getD_some, true_iff]
            exact ⟨m, by omega, hv⟩
          · have := q5 u hu
            simp only [List.getD] at this ⊢
            rw [List.getElem?_set_ne e, this]
            constructor
            · rintro ⟨a, ha, e'⟩; exact ⟨a, by omega, e'⟩
            · rintro ⟨a, ha, e'⟩
              refine ⟨a, ?_, e'⟩
              by_cases e2 : a = m
              · subst e2
                rw [show (l[a]?.getD 0) = l.getD a 0 from rfl, hv] at e'
                omega
              · omega
    · right
      refine ⟨_, ?_, .inr ⟨rfl, fun h => hr ⟨(h.1 m hm).1, by have := (h.1 m hm).2; omega⟩⟩⟩
      show spec_l01Order_l0 l n (k' + 1) m s = _
      rw [spec_l01Order_l0, specIn_eq, w64_id (n := n - 1) (by omega)]
      simp only [Int.toNat_natCast, hr, h1, h0, decide_true, decide_false, Bool.not_false, if_true, and_self, Option.bind_some]
  · intro k' i s h0 h1 ⟨q1, q2, q3, q4, q5⟩
    have : i = l.length := by omega
    subst this
    simp only [Int.toNat_natCast] at q3 q4
    refine ⟨_, ?_, .inl ⟨rfl, q3, q4⟩⟩
    show spec_l01Order_l0 l n (k' + 1) l.length s = _
    rw [spec_l01Order_l0]; simp

theorem ord_pts {l : List Int} {n : Int} (h : isOrd l n) (hn : n ≤ 17) {i j : Nat} (hij : i < j) (hj : (j : Int) < n) :
    ∃ a b : Nat, l.getD i 0 = a ∧ l.getD j 0 = b ∧ a ≠ b ∧ a < 17 ∧ b < 17 := by
  have h1 := h.2.1 i (by have := h.1; omega)
  have h2 := h.2.1 j (by have := h.1; omega)
  have h3 := h.2.2 i j hij (by have := h.1; omega)
  exact ⟨(l.getD i 0).toNat, (l.getD j 0).toNat, by omega, by omega, by omega, by omega, by omega⟩

end Go.Proofs.Ytfgfaffcfbhocaa
