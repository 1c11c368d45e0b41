/- Orders: lists with the numbers from 0 on, each once; points renumbered. No conditions beyond those that each lemma states. -/
import Derived.Test.YtjkanhdklfgghaaPureMade
set_option linter.unusedVariables false
set_option linter.unusedSimpArgs false
namespace Go.Proofs.Ytjkanhdklfgghaa
open Go Go.RowKit Ab

def itr {σ : Type} (g : Int → σ → σ) : Nat → Int → σ → σ
  | 0, _, s => s
  | m + 1, i, s => itr g m (i + 1) (g i s)

/-- A loop whose rounds change a state. -/
theorem loopRun {α σ : Type} (f : Nat → Int → σ → Option α) (n : Int) (g : Int → σ → σ) (e : σ → α) (a : Int) (hok : ∀ k i s, a ≤ i → i < n → f (k + 1) i s = f k (i + 1) (g i s)) (hfin : ∀ k i s, n ≤ i → f (k + 1) i s = some (e s)) :
    ∀ k i s, a ≤ i → (n - i).toNat < k → f k i s = some (e (itr g (n - i).toNat i s)) := by
  intro k
  induction k with
  | zero => intro i s _ h; omega
  | succ k ih =>
    intro i s h0 h
    by_cases hi : i < n
    · rw [hok k i s h0 hi, ih (i + 1) _ (by omega) (by omega)]
      have : (n - i).toNat = (n - (i + 1)).toNat + 1 := by omega
      rw [this]; rfl
    · rw [hfin k i s (by omega)]
      have : (n - i).toNat = 0 := by omega
      rw [this]; rfl

def distL (l : List Int) : Prop := ∀ a b : Nat, a < b → b < l.length → l.getD a 0 ≠ l.getD b 0
def isOrd (l : List Int) (n : Int) : Prop := (l.length : Int) = n ∧ (∀ a : Nat, a < l.length → 0 ≤ l.getD a 0 ∧ l.getD a 0 < n) ∧ distL l

theorem distL_nodup (l : List Int) : distL l ↔ l.Nodup := by
  unfold distL List.Nodup
  rw [List.pairwise_iff_getElem]
  constructor
  · intro h i j hi hj hij
    have := h i j hij hj
    simpa [List.getD, hi, hj] using this
  · intro h i j hij hj
    have := h i j (by omega) hj hij
    simpa [List.getD, hj, show i < l.length by omega] using this

theorem sorted_mem (l : List Int) (x : Int) : x ∈ sorted l ↔ x ∈ l := by
  unfold sorted
  exact (List.mergeSort_perm l _).mem_iff
theorem sorted_pw (l : List Int) : (sorted l).Pairwise (· ≤ ·) := by
  unfold sorted
  have := List.pairwise_mergeSort (le := fun x y : Int => decide (x ≤ y)) (fun a b c h1 h2 => by simp at *; omega) (fun a b => by simp; omega) l
  refine this.imp fun h => ?_
  simpa using h
theorem sorted_nodup (l : List Int) : (sorted l).Nodup ↔ l.Nodup := by
  unfold sorted
  exact (List.mergeSort_perm l _).nodup_iff

theorem mem_getD {l : List Int} {x : Int} : x ∈ l ↔ ∃ a, a < l.length ∧ l.getD a 0 = x := by
  constructor
  · intro h
    obtain ⟨a, ha, e⟩ := List.getElem_of_mem h
    exact ⟨a, ha, by simp [List.getD, ha, e]⟩
  · rintro ⟨a, ha, rfl⟩
    simp [List.getD, ha]

/-- A list sorted shows whether it is an order. -/
theorem order_iff (l : List Int) : (∀ i : Nat, i < l.length → (sorted l).getD i 0 = i) ↔ ((∀ a : Nat, a < l.length → 0 ≤ l.getD a 0 ∧ l.getD a 0 < l.length) ∧ distL l) := by
  constructor
  · intro h
    have hm : ∀ x ∈ l, 0 ≤ x ∧ x < l.length := fun x hx => by
      have hx' := (sorted_mem l x).2 hx
      obtain ⟨a, ha, rfl⟩ := mem_getD.1 hx'
      rw [sorted_length] at ha
      rw [h a ha]; omega
    refine ⟨fun a ha => hm _ (mem_getD.2 ⟨a, ha, rfl⟩), ?_⟩
    rw [distL_nodup, ← sorted_nodup, ← distL_nodup]
    intro a b hab hb
    rw [sorted_length] at hb
    rw [h a (by omega), h b hb]; omega
  · rintro ⟨hr, hd⟩
    have hs : distL (sorted l) := by rw [distL_nodup, sorted_nodup, ← distL_nodup]; exact hd
    have hp := sorted_pw l
    rw [List.pairwise_iff_getElem] at hp
    have hlt : ∀ a b : Nat, a < b → b < l.length → (sorted l).getD a 0 < (sorted l).getD b 0 := fun a b hab hb => by
      have h1 := hs a b hab (by rw [sorted_length]; exact hb)
      have ha' : a < (sorted l).length := by rw [sorted_length]; omega
      have hb' : b < (sorted l).length := by rw [sorted_length]; omega
      have h2 := hp a b ha' hb' hab
      simp only [List.getD, List.getElem?_eq_getElem ha', List.getElem?_eq_getElem hb', Option.getD_some] at h1 ⊢
      omega
    have hb : ∀ a : Nat, a < l.length → 0 ≤ (sorted l).getD a 0 ∧ (sorted l).getD a 0 < l.length := fun a ha => by
      have : (sorted l).getD a 0 ∈ l := (sorted_mem l _).1 (mem_getD.2 ⟨a, by rw [sorted_length]; exact ha, rfl⟩)
      obtain ⟨b, hb, e⟩ := mem_getD.1 this
      rw [← e]; exact hr b hb
    have lo : ∀ a : Nat, a < l.length → (a : Int) ≤ (sorted l).getD a 0 := by
      intro a
      induction a with
      | zero => intro h; have := (hb 0 h).1; omega
      | succ a ih => intro h; have := ih (by omega); have := hlt a (a + 1) (by omega) h; omega
    have hi : ∀ d a : Nat, a < l.length → a + 1 + d = l.length → (sorted l).getD a 0 ≤ a := by
      intro d
      induction d with
      | zero => intro a ha e; have := (hb a ha).2; omega
      | succ d ih => intro a ha e; have := ih (a + 1) (by omega) (by omega); have := hlt a (a + 1) (by omega) (by omega); omega
    intro i h
    have := lo i h
    have := hi (l.length - i - 1) i h (by omega)
    omega

open Classical in
theorem implOrder_eq (k : Nat) (l : List Int) (n : Int) (hk : l.length + 1 ≤ k) (hl : (l.length : Int) ≤ 1099511627776) : impl_isOrder k l n = some (decide (isOrd l n)) := by
  unfold impl_isOrder sortedI
  rw [if_pos (by omega)]
  have := loopAll (f := fun k' i => impl_isOrder_l0 (sorted l) k' i) (l.length : Int) false (fun i => (sorted l).getD i.toNat 0 = i) 0
    (fun k' i h0 h1 hq => by
      show impl_isOrder_l0 (sorted l) (k' + 1) i = _
      rw [impl_isOrder_l0, w64_succ h0 h1 (by omega), hq, sorted_length]
      simp [h0, h1])
    (fun k' i h0 h1 hq => by
      show impl_isOrder_l0 (sorted l) (k' + 1) i = _
      rw [impl_isOrder_l0, sorted_length]
      have : ¬ i = (sorted l).getD i.toNat 0 := fun e => hq e.symm
      simp only [h1, decide_true, if_true, h0, true_and, this, decide_false, Bool.not_false])
    (fun k' i h1 => by
      show impl_isOrder_l0 (sorted l) (k' + 1) i = _
      rw [impl_isOrder_l0, sorted_length]
      have : ¬ i < (l.length : Int) := by omega
      simp [this]) k 0 (by omega) (by omega)
  simp only [Option.bind_some]
  rw [this]
  have key : (∀ j : Int, 0 ≤ j → j < l.length → (sorted l).getD j.toNat 0 = j) ↔ ((∀ a : Nat, a < l.length → 0 ≤ l.getD a 0 ∧ l.getD a 0 < l.length) ∧ distL l) := by
    rw [← order_iff]
    constructor
    · intro h i hi; have := h i (by omega) (by omega); simpa using this
    · intro h j h0 h1; obtain ⟨m, rfl⟩ := nat_of h0; have := h m (by omega); simpa using this
  by_cases ha : ∀ j : Int, 0 ≤ j → j < l.length → (sorted l).getD j.toNat 0 = j
  · rw [if_pos ha]
    have hk2 := key.1 ha
    simp only [Option.bind_some]
    congr 1
    by_cases hn : (l.length : Int) = n
    · have : isOrd l n := ⟨hn, fun a h => by rw [← hn]; exact hk2.1 a h, hk2.2⟩
      simp [this, impl_size, hn]
    · have : ¬ isOrd l n := fun h => hn h.1
      simp [this, impl_size, hn]
  · rw [if_neg ha]
    have : ¬ isOrd l n := fun h => ha (key.2 ⟨fun a h' => by have := h.2.1 a h'; rw [h.1]; exact this, h.2.2⟩)
    simp [this]

open Classical in
theorem specOrder_eq (k : Nat) (l : List Int) (n : Int) (hk : l.length + 1 ≤ k) (hl : (l.length : Int) ≤ 1099511627776) (hn : 1 ≤ n ∧ n ≤ 17) : spec_l01Order k l n = some (decide (isOrd l n)) := by
  unfold spec_l01Order
  rw [if_pos ⟨by omega, by omega, by omega⟩]
  have := loopI (f := fun k' i (s : List Bool) => spec_l01Order_l0 l n k' i s) (l.length : Int) 0
    (fun i s => (s.length : Int) = n ∧ i ≤ l.length ∧ (∀ a : Nat, a < i.toNat → 0 ≤ l.getD a 0 ∧ l.getD a 0 < n) ∧ (∀ a b : Nat, a < b → b < i.toNat → l.getD a 0 ≠ l.getD b 0) ∧
      ∀ v : Nat, (v : Int) < n → (s.getD v false = true ↔ ∃ a : Nat, a < i.toNat ∧ l.getD a 0 = v))
    (fun r => (r = .inl () ∧ (∀ a : Nat, a < l.length → 0 ≤ l.getD a 0 ∧ l.getD a 0 < n) ∧ distL l) ∨ (r = .inr false ∧ ¬ ((∀ a : Nat, a < l.length → 0 ≤ l.getD a 0 ∧ l.getD a 0 < n) ∧ distL l))) ?_ ?_ k 0 (List.replicate n.toNat false) (by omega) (by omega)
    ⟨by simp; omega, by omega, fun a h => by omega, fun a b h h' => by omega, fun v hv => by
      have : (List.replicate n.toNat false).getD v false = false := by
        rw [List.getD_eq_getElem?_getD, List.getElem?_replicate]; split <;> rfl
      rw [this]
      simp⟩
  · obtain ⟨r, e, h⟩ := this
    rw [e]
    rcases h with ⟨rfl, h1, h2⟩ | ⟨rfl, h⟩
    · simp only [Option.bind_some]
      by_cases hq : (l.length : Int) = n
      · have : isOrd l n := ⟨hq, h1, h2⟩
        simp [this, hq]
      · have : ¬ isOrd l n := fun h => hq h.1
        simp [this, hq]
    · have : ¬ isOrd l n := fun h' => h ⟨h'.2.1, h'.2.2⟩
      simp [this]
  · intro k' i s h0 h1 ⟨q1, _, q3, q4, q5⟩
    obtain ⟨m, rfl⟩ := nat_of h0
    have hm : m < l.length := by omega
    simp only [Int.toNat_natCast] at q3 q4 q5
    by_cases hr : 0 ≤ l.getD m 0 ∧ l.getD m 0 ≤ n - 1
    · obtain ⟨v, hv⟩ := nat_of hr.1
      have hvn : (v : Int) < n := by omega
      have hvs : v < s.length := by omega
      by_cases hmet : s.getD v false = true
      · right
        obtain ⟨a, ha, e⟩ := (q5 v hvn).1 hmet
        refine ⟨_, ?_, .inr ⟨rfl, fun h => h.2 a m ha hm (by rw [e, hv])⟩⟩
        show spec_l01Order_l0 l n (k' + 1) m s = _
        rw [spec_l01Order_l0, specIn_eq, w64_id (n := n - 1) (by omega)]
        simp only [Int.toNat_natCast, hv] at hr ⊢
        simp only [hr, h1, q1, hvn, hmet, decide_true, Bool.not_true, Bool.false_eq_true, if_false, if_true, and_self, Option.bind_some, Int.toNat_natCast, h0, Int.natCast_nonneg]
      · left
        have hmet' : s.getD v false = false := by simpa using hmet
        refine ⟨s.set v true, ?_, by simpa using q1, by omega, ?_, ?_, ?_⟩
        · show spec_l01Order_l0 l n (k' + 1) m s = _
          rw [spec_l01Order_l0, specIn_eq, w64_id (n := n - 1) (by omega), w64_succ h0 h1 (by omega)]
          simp only [Int.toNat_natCast, hv] at hr ⊢
          simp only [hr, h1, q1, hvn, hmet', decide_true, Bool.not_true, Bool.false_eq_true, if_false, if_true, and_self, Option.bind_some, Int.toNat_natCast, h0, Int.natCast_nonneg]
        · intro a ha
          by_cases e : a = m
          · subst e; omega
          · exact q3 a (by omega)
        · intro a b hab hb
          by_cases e : b = m
          · subst e
            intro e2
            exact hmet ((q5 v hvn).2 ⟨a, hab, by rw [e2, hv]⟩)
          · exact q4 a b hab (by omega)
        · intro u hu
          by_cases e : v = u
          · subst e
            simp only [List.getD, List.getElem?_set_self hvs, Option.getD_some, true_iff]
            exact ⟨m, by omega, hv⟩
          · have := q5 u hu
            simp only [List.getD] at this ⊢
            rw [List.getElem?_set_ne e, this]
            constructor
            · rintro ⟨a, ha, e'⟩; exact ⟨a, by omega, e'⟩
            · rintro ⟨a, ha, e'⟩
              refine ⟨a, ?_, e'⟩
              by_cases e2 : a = m
              · subst e2
                rw [show (l[a]?.getD 0) = l.getD a 0 from rfl, hv] at e'
                omega
              · omega
    · right
      refine ⟨_, ?_, .inr ⟨rfl, fun h => hr ⟨(h.1 m hm).1, by have := (h.1 m hm).2; omega⟩⟩⟩
      show spec_l01Order_l0 l n (k' + 1) m s = _
      rw [spec_l01Order_l0, specIn_eq, w64_id (n := n - 1) (by omega)]
      simp only [Int.toNat_natCast, hr, h1, h0, decide_true, decide_false, Bool.not_false, if_true, and_self, Option.bind_some]
  · intro k' i s h0 h1 ⟨q1, q2, q3, q4, q5⟩
    have : i = l.length := by omega
    subst this
    simp only [Int.toNat_natCast] at q3 q4
    refine ⟨_, ?_, .inl ⟨rfl, q3, q4⟩⟩
    show spec_l01Order_l0 l n (k' + 1) l.length s = _
    rw [spec_l01Order_l0]; simp

/-! ### Points renumbered -/
def renStep (x : Col) (l : List Int) (j i : Int) (s : Col) : Col := s.set (eN (l.getD i.toNat 0).toNat (l.getD j.toNat 0).toNat) (toByte (x.cc i j))
def renRow (x : Col) (l : List Int) (j : Int) (s : Col) : Col := itr (renStep x l j) j.toNat 0 s
def ren (x : Col) (l : List Int) : Col := itr (renRow x l) (x.p - 1).toNat 1 ⟨x.p, x.k, B136.zero⟩

theorem ord_pts {l : List Int} {n : Int} (h : isOrd l n) (hn : n ≤ 17) {i j : Nat} (hij : i < j) (hj : (j : Int) < n) :
    ∃ a b : Nat, l.getD i 0 = a ∧ l.getD j 0 = b ∧ a ≠ b ∧ a < 17 ∧ b < 17 := by
  have h1 := h.2.1 i (by have := h.1; omega)
  have h2 := h.2.1 j (by have := h.1; omega)
  have h3 := h.2.2 i j hij (by have := h.1; omega)
  exact ⟨(l.getD i 0).toNat, (l.getD j 0).toNat, by omega, by omega, by omega, by omega, by omega⟩

theorem specRen_l1 (x : Col) (l : List Int) (hn : x.p ≤ 17) (h : isOrd l x.p) (j : Int) (hj0 : 0 ≤ j) (hj : j < x.p) (k : Nat) (hk : 18 ≤ k) (s : Col) : spec_l01Renamed_l1 x l j k 0 s = some (renRow x l j s) := by
  have hlen := h.1
  have := loopRun (fun k i s => spec_l01Renamed_l1 x l j k i s) j (renStep x l j) id 0
    (fun k i s h0 h1 => by
      show spec_l01Renamed_l1 x l j (k + 1) i s = _
      obtain ⟨m, rfl⟩ := nat_of h0
      obtain ⟨q, rfl⟩ := nat_of hj0
      obtain ⟨a, b, ea, eb, hab, ha, hb⟩ := ord_pts h hn (show m < q by omega) hj
      have h136 := eN_136 hab ha hb
      rw [spec_l01Renamed_l1, specAt_eq x _ _ h0 h1 hj0 (by omega), w64_succ h0 h1 (by omega)]
      simp only [Int.toNat_natCast, ea, eb]
      rw [edge_eq a b (by omega) (by omega)]
      simp only [renStep, Int.toNat_natCast, ea, eb]
      have e1 : (m : Int) < (l.length : Int) := by omega
      have e2 : (q : Int) < (l.length : Int) := by omega
      have e3 : ((eN a b : Nat) : Int) < 136 := by omega
      simp only [h1, e1, e2, e3, decide_true, if_true, Int.natCast_nonneg, and_self, Option.bind_some])
    (fun k i s h0 => by
      show spec_l01Renamed_l1 x l j (k + 1) i s = _
      rw [spec_l01Renamed_l1]
      have : ¬ i < j := by omega
      simp [this]) k 0 s (by omega) (by omega)
  rw [this]
  simp [renRow]

theorem implRen_l1 (x : Col) (l : List Int) (hn : x.p ≤ 17) (h : isOrd l x.p) (j : Int) (hj0 : 0 ≤ j) (hj : j < x.p) (k : Nat) (hk : 18 ≤ k) (s : Col) : impl_Colouring_renumbered_l1 x l j k 0 s = some (renRow x l j s) := by
  have hlen := h.1
  have := loopRun (fun k i s => impl_Colouring_renumbered_l1 x l j k i s) j (renStep x l j) id 0
    (fun k i s h0 h1 => by
      show impl_Colouring_renumbered_l1 x l j (k + 1) i s = _
      obtain ⟨m, rfl⟩ := nat_of h0
      obtain ⟨q, rfl⟩ := nat_of hj0
      obtain ⟨a, b, ea, eb, hab, ha, hb⟩ := ord_pts h hn (show m < q by omega) hj
      have h136 := eN_136 hab ha hb
      rw [impl_Colouring_renumbered_l1, implAt_eq x _ _ h0 h1 hj0 (by omega), w64_succ h0 h1 (by omega)]
      simp only [Int.toNat_natCast, ea, eb]
      unfold impl_Colouring_put
      rw [number_eq a b (by omega) (by omega)]
      simp only [renStep, Int.toNat_natCast, ea, eb]
      have e1 : (m : Int) < (l.length : Int) := by omega
      have e2 : (q : Int) < (l.length : Int) := by omega
      have e3 : ((eN a b : Nat) : Int) < 136 := by omega
      simp only [h1, e1, e2, e3, decide_true, if_true, Int.natCast_nonneg, and_self, Option.bind_some])
    (fun k i s h0 => by
      show impl_Colouring_renumbered_l1 x l j (k + 1) i s = _
      rw [impl_Colouring_renumbered_l1]
      have : ¬ i < j := by omega
      simp [this]) k 0 s (by omega) (by omega)
  rw [this]
  simp [renRow]

theorem specRen_eq (x : Col) (l : List Int) (hn : 1 ≤ x.p ∧ x.p ≤ 17) (h : isOrd l x.p) (k : Nat) (hk : 20 ≤ k) : spec_l01Renamed k x l = some (ren x l) := by
  unfold spec_l01Renamed
  have := loopRun (fun k' i s => spec_l01Renamed_l0 k x l k' i s) x.p (renRow x l) id 1
    (fun k' i s h0 h1 => by
      show spec_l01Renamed_l0 k x l (k' + 1) i s = _
      rw [spec_l01Renamed_l0, specRen_l1 x l hn.2 h i (by omega) h1 k (by omega), w64_succ (by omega) h1 (by omega)]
      simp [h1])
    (fun k' i s h0 => by
      show spec_l01Renamed_l0 k x l (k' + 1) i s = _
      rw [spec_l01Renamed_l0]
      have : ¬ i < x.p := by omega
      simp [this]) k 1 ⟨x.p, x.k, B136.zero⟩ (by omega) (by omega)
  rw [this]; rfl

theorem implRen_eq (x : Col) (l : List Int) (hn : 1 ≤ x.p ∧ x.p ≤ 17) (h : isOrd l x.p) (k : Nat) (hk : 20 ≤ k) : impl_Colouring_renumbered k x l = some (ren x l) := by
  unfold impl_Colouring_renumbered
  have := loopRun (fun k' i s => impl_Colouring_renumbered_l0 k x l k' i s) x.p (renRow x l) id 0
    (fun k' i s h0 h1 => by
      show impl_Colouring_renumbered_l0 k x l (k' + 1) i s = _
      rw [impl_Colouring_renumbered_l0, implRen_l1 x l hn.2 h i (by omega) h1 k (by omega), w64_succ (by omega) h1 (by omega)]
      simp [h1])
    (fun k' i s h0 => by
      show impl_Colouring_renumbered_l0 k x l (k' + 1) i s = _
      rw [impl_Colouring_renumbered_l0]
      have : ¬ i < x.p := by omega
      simp [this]) k 0 ⟨x.p, x.k, B136.zero⟩ (by omega) (by omega)
  rw [this]
  have e : (x.p - 0).toNat = (x.p - 1).toNat + 1 := by omega
  rw [e]
  rfl
end Go.Proofs.Ytjkanhdklfgghaa
