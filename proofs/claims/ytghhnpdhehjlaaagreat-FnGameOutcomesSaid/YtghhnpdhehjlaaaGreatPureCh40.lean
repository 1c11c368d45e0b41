/- Plain laws, collected out of own texts. No conditions beyond those that each lemma states. -/
import Derived.Test.YtghhnpdhehjlaaaGreatPKit
import Derived.Test.YtghhnpdhehjlaaaGreatPBits
import Derived.Test.YtghhnpdhehjlaaaGreatGen40
import Derived.Test.YtghhnpdhehjlaaaGreatExts
set_option linter.unusedVariables false
set_option linter.unusedSimpArgs false
namespace Go.Proofs.YtghhnpdhehjlaaaGreat
open Go Go.RowKit Ab

theorem in_eq (a b c : Int) : impl_in a b c = decide (b ≤ a ∧ a ≤ c) := by
  unfold impl_in letO
  by_cases h : b ≤ a <;> by_cases h' : a ≤ c <;> simp [h, h']

theorem specIn_eq (a b c : Int) : spec_l01In a b c = decide (b ≤ a ∧ a ≤ c) := by
  unfold spec_l01In letO
  by_cases h : b ≤ a <;> by_cases h' : a ≤ c <;> simp [h, h']

theorem number_eq (i j : Int) (hi : 0 ≤ i ∧ i < 17) (hj : 0 ≤ j ∧ j < 17) : impl_number i j = (eN i.toNat j.toNat : Int) := by
  have : ∀ i, i < 17 → ∀ j, j < 17 → impl_number (i : Nat) (j : Nat) = (eN i j : Int) := by decide +kernel
  have h := this i.toNat (by omega) j.toNat (by omega)
  rwa [Int.toNat_of_nonneg hi.1, Int.toNat_of_nonneg hj.1] at h

theorem edge_eq (i j : Int) (hi : 0 ≤ i ∧ i < 17) (hj : 0 ≤ j ∧ j < 17) : spec_l01Edge i j = (eN i.toNat j.toNat : Int) := by
  have : ∀ i, i < 17 → ∀ j, j < 17 → spec_l01Edge (i : Nat) (j : Nat) = (eN i j : Int) := by decide +kernel
  have h := this i.toNat (by omega) j.toNat (by omega)
  rwa [Int.toNat_of_nonneg hi.1, Int.toNat_of_nonneg hj.1] at h

theorem mem_getD {l : List Int} {x : Int} : x ∈ l ↔ ∃ a, a < l.length ∧ l.getD a 0 = x := by
  constructor
  · intro h
    obtain ⟨a, ha, e⟩ := List.getElem_of_mem h
    exact ⟨a, ha, by simp [List.getD, ha, e]⟩
  · rintro ⟨a, ha, rfl⟩
    simp [List.getD, ha]

theorem like_refl (k : Nat) (l : List Int) (hk : l.length + 1 ≤ k) (hl : (l.length : Int) ≤ 1099511627776) : laws_likeInts k l l = some true := by
  unfold laws_likeInts
  have := loopAll (f := fun k' i => laws_likeInts_l0 l l k' i) (l.length : Int) false (fun _ => True) 0
    (fun k' i h0 h1 _ => by
      show laws_likeInts_l0 l l (k' + 1) i = _
      rw [laws_likeInts_l0, w64_succ h0 h1 (by omega)]
      simp [h0, h1])
    (fun k' i h0 h1 hq => (hq trivial).elim)
    (fun k' i h1 => by
      show laws_likeInts_l0 l l (k' + 1) i = _
      rw [laws_likeInts_l0]
      have : ¬ i < (l.length : Int) := by omega
      simp [this]) k 0 (by omega) (by omega)
  rw [this]; simp

def distL (l : List Int) : Prop := ∀ a b : Nat, a < b → b < l.length → l.getD a 0 ≠ l.getD b 0

def isOrd (l : List Int) (n : Int) : Prop := (l.length : Int) = n ∧ (∀ a : Nat, a < l.length → 0 ≤ l.getD a 0 ∧ l.getD a 0 < n) ∧ distL l

theorem distL_nodup (l : List Int) : distL l ↔ l.Nodup := by
  unfold distL List.Nodup
  rw [List.pairwise_iff_getElem]
  constructor
  · intro h i j hi hj hij
    have := h i j hij hj
    simpa [List.getD, hi, hj] using this
  · intro h i j hij hj
    have := h i j (by omega) hj hij
    simpa [List.getD, hj, show i < l.length by omega] using this

theorem sorted_mem (l : List Int) (x : Int) : x ∈ sorted l ↔ x ∈ l := by
  unfold sorted
  exact (List.mergeSort_perm l _).mem_iff

theorem sorted_pw (l : List Int) : (sorted l).Pairwise (· ≤ ·) := by
  unfold sorted
  have := List.pairwise_mergeSort (le := fun x y : Int => decide (x ≤ y)) (fun a b c h1 h2 => by simp at *; omega) (fun a b => by simp; omega) l
  refine this.imp fun h => ?_
  simpa using h

theorem sorted_nodup (l : List Int) : (sorted l).Nodup ↔ l.Nodup := by
  unfold sorted
  exact (List.mergeSort_perm l _).nodup_iff

/-- A list sorted shows whether it is an order. -/
theorem order_iff (l : List Int) : (∀ i : Nat, i < l.length → (sorted l).getD i 0 = i) ↔ ((∀ a : Nat, a < l.length → 0 ≤ l.getD a 0 ∧ l.getD a 0 < l.length) ∧ distL l) := by
  constructor
  · intro h
    have hm : ∀ x ∈ l, 0 ≤ x ∧ x < l.length := fun x hx => by
      have hx' := (sorted_mem l x).2 hx
      obtain ⟨a, ha, rfl⟩ := mem_getD.1 hx'
      rw [sorted_length] at ha
      rw [h a ha]; omega
    refine ⟨fun a ha => hm _ (mem_getD.2 ⟨a, ha, rfl⟩), ?_⟩
    rw [distL_nodup, ← sorted_nodup, ← distL_nodup]
    intro a b hab hb
    rw [sorted_length] at hb
    rw [h a (by omega), h b hb]; omega
  · rintro ⟨hr, hd⟩
    have hs : distL (sorted l) := by rw [distL_nodup, sorted_nodup, ← distL_nodup]; exact hd
    have hp := sorted_pw l
    rw [List.pairwise_iff_getElem] at hp
    have hlt : ∀ a b : Nat, a < b → b < l.length → (sorted l).getD a 0 < (sorted l).getD b 0 := fun a b hab hb => by
      have h1 := hs a b hab (by rw [sorted_length]; exact hb)
      have ha' : a < (sorted l).length := by rw [sorted_length]; omega
      have hb' : b < (sorted l).length := by rw [sorted_length]; omega
      have h2 := hp a b ha' hb' hab
      simp only [List.getD, List.getElem?_eq_getElem ha', List.getElem?_eq_getElem hb', Option.getD_some] at h1 ⊢
      omega
    have hb : ∀ a : Nat, a < l.length → 0 ≤ (sorted l).getD a 0 ∧ (sorted l).getD a 0 < l.length := fun a ha => by
      have : (sorted l).getD a 0 ∈ l := (sorted_mem l _).1 (mem_getD.2 ⟨a, by rw [sorted_length]; exact ha, rfl⟩)
      obtain ⟨b, hb, e⟩ := mem_getD.1 this
      rw [← e]; exact hr b hb
    have lo : ∀ a : Nat, a < l.length → (a : Int) ≤ (sorted l).getD a 0 := by
      intro a
      induction a with
      | zero => intro h; have := (hb 0 h).1; omega
      | succ a ih => intro h; have := ih (by omega); have := hlt a (a + 1) (by omega) h; omega
    have hi : ∀ d a : Nat, a < l.length → a + 1 + d = l.length → (sorted l).getD a 0 ≤ a := by
      intro d
      induction d with
      | zero => intro a ha e; have := (hb a ha).2; omega
      | succ d ih => intro a ha e; have := ih (a + 1) (by omega) (by omega); have := hlt a (a + 1) (by omega) (by omega); omega
    intro i h
    have := lo i h
    have := hi (l.length - i - 1) i h (by omega)
    omega

open Classical in
theorem implOrder_eq (k : Nat) (l : List Int) (n : Int) (hk : l.length + 1 ≤ k) (hl : (l.length : Int) ≤ 1099511627776) : impl_isOrder k l n = some (decide (isOrd l n)) := by
  unfold impl_isOrder sortedI
  rw [if_pos (by omega)]
  have := loopAll (f := fun k' i => impl_isOrder_l0 (sorted l) k' i) (l.length : Int) false (fun i => (sorted l).getD i.toNat 0 = i) 0
    (fun k' i h0 h1 hq => by
      show impl_isOrder_l0 (sorted l) (k' + 1) i = _
      rw [impl_isOrder_l0, w64_succ h0 h1 (by omega), hq, sorted_length]
      simp [h0, h1])
    (fun k' i h0 h1 hq => by
      show impl_isOrder_l0 (sorted l) (k' + 1) i = _
      rw [impl_isOrder_l0, sorted_length]
      have : ¬ i = (sorted l).getD i.toNat 0 := fun e => hq e.symm
      simp only [h1, decide_true, if_true, h0, true_and, this, decide_false, Bool.not_false])
    (fun k' i h1 => by
      show impl_isOrder_l0 (sorted l) (k' + 1) i = _
      rw [impl_isOrder_l0, sorted_length]
      have : ¬ i < (l.length : Int) := by omega
      simp [this]) k 0 (by omega) (by omega)
  simp only [Option.bind_some]
  rw [this]
  have key : (∀ j : Int, 0 ≤ j → j < l.length → (sorted l).getD j.toNat 0 = j) ↔ ((∀ a : Nat, a < l.length → 0 ≤ l.getD a 0 ∧ l.getD a 0 < l.length) ∧ distL l) := by
    rw [← order_iff]
    constructor
    · intro h i hi; have := h i (by omega) (by omega); simpa using this
    · intro h j h0 h1; obtain ⟨m, rfl⟩ := nat_of h0; have := h m (by omega); simpa using this
  by_cases ha : ∀ j : Int, 0 ≤ j → j < l.length → (sorted l).getD j.toNat 0 = j
  · rw [if_pos ha]
    have hk2 := key.1 ha
    simp only [Option.bind_some]
    congr 1
    by_cases hn : (l.length : Int) = n
    · have : isOrd l n := ⟨hn, fun a h => by rw [← hn]; exact hk2.1 a h, hk2.2⟩
      simp [this, impl_size, hn]
    · have : ¬ isOrd l n := fun h => hn h.1
      simp [this, impl_size, hn]
  · rw [if_neg ha]
    have : ¬ isOrd l n := fun h => ha (key.2 ⟨fun a h' => by have := h.2.1 a h'; rw [h.1]; exact this, h.2.2⟩)
    simp [this]

open Classical in
theorem specOrder_eq (k : Nat) (l : List Int) (n : Int) (hk : l.length + 1 ≤ k) (hl : (l.length : Int) ≤ 1099511627776) (hn : 1 ≤ n ∧ n ≤ 17) : spec_l01Order k l n = some (decide (isOrd l n)) := by
  unfold spec_l01Order
  rw [if_pos ⟨by omega, by omega, by omega⟩]
  have := loopI (f := fun k' i (s : List Bool) => spec_l01Order_l0 l n k' i s) (l.length : Int) 0
    (fun i s => (s.length : Int) = n ∧ i ≤ l.length ∧ (∀ a : Nat, a < i.toNat → 0 ≤ l.getD a 0 ∧ l.getD a 0 < n) ∧ (∀ a b : Nat, a < b → b < i.toNat → l.getD a 0 ≠ l.getD b 0) ∧
      ∀ v : Nat, (v : Int) < n → (s.getD v false = true ↔ ∃ a : Nat, a < i.toNat ∧ l.getD a 0 = v))
    (fun r => (r = .inl () ∧ (∀ a : Nat, a < l.length → 0 ≤ l.getD a 0 ∧ l.getD a 0 < n) ∧ distL l) ∨ (r = .inr false ∧ ¬ ((∀ a : Nat, a < l.length → 0 ≤ l.getD a 0 ∧ l.getD a 0 < n) ∧ distL l))) ?_ ?_ k 0 (List.replicate n.toNat false) (by omega) (by omega)
    ⟨by simp; omega, by omega, fun a h => by omega, fun a b h h' => by omega, fun v hv => by
      have : (List.replicate n.toNat false).getD v false = false := by
        rw [List.getD_eq_getElem?_getD, List.getElem?_replicate]; split <;> rfl
      rw [this]
      simp⟩
  · obtain ⟨r, e, h⟩ := this
    rw [e]
    rcases h with ⟨rfl, h1, h2⟩ | ⟨rfl, h⟩
    · simp only [Option.bind_some]
      by_cases hq : (l.length : Int) = n
      · have : isOrd l n := ⟨hq, h1, h2⟩
        simp [this, hq]
      · have : ¬ isOrd l n := fun h => hq h.1
        simp [this, hq]
    · have : ¬ isOrd l n := fun h' => h ⟨h'.2.1, h'.2.2⟩
      simp [this]
  · intro k' i s h0 h1 ⟨q1, _, q3, q4, q5⟩
    obtain ⟨m, rfl⟩ := nat_of h0
    have hm : m < l.length := by omega
    simp only [Int.toNat_natCast] at q3 q4 q5
    by_cases hr : 0 ≤ l.getD m 0 ∧ l.getD m 0 ≤ n - 1
    · obtain ⟨v, hv⟩ := nat_of hr.1
      have hvn : (v : Int) < n := by omega
      have hvs : v < s.length := by omega
      by_cases hmet : s.getD v false = true
      · right
        obtain ⟨a, ha, e⟩ := (q5 v hvn).1 hmet
        refine ⟨_, ?_, .inr ⟨rfl, fun h => h.2 a m ha hm (by rw [e, hv])⟩⟩
        show spec_l01Order_l0 l n (k' + 1) m s = _
        rw [spec_l01Order_l0, specIn_eq, w64_id (n := n - 1) (by omega)]
        simp only [Int.toNat_natCast, hv] at hr ⊢
        simp only [hr, h1, q1, hvn, hmet, decide_true, Bool.not_true, Bool.false_eq_true, if_false, if_true, and_self, Option.bind_some, Int.toNat_natCast, h0, Int.natCast_nonneg]
      · left
        have hmet' : s.getD v false = false := by simpa using hmet
        refine ⟨s.set v true, ?_, by simpa using q1, by omega, ?_, ?_, ?_⟩
        · show spec_l01Order_l0 l n (k' + 1) m s = _
          rw [spec_l01Order_l0, specIn_eq, w64_id (n := n - 1) (by omega), w64_succ h0 h1 (by omega)]
          simp only [Int.toNat_natCast, hv] at hr ⊢
          simp only [hr, h1, q1, hvn, hmet', decide_true, Bool.not_true, Bool.false_eq_true, if_false, if_true, and_self, Option.bind_some, Int.toNat_natCast, h0, Int.natCast_nonneg]
        · intro a ha
          by_cases e : a = m
          · subst e; omega
          · exact q3 a (by omega)
        · intro a b hab hb
          by_cases e : b = m
          · subst e
            intro e2
            exact hmet ((q5 v hvn).2 ⟨a, hab, by rw [e2, hv]⟩)
          · exact q4 a b hab (by omega)
        · intro u hu
          by_cases e : v = u
          · subst e
            simp only [List.getD, List.getElem?_set_self hvs, Option.getD_some, true_iff]
            exact ⟨m, by omega, hv⟩
          · have := q5 u hu
            simp only [List.getD] at this ⊢
            rw [List.getElem?_set_ne e, this]
            constructor
            · rintro ⟨a, ha, e'⟩; exact ⟨a, by omega, e'⟩
            · rintro ⟨a, ha, e'⟩
              refine ⟨a, ?_, e'⟩
              by_cases e2 : a = m
              · subst e2
                rw [show (l[a]?.getD 0) = l.getD a 0 from rfl, hv] at e'
                omega
              · omega
    · right
      refine ⟨_, ?_, .inr ⟨rfl, fun h => hr ⟨(h.1 m hm).1, by have := (h.1 m hm).2; omega⟩⟩⟩
      show spec_l01Order_l0 l n (k' + 1) m s = _
      rw [spec_l01Order_l0, specIn_eq, w64_id (n := n - 1) (by omega)]
      simp only [Int.toNat_natCast, hr, h1, h0, decide_true, decide_false, Bool.not_false, if_true, and_self, Option.bind_some]
  · intro k' i s h0 h1 ⟨q1, q2, q3, q4, q5⟩
    have : i = l.length := by omega
    subst this
    simp only [Int.toNat_natCast] at q3 q4
    refine ⟨_, ?_, .inl ⟨rfl, q3, q4⟩⟩
    show spec_l01Order_l0 l n (k' + 1) l.length s = _
    rw [spec_l01Order_l0]; simp

def okS (s : Src) : Prop := 0 ≤ s.i ∧ s.c.length ≤ 4096

theorem mask_range (a : Int) : 0 ≤ bAnd .u64 a 16777215 ∧ bAnd .u64 a 16777215 ≤ 16777215 := by
  unfold bAnd
  have e : (BitVec.ofInt IntKind.u64.bits a &&& BitVec.ofInt IntKind.u64.bits 16777215).toNat ≤ 16777215 := by
    show (BitVec.ofInt 64 a &&& BitVec.ofInt 64 16777215).toNat ≤ 16777215
    rw [BitVec.toNat_and]
    have : (BitVec.ofInt 64 16777215).toNat = 16777215 := by decide
    rw [this]
    exact Nat.and_le_right
  generalize (BitVec.ofInt IntKind.u64.bits a &&& BitVec.ofInt IntKind.u64.bits 16777215).toNat = m at e
  rw [u64_id (by omega)]
  omega

theorem next_ok (s : Src) (n : Int) (h : okS s) : ∃ v s', spec_l01Next s n = some (v, s') ∧ okS s' ∧ (1 ≤ n → 0 ≤ v ∧ v < n) ∧ (n < 1 → v = 0) := by
  unfold spec_l01Next
  obtain ⟨h0, h1⟩ := h
  by_cases hn : n < 1
  · exact ⟨0, s, by simp [hn], ⟨h0, h1⟩, fun h => by omega, fun _ => rfl⟩
  · generalize IntKind.u64.wrap ((IntKind.u64.wrap (s.h * 6364136223846793005)) + 1442695040888963407) = hh
    have hm := mask_range (bShr .u64 hh 33)
    generalize bAnd .u64 (bShr .u64 hh 33) 16777215 = v at hm
    have hn0 : n ≠ 0 := by omega
    have key : ∀ w : Int, 0 ≤ w → (1 ≤ n → 0 ≤ w.tmod n ∧ w.tmod n < n) := fun w hw hn => ⟨Int.tmod_nonneg n hw, Int.tmod_lt_of_pos w (by omega)⟩
    by_cases hi : s.i < (s.c.length : Int)
    · have hb : ((s.c.getD s.i.toNat 0).toNat : Int) < 256 := by have := (s.c.getD s.i.toNat 0).toNat_lt; omega
      refine ⟨(w64 (w64 v + ((s.c.getD s.i.toNat 0).toNat : Int))).tmod n, ⟨s.c, w64 (s.i + 1), hh⟩, ?_, ⟨?_, h1⟩, key _ ?_, fun h => by omega⟩
      · simp only [hn, decide_false, Bool.false_eq_true, if_false, hi, decide_true, if_true, h0, and_self, Option.bind_some, hn0, ne_eq, not_false_eq_true]
      · rw [w64_id (by omega)]; show 0 ≤ s.i + 1; omega
      · rw [w64_id (n := v) (by omega), w64_id (by omega)]; omega
    · refine ⟨(w64 v).tmod n, ⟨s.c, s.i, hh⟩, ?_, ⟨h0, h1⟩, key _ ?_, fun h => by omega⟩
      · simp only [hn, decide_false, Bool.false_eq_true, if_false, hi, Option.bind_some, hn0, ne_eq, not_false_eq_true, if_true]
      · rw [w64_id (by omega)]; omega

theorem pick_ok (s : Src) (l : List Int) (h : okS s) (hl : 1 ≤ l.length) : ∃ v s', spec_l01Pick s l = some (v, s') ∧ okS s' ∧ v ∈ l := by
  unfold spec_l01Pick
  obtain ⟨v, s', e, hs, hv, _⟩ := next_ok s l.length h
  obtain ⟨v0, v1⟩ := hv (by omega)
  have hlt : v.toNat < l.length := by omega
  refine ⟨l.getD v.toNat 0, s', ?_, hs, by simp [List.getD, hlt]⟩
  rw [e]
  simp [v0, v1]

theorem from_ok {k : Nat} (hk : 5000 ≤ k) (c : List UInt8) (hc : c.length ≤ 4096) : ∃ s, spec_l01From k c = some s ∧ okS s := by
  unfold spec_l01From
  have := loopI (f := fun k' i (s : Src) => spec_l01From_l0 c k' i s) (c.length : Int) 0 (fun i s => s.i = 0 ∧ s.c = c) (fun s => okS s) ?_ ?_ k 0 ⟨c, 0, IntKind.u64.wrap (13621 + (IntKind.u64.wrap (c.length : Int)))⟩ (by omega) (by omega) ⟨rfl, rfl⟩
  · obtain ⟨s, e, h⟩ := this
    exact ⟨s, by rw [e]; rfl, h⟩
  · rintro k' i s h0 h1 ⟨q1, q2⟩
    left
    refine ⟨⟨s.c, s.i, IntKind.u64.wrap ((IntKind.u64.wrap ((IntKind.u64.wrap (s.h * 1099511628211)) + ((c.getD i.toNat 0).toNat : Int))) + 193)⟩, ?_, q1, q2⟩
    show spec_l01From_l0 c (k' + 1) i s = _
    rw [spec_l01From_l0, w64_succ h0 h1 (by omega)]
    have h2 : i < 4096 := by omega
    simp only [letO, h1, h2, decide_true, if_true, Option.bind_some, h0, and_self]
  · rintro k' i s h0 h1 ⟨q1, q2⟩
    have hn : ¬ i < (c.length : Int) := by omega
    refine ⟨s, ?_, by rw [q1]; exact Int.le_refl _, by rw [q2]; exact hc⟩
    show spec_l01From_l0 c (k' + 1) i s = _
    rw [spec_l01From_l0]
    simp [letO, hn]

def isOrdD (n : Nat) (l : List Int) : Prop := l.length = n ∧ l.Nodup ∧ ∀ z ∈ l, 0 ≤ z ∧ z < n

theorem order_ok {k : Nat} (hk : 5000 ≤ k) (s : Src) (n : Nat) (h : okS s) (hn : n ≤ 1000) : ∃ l s', spec_l01DrawOrder k s n = some (l, s') ∧ okS s' ∧ isOrdD n l := by
  unfold spec_l01DrawOrder
  have := loopI (f := fun k' i (t : Src × List Int) => spec_l01DrawOrder_l0 n k' i t.1 t.2) (n : Int) 0 (fun i t => i ≤ n ∧ okS t.1 ∧ isOrdD i.toNat t.2) (fun t => okS t.1 ∧ isOrdD n t.2) ?_ ?_ k 0 (s, []) (by omega) (by omega) ⟨by omega, h, rfl, by simp, by simp⟩
  · obtain ⟨⟨s', l⟩, e, h1, h2⟩ := this
    simp only at e
    exact ⟨l, s', by rw [e]; rfl, h1, h2⟩
  · rintro k' i ⟨t, l⟩ h0 h1 ⟨_, q1, q2, q3, q4⟩
    left
    obtain ⟨m, rfl⟩ := nat_of h0
    simp only [Int.toNat_natCast] at q1 q2 q3 q4
    obtain ⟨v, t', e, ht, hv, _⟩ := next_ok t ((m : Int) + 1) q1
    obtain ⟨v0, v1⟩ := hv (by omega)
    have hperm : ((l.take v.toNat ++ [(m : Int)]) ++ l.drop v.toNat).Perm ((m : Int) :: l) := by
      rw [List.append_assoc]
      refine List.perm_middle.trans (List.Perm.cons _ ?_)
      show (l.take v.toNat ++ l.drop v.toNat).Perm l
      rw [List.take_append_drop]
    refine ⟨(t', (l.take v.toNat ++ [(m : Int)]) ++ l.drop v.toNat), ?_, by omega, ht, ?_, ?_, ?_⟩
    · show spec_l01DrawOrder_l0 n (k' + 1) m t l = _
      rw [spec_l01DrawOrder_l0, w64_succ h0 h1 (by omega), e]
      have e1 : v ≤ ((l.length : Nat) : Int) := by omega
      have e2 : ((l.drop 0).take (v.toNat - 0)) = l.take v.toNat := by simp
      have e3 : (l.drop v.toNat).take (l.length - v.toNat) = l.drop v.toNat := by rw [List.take_of_length_le (by simp)]
      have e4 : spec_l01Own (l.take v.toNat) = some (l.take v.toNat) := by
        unfold spec_l01Own
        rw [if_pos (by simp; omega)]; rfl
      simp only [h1, decide_true, if_true, Option.bind_some, v0, e1, Int.le_refl, Nat.le_refl, and_self, e2, e3, e4]
      have f1 : (l.take v.toNat).length + ([(m : Int)]).length ≤ 1099511627776 := by simp; omega
      have f2 : (l.take v.toNat ++ [(m : Int)]).length + (l.drop v.toNat).length ≤ 1099511627776 := by simp; omega
      first
        | rw [if_pos f1, if_pos f2]
        | rw [if_pos f2]
    · simp only
      rw [hperm.length_eq]
      simp only [List.length_cons, q2]; omega
    · simp only
      rw [hperm.nodup_iff, List.nodup_cons]
      exact ⟨fun hm => by have := q4 _ hm; omega, q3⟩
    · intro z hz
      simp only at hz
      rw [hperm.mem_iff, List.mem_cons] at hz
      have e1 : ((m : Int) + 1).toNat = m + 1 := by omega
      rw [e1]
      rcases hz with rfl | hz
      · omega
      · have := q4 z hz; omega
  · rintro k' i ⟨t, l⟩ h0 h1 ⟨q0, q1, q2⟩
    have : i = n := by omega
    subst this
    refine ⟨(t, l), ?_, q1, by simpa using q2⟩
    show spec_l01DrawOrder_l0 n (k' + 1) n t l = _
    rw [spec_l01DrawOrder_l0]; simp

/-! ### The shape -/
def sh (n : Int) (l : List Int) : Prop := (1 ≤ n ∧ n ≤ 5) ∧ l.length = tri n.toNat ∧ ∀ a : Nat, a < l.length → -1 ≤ l.getD a 0 ∧ l.getD a 0 ≤ 1

theorem tri_w (n : Int) (h : 1 ≤ n ∧ n ≤ 5) : w64 ((w64 (n * (w64 (n - 1)))).tdiv 2) = (tri n.toNat : Int) := by
  obtain ⟨m, rfl⟩ := nat_of (show 0 ≤ n by omega)
  rw [Int.toNat_natCast]
  have : ∀ n : Nat, n ≤ 5 → w64 ((w64 ((n : Int) * (w64 ((n : Int) - 1)))).tdiv 2) = (tri n : Int) := by decide +kernel
  exact this m (by omega)

theorem tri5 (n : Int) (h : 1 ≤ n ∧ n ≤ 5) : tri n.toNat ≤ 10 := by
  have : ∀ n : Nat, n ≤ 5 → tri n ≤ 10 := by decide +kernel
  exact this _ (by omega)

open Classical in
theorem lists_eq (k : Nat) (n : Int) (l : List Int) (hk : l.length + 1 ≤ k) (hl : (l.length : Int) ≤ 1099511627776) : spec_l09Lists k n l = some (if sh n l then 0 else 2) := by
  unfold spec_l09Lists
  rw [specIn_eq]
  by_cases hn : 1 ≤ n ∧ n ≤ 5
  · rw [tri_w n hn, decide_eq_true hn]
    by_cases hlen : l.length = tri n.toNat
    · have h2 : (l.length : Int) = (tri n.toNat : Int) := by omega
      rw [decide_eq_true h2]
      simp only [letO, Bool.not_true, Bool.false_eq_true, if_false, Option.bind_some]
      rw [loopAll (f := fun k' i => spec_l09Lists_l0 l k' i) (l.length : Int) 2 (fun i => -1 ≤ l.getD i.toNat 0 ∧ l.getD i.toNat 0 ≤ 1) 0 ?_ ?_ ?_ k 0 (by omega) (by omega)]
      · by_cases h : ∀ j : Int, 0 ≤ j → j < l.length → -1 ≤ l.getD j.toNat 0 ∧ l.getD j.toNat 0 ≤ 1
        · have hs : sh n l := ⟨hn, hlen, fun a ha => by
            have := h a (by omega) (by omega)
            rwa [Int.toNat_natCast] at this⟩
          rw [if_pos h, if_pos hs]; rfl
        · have hs : ¬ sh n l := fun hs => h fun j h0 h1 => hs.2.2 j.toNat (by omega)
          rw [if_neg h, if_neg hs]; rfl
      · intro k' i h0 h1 hq
        show spec_l09Lists_l0 l (k' + 1) i = _
        rw [spec_l09Lists_l0, w64_succ h0 h1 (by omega), specIn_eq, decide_eq_true hq]
        simp [h0, h1]
      · intro k' i h0 h1 hq
        show spec_l09Lists_l0 l (k' + 1) i = _
        rw [spec_l09Lists_l0, specIn_eq, decide_eq_false hq]
        simp [h0, h1]
      · intro k' i h1
        show spec_l09Lists_l0 l (k' + 1) i = _
        rw [spec_l09Lists_l0]
        have : ¬ i < (l.length : Int) := by omega
        simp [this]
    · have h2 : ¬ (l.length : Int) = (tri n.toNat : Int) := by omega
      rw [decide_eq_false h2, if_neg (show ¬ sh n l from fun hs => hlen hs.2.1)]
      rfl
  · rw [decide_eq_false hn, if_neg (show ¬ sh n l from fun hs => hn hs.1)]
    rfl

theorem indexF_eq (l : List Int) (f : Int → Option Bool) (g : Int → Bool) (hf : ∀ z ∈ l, f z = some (g z)) (hl : (l.length : Int) ≤ 1099511627776) : ∀ (d k : Nat) (i : Nat), i + d = l.length → d < k →
    ∃ r : Sum Unit Int, slices_IndexFunc_l0 l f k i = some r ∧ ((∃ z : Int, r = .inr z ∧ 0 ≤ z ∧ (l.drop i).any g = true) ∨ (r = .inl () ∧ (l.drop i).any g = false)) := by
  intro d
  induction d with
  | zero =>
    intro k i h hk
    obtain ⟨k, rfl⟩ : ∃ k', k = k' + 1 := ⟨k - 1, by omega⟩
    have : ¬ (i : Int) < (l.length : Int) := by omega
    exact ⟨.inl (), by rw [slices_IndexFunc_l0]; simp [this], .inr ⟨rfl, by rw [List.drop_of_length_le (by omega)]; rfl⟩⟩
  | succ d ih =>
    intro k i h hk
    obtain ⟨k, rfl⟩ : ∃ k', k = k' + 1 := ⟨k - 1, by omega⟩
    have hi : i < l.length := by omega
    have h1 : (i : Int) < (l.length : Int) := by omega
    have hd := List.drop_eq_getElem_cons hi
    have hg : l.getD i 0 = l[i] := by simp [List.getD, hi]
    have hmem : l[i] ∈ l := List.getElem_mem hi
    rw [slices_IndexFunc_l0, if_pos (decide_eq_true h1), if_pos ⟨by omega, h1⟩, Int.toNat_natCast, hg, hf _ hmem, w64_succ (by omega) h1 (by omega)]
    simp only [Option.bind_some]
    rw [hd]
    cases hz : g l[i] with
    | true =>
      refine ⟨.inr i, by simp, .inl ⟨i, rfl, by omega, by rw [List.any_cons, hz]; rfl⟩⟩
    | false =>
      obtain ⟨r, e, hr⟩ := ih k (i + 1) (by omega) (by omega)
      rw [show ((i : Int) + 1) = ((i + 1 : Nat) : Int) by omega, e]
      refine ⟨r, by simp, ?_⟩
      rw [List.any_cons, hz, Bool.false_or]
      exact hr

theorem containsF_eq (k : Nat) (l : List Int) (f : Int → Option Bool) (g : Int → Bool) (hf : ∀ z ∈ l, f z = some (g z)) (hk : l.length + 1 ≤ k) (hl : (l.length : Int) ≤ 1099511627776) : slices_ContainsFunc k l f = some (l.any g) := by
  unfold slices_ContainsFunc slices_IndexFunc
  obtain ⟨r, e, hr⟩ := indexF_eq l f g hf hl l.length k 0 (by omega) (by omega)
  rw [show ((0 : Nat) : Int) = 0 from rfl] at e
  rw [e]
  simp only [Option.bind_some, List.drop_zero] at hr ⊢
  rcases hr with ⟨z, rfl, h0, h1⟩ | ⟨rfl, h1⟩
  · simp [h0, h1]
  · simp [h1]

theorem indexR_eq (l : List (List Int)) (f : List Int → Option Bool) (g : List Int → Bool) (hf : ∀ z ∈ l, f z = some (g z)) (hl : (l.length : Int) ≤ 1099511627776) : ∀ (d k : Nat) (i : Nat), i + d = l.length → d < k →
    ∃ r : Sum Unit Int, slices_IndexFunc_R_l0 l f k i = some r ∧ ((∃ z : Int, r = .inr z ∧ 0 ≤ z ∧ (l.drop i).any g = true) ∨ (r = .inl () ∧ (l.drop i).any g = false)) := by
  intro d
  induction d with
  | zero =>
    intro k i h hk
    obtain ⟨k, rfl⟩ : ∃ k', k = k' + 1 := ⟨k - 1, by omega⟩
    have : ¬ (i : Int) < (l.length : Int) := by omega
    exact ⟨.inl (), by rw [slices_IndexFunc_R_l0]; simp [this], .inr ⟨rfl, by rw [List.drop_of_length_le (by omega)]; rfl⟩⟩
  | succ d ih =>
    intro k i h hk
    obtain ⟨k, rfl⟩ : ∃ k', k = k' + 1 := ⟨k - 1, by omega⟩
    have hi : i < l.length := by omega
    have h1 : (i : Int) < (l.length : Int) := by omega
    have hd := List.drop_eq_getElem_cons hi
    have hg : l.getD i [] = l[i] := by simp [List.getD, hi]
    have hmem : l[i] ∈ l := List.getElem_mem hi
    rw [slices_IndexFunc_R_l0, if_pos (decide_eq_true h1), if_pos ⟨by omega, h1⟩, Int.toNat_natCast, hg, hf _ hmem, w64_succ (by omega) h1 (by omega)]
    simp only [Option.bind_some]
    rw [hd]
    cases hz : g l[i] with
    | true =>
      refine ⟨.inr i, by simp, .inl ⟨i, rfl, by omega, by rw [List.any_cons, hz]; rfl⟩⟩
    | false =>
      obtain ⟨r, e, hr⟩ := ih k (i + 1) (by omega) (by omega)
      rw [show ((i : Int) + 1) = ((i + 1 : Nat) : Int) by omega, e]
      refine ⟨r, by simp, ?_⟩
      rw [List.any_cons, hz, Bool.false_or]
      exact hr

theorem containsR_eq (k : Nat) (l : List (List Int)) (f : List Int → Option Bool) (g : List Int → Bool) (hf : ∀ z ∈ l, f z = some (g z)) (hk : l.length + 1 ≤ k) (hl : (l.length : Int) ≤ 1099511627776) : slices_ContainsFunc_R k l f = some (l.any g) := by
  unfold slices_ContainsFunc_R slices_IndexFunc_R
  obtain ⟨r, e, hr⟩ := indexR_eq l f g hf hl l.length k 0 (by omega) (by omega)
  rw [show ((0 : Nat) : Int) = 0 from rfl] at e
  rw [e]
  simp only [Option.bind_some, List.drop_zero] at hr ⊢
  rcases hr with ⟨z, rfl, h0, h1⟩ | ⟨rfl, h1⟩
  · simp [h0, h1]
  · simp [h1]

open Classical in
theorem shape_eq (k : Nat) (n : Int) (l : List Int) (hk : l.length + 1 ≤ k) (hl : (l.length : Int) ≤ 1099511627776) : impl_position_isShape k ⟨n, l⟩ = some (decide (sh n l)) := by
  unfold impl_position_isShape impl_areIn impl_size
  simp only [in_eq]
  by_cases hn : 1 ≤ n ∧ n ≤ 5
  · rw [tri_w n hn, decide_eq_true hn]
    by_cases hlen : l.length = tri n.toNat
    · have h2 : (l.length : Int) = (tri n.toNat : Int) := by omega
      rw [decide_eq_true h2, containsF_eq k l _ (fun z => !decide (-1 ≤ z ∧ z ≤ 1)) (fun z _ => by unfold impl_areIn_c1; rw [in_eq]) hk hl]
      simp only [if_true, Option.bind_some]
      congr 1
      by_cases hs : sh n l
      · rw [decide_eq_true hs]
        have : l.any (fun z => !decide (-1 ≤ z ∧ z ≤ 1)) = false := by
          rw [List.any_eq_false]
          intro z hz
          obtain ⟨a, ha, rfl⟩ := mem_getD.1 hz
          rw [decide_eq_true (hs.2.2 a ha)]; simp
        rw [this]; rfl
      · rw [decide_eq_false hs]
        have : l.any (fun z => !decide (-1 ≤ z ∧ z ≤ 1)) = true := by
          rw [List.any_eq_true]
          apply Classical.byContradiction
          intro hno
          apply hs
          refine ⟨hn, hlen, fun a ha => ?_⟩
          apply Classical.byContradiction
          intro hc
          exact hno ⟨l.getD a 0, mem_getD.2 ⟨a, ha, rfl⟩, by rw [decide_eq_false hc]; rfl⟩
        rw [this]; rfl
    · have h2 : ¬ (l.length : Int) = (tri n.toNat : Int) := by omega
      rw [decide_eq_false h2, decide_eq_false (fun hs : sh n l => hlen hs.2.1)]
      rfl
  · rw [decide_eq_false hn, decide_eq_false (fun hs : sh n l => hn hs.1)]
    rfl

/-! ### The mover -/
theorem many_eq (k : Nat) (n who : Int) (l : List Int) (hk : l.length + 1 ≤ k) (hl : (l.length : Int) ≤ 1099511627776) : impl_position_many k ⟨n, l⟩ who = some (l.count who : Int) := by
  unfold impl_position_many
  have := loopI (f := fun k' t (s : Int) => impl_position_many_l0 ⟨n, l⟩ who k' s t) (l.length : Int) 0 (fun t s => t ≤ l.length ∧ s = ((l.take t.toNat).count who : Int)) (fun r => r = (l.count who : Int)) ?_ ?_ k 0 0 (by omega) (by omega) ⟨by omega, by simp⟩
  · obtain ⟨r, e, rfl⟩ := this
    rw [e]; rfl
  · rintro k' t s h0 h1 ⟨_, q⟩
    left
    obtain ⟨m, rfl⟩ := nat_of h0
    have hm : m < l.length := by omega
    rw [Int.toNat_natCast] at q
    have htk : l.take (m + 1) = l.take m ++ [l.getD m 0] := by
      rw [List.take_succ_eq_append_getElem hm]; simp [List.getD, hm]
    have hc : (l.take m).count who ≤ m := Nat.le_trans List.count_le_length (by simp; omega)
    refine ⟨((l.take (m + 1)).count who : Int), ?_, by omega, by rw [show ((m : Int) + 1).toNat = m + 1 by omega]⟩
    show impl_position_many_l0 ⟨n, l⟩ who (k' + 1) s m = _
    rw [impl_position_many_l0, w64_succ h0 h1 (by omega), if_pos (decide_eq_true h1), if_pos ⟨h0, h1⟩, Int.toNat_natCast, htk, List.count_append, q]
    rw [w64_id (by omega)]
    generalize l.getD m 0 = z
    by_cases h : z = who
    · subst h; simp
    · simp [h]
  · rintro k' t s h0 h1 ⟨q0, q⟩
    have : t = l.length := by omega
    subst this
    rw [Int.toNat_natCast, List.take_length] at q
    refine ⟨s, ?_, q⟩
    show impl_position_many_l0 ⟨n, l⟩ who (k' + 1) s l.length = _
    rw [impl_position_many_l0]; simp

theorem counts_eq (k : Nat) (l : List Int) (hk : l.length + 1 ≤ k) (hl : (l.length : Int) ≤ 1099511627776) : spec_l09Counts k l = some ((l.count 0 : Int), (l.count 1 : Int)) := by
  unfold spec_l09Counts
  have := loopI (f := fun k' t (s : Int × Int) => spec_l09Counts_l0 l k' s.1 s.2 t) (l.length : Int) 0 (fun t s => t ≤ l.length ∧ s.1 = ((l.take t.toNat).count 0 : Int) ∧ s.2 = ((l.take t.toNat).count 1 : Int)) (fun r => r = ((l.count 0 : Int), (l.count 1 : Int))) ?_ ?_ k 0 (0, 0) (by omega) (by omega) ⟨by omega, by simp, by simp⟩
  · obtain ⟨r, e, rfl⟩ := this
    simp only at e
    rw [e]; rfl
  · rintro k' t ⟨s1, s2⟩ h0 h1 ⟨_, q1, q2⟩
    left
    obtain ⟨m, rfl⟩ := nat_of h0
    have hm : m < l.length := by omega
    simp only [Int.toNat_natCast] at q1 q2
    have htk : l.take (m + 1) = l.take m ++ [l.getD m 0] := by
      rw [List.take_succ_eq_append_getElem hm]; simp [List.getD, hm]
    have hc0 : (l.take m).count 0 ≤ m := Nat.le_trans List.count_le_length (by simp; omega)
    have hc1 : (l.take m).count 1 ≤ m := Nat.le_trans List.count_le_length (by simp; omega)
    refine ⟨(((l.take (m + 1)).count 0 : Int), ((l.take (m + 1)).count 1 : Int)), ?_, by omega, by rw [show ((m : Int) + 1).toNat = m + 1 by omega], by rw [show ((m : Int) + 1).toNat = m + 1 by omega]⟩
    show spec_l09Counts_l0 l (k' + 1) s1 s2 m = _
    rw [spec_l09Counts_l0, w64_succ h0 h1 (by omega), if_pos (decide_eq_true h1), if_pos ⟨h0, h1⟩, Int.toNat_natCast, htk, List.count_append, List.count_append, q1, q2, w64_id (by omega), w64_id (by omega)]
    generalize l.getD m 0 = z
    by_cases hz0 : z = 0
    · subst hz0; simp [h1]
    · by_cases hz1 : z = 1
      · subst hz1; simp [h1]
      · simp [hz0, hz1, h1]
  · rintro k' t ⟨s1, s2⟩ h0 h1 ⟨q0, q1, q2⟩
    have : t = l.length := by omega
    subst this
    simp only [Int.toNat_natCast, List.take_length] at q1 q2
    refine ⟨(s1, s2), ?_, by rw [q1, q2]⟩
    show spec_l09Counts_l0 l (k' + 1) s1 s2 l.length = _
    rw [spec_l09Counts_l0]; simp

/-! ### Triangles -/
def hasT (l : List Int) (who : Int) (i j m : Nat) : Prop := l.getD (eN i j) 0 = who ∧ l.getD (eN i m) 0 = who ∧ l.getD (eN j m) 0 = who
def tri3 (i j m : Nat) : List Int := [(eN i j : Int), (eN i m : Int), (eN j m : Int)]
/-- What loops over triples have behind them. -/
def prc (m j i i' j' m' : Nat) : Prop := i' < j' ∧ j' < m' ∧ (m' < m ∨ (m' = m ∧ (j' < j ∨ (j' = j ∧ i' < i))))
theorem prc_step {m j i i' j' m' : Nat} (h1 : i < j) (h2 : j < m) : prc m j (i + 1) i' j' m' ↔ prc m j i i' j' m' ∨ (i' = i ∧ j' = j ∧ m' = m) := by
  unfold prc
  constructor
  · rintro ⟨a, b, c⟩
    by_cases e : i' = i ∧ j' = j ∧ m' = m
    · exact .inr e
    · exact .inl ⟨a, b, by omega⟩
  · rintro (⟨a, b, c⟩ | ⟨rfl, rfl, rfl⟩)
    · exact ⟨a, b, by omega⟩
    · exact ⟨h1, h2, by omega⟩
theorem prc_row {m j i' j' m' : Nat} : prc m j j i' j' m' ↔ prc m (j + 1) 0 i' j' m' := by
  unfold prc
  constructor
  · rintro ⟨a, b, c⟩; exact ⟨a, b, by omega⟩
  · rintro ⟨a, b, c⟩; exact ⟨a, b, by omega⟩
theorem prc_lay {m i' j' m' : Nat} : prc m m 0 i' j' m' ↔ prc (m + 1) 0 0 i' j' m' := by
  unfold prc
  constructor
  · rintro ⟨a, b, c⟩; exact ⟨a, b, by omega⟩
  · rintro ⟨a, b, c⟩; exact ⟨a, b, by omega⟩
theorem prc_one {m i' j' m' : Nat} : prc m 1 0 i' j' m' ↔ prc m 0 0 i' j' m' := by
  unfold prc
  constructor
  · rintro ⟨a, b, c⟩; exact ⟨a, b, by omega⟩
  · rintro ⟨a, b, c⟩; exact ⟨a, b, by omega⟩
theorem prc_two {i' j' m' : Nat} : ¬ prc 2 0 0 i' j' m' := by
  unfold prc
  rintro ⟨a, b, c⟩; omega
theorem prc_all {n i' j' m' : Nat} : prc n 0 0 i' j' m' ↔ i' < j' ∧ j' < m' ∧ m' < n := by
  unfold prc
  constructor
  · rintro ⟨a, b, c⟩; exact ⟨a, b, by omega⟩
  · rintro ⟨a, b, c⟩; exact ⟨a, b, by omega⟩

/-- What the reference knows of the triangles. -/
def CInv (l : List Int) (who : Int) (pr : Nat → Nat → Nat → Prop) (s : Int × Int) : Prop :=
  (∃ c : Nat, s.1 = c ∧ c < 2 ^ l.length ∧ ∀ e, c.testBit e = true ↔ e < l.length ∧ ∀ i j m, pr i j m → hasT l who i j m → (e : Int) ∈ tri3 i j m) ∧ 0 ≤ s.2 ∧ (s.2 = 0 ↔ ∀ i j m, pr i j m → ¬ hasT l who i j m)

theorem CInv.congr {l : List Int} {who : Int} {p q : Nat → Nat → Nat → Prop} {s : Int × Int} (h : ∀ i j m, p i j m ↔ q i j m) (hs : CInv l who p s) : CInv l who q s := by
  obtain ⟨⟨c, c1, c2, c3⟩, h0, h1⟩ := hs
  refine ⟨⟨c, c1, c2, fun e => ?_⟩, h0, ?_⟩
  · rw [c3 e]; simp only [h]
  · rw [h1]; simp only [h]

theorem mask_eq {a b c : Nat} (ha : a < 60) (hb : b < 60) (hc : c < 60) : bOr .i64 (bOr .i64 (bShl .i64 1 (a : Int)) (bShl .i64 1 (b : Int))) (bShl .i64 1 (c : Int)) = ((2 ^ a ||| 2 ^ b ||| 2 ^ c : Nat) : Int) := by
  have p : ∀ {i : Nat}, i < 60 → 2 ^ i < 2 ^ 63 := fun h => Nat.pow_lt_pow_right (by omega) (by omega)
  rw [bShl_one (by omega), bShl_one (by omega), bShl_one (by omega), bOr_nat (p ha) (p hb), bOr_nat (Nat.or_lt_two_pow (p ha) (p hb)) (p hc)]

theorem common_l2 (l : List Int) (who : Int) (n : Nat) (hn : n ≤ 5) (hlen : l.length = tri n) (m j : Nat) (hm : m < n) (hj : j < m) (k : Nat) (hk : 10 ≤ k) (c cnt : Int) (B : Int) (hB : B ≤ 1000) (hc : CInv l who (prc m j 0) (c, cnt)) (hb : cnt ≤ B) :
    ∃ r, spec_l09Common_l2 l who m j k c cnt 0 = some r ∧ CInv l who (prc m j j) r ∧ r.2 ≤ B + 5 := by
  have h10 : l.length ≤ 10 := by
    rw [hlen]
    have : ∀ n : Nat, n ≤ 5 → tri n ≤ 10 := by decide +kernel
    exact this n hn
  have := loopI (f := fun k' t (s : Int × Int) => spec_l09Common_l2 l who m j k' s.1 s.2 t) (j : Int) 0 (fun t s => t ≤ j ∧ CInv l who (prc m j t.toNat) s ∧ s.2 ≤ B + t) (fun r => CInv l who (prc m j j) r ∧ r.2 ≤ B + 5) ?_ ?_ k 0 (c, cnt) (by omega) (by omega) ⟨by omega, hc, by simp only; omega⟩
  · exact this
  · rintro k' t ⟨c, cnt⟩ h0 h1 ⟨_, q, qb⟩
    left
    obtain ⟨i, rfl⟩ := nat_of h0
    have hi : i < j := by omega
    rw [Int.toNat_natCast] at q
    simp only at qb
    obtain ⟨⟨cN, e1, c2, c3⟩, z0, z1⟩ := q
    simp only at e1 z0 z1
    subst e1
    have e_ij : spec_l01Edge (i : Int) (j : Int) = (eN i j : Int) := by rw [edge_eq _ _ (by omega) (by omega)]; simp
    have e_im : spec_l01Edge (i : Int) (m : Int) = (eN i m : Int) := by rw [edge_eq _ _ (by omega) (by omega)]; simp
    have e_jm : spec_l01Edge (j : Int) (m : Int) = (eN j m : Int) := by rw [edge_eq _ _ (by omega) (by omega)]; simp
    have l1 : eN i j < l.length := by rw [hlen]; exact eN_lt hi (by omega) (by omega)
    have l2 : eN i m < l.length := by rw [hlen]; exact eN_lt (by omega) hm (by omega)
    have l3 : eN j m < l.length := by rw [hlen]; exact eN_lt hj hm (by omega)
    have g1 : (0 : Int) ≤ (eN i j : Int) ∧ (eN i j : Int) < (l.length : Int) := by omega
    have g2 : (0 : Int) ≤ (eN i m : Int) ∧ (eN i m : Int) < (l.length : Int) := by omega
    have g3 : (0 : Int) ≤ (eN j m : Int) ∧ (eN j m : Int) < (l.length : Int) := by omega
    have u1 : IntKind.u64.wrap (eN i j : Int) = (eN i j : Int) := u64_id (by omega)
    have u2 : IntKind.u64.wrap (eN i m : Int) = (eN i m : Int) := u64_id (by omega)
    have u3 : IntKind.u64.wrap (eN j m : Int) = (eN j m : Int) := u64_id (by omega)
    have hp : (2 : Nat) ^ l.length ≤ 2 ^ 10 := Nat.pow_le_pow_right (by omega) h10
    have c63 : cN < 2 ^ 63 := Nat.lt_of_lt_of_le c2 (Nat.le_trans hp (by decide))
    have e0 : ((i : Int) + 1).toNat = i + 1 := by omega
    have bool_eq : ((if 0 ≤ (eN i j : Int) ∧ (eN i j : Int) < (l.length : Int) then (if decide (l.getD (eN i j) 0 = who) then (if 0 ≤ (eN i m : Int) ∧ (eN i m : Int) < (l.length : Int) then (if decide (l.getD (eN i m) 0 = who) then (if 0 ≤ (eN j m : Int) ∧ (eN j m : Int) < (l.length : Int) then some (decide (l.getD (eN j m) 0 = who)) else none) else some false) else none) else some false) else none) : Option Bool) = some (decide (l.getD (eN i j) 0 = who) && decide (l.getD (eN i m) 0 = who) && decide (l.getD (eN j m) 0 = who)) := by
      rw [if_pos g1, if_pos g2, if_pos g3]
      by_cases a1 : l.getD (eN i j) 0 = who <;> by_cases a2 : l.getD (eN i m) 0 = who <;> simp only [a1, a2, decide_true, decide_false, if_true, Bool.false_eq_true, if_false, Bool.true_and, Bool.false_and]
    have hrun : spec_l09Common_l2 l who m j (k' + 1) (cN : Int) cnt i = (if (decide (l.getD (eN i j) 0 = who) && decide (l.getD (eN i m) 0 = who) && decide (l.getD (eN j m) 0 = who)) = true then spec_l09Common_l2 l who m j k' ((cN &&& (2 ^ eN i j ||| 2 ^ eN i m ||| 2 ^ eN j m) : Nat) : Int) (cnt + 1) (i + 1) else spec_l09Common_l2 l who m j k' (cN : Int) cnt (i + 1)) := by
      rw [spec_l09Common_l2, w64_succ h0 h1 (by omega), if_pos (decide_eq_true h1), e_ij, e_im, e_jm, Int.toNat_natCast, Int.toNat_natCast, Int.toNat_natCast, bool_eq, u1, u2, u3, mask_eq (by omega) (by omega) (by omega), w64_id (n := cnt + 1) (by omega)]
      have hmask : 2 ^ eN i j ||| 2 ^ eN i m ||| 2 ^ eN j m < 2 ^ 63 := by
        have p : ∀ {i : Nat}, i < 60 → 2 ^ i < 2 ^ 63 := fun h => Nat.pow_lt_pow_right (by omega) (by omega)
        exact Nat.or_lt_two_pow (Nat.or_lt_two_pow (p (by omega)) (p (by omega))) (p (by omega))
      rw [bAnd_nat c63 hmask]
      simp only [Option.bind_some]
      split
      · rw [if_pos g1.1, if_pos g2.1, if_pos g3.1]; rfl
      · rfl
    by_cases hh : hasT l who i j m
    · refine ⟨(((cN &&& (2 ^ eN i j ||| 2 ^ eN i m ||| 2 ^ eN j m) : Nat) : Int), cnt + 1), ?_, by omega, ?_, by simp only; omega⟩
      · show spec_l09Common_l2 l who m j (k' + 1) (cN : Int) cnt i = _
        rw [hrun, if_pos (by rw [decide_eq_true hh.1, decide_eq_true hh.2.1, decide_eq_true hh.2.2]; rfl)]
      · rw [e0]
        refine ⟨⟨_, rfl, Nat.lt_of_le_of_lt Nat.and_le_left c2, fun e => ?_⟩, by simp only; omega, ?_⟩
        · rw [Nat.testBit_and, Nat.testBit_or, Nat.testBit_or, Nat.testBit_two_pow, Nat.testBit_two_pow, Nat.testBit_two_pow, Bool.and_eq_true, c3 e]
          have hmem : ((decide (eN i j = e) || decide (eN i m = e)) || decide (eN j m = e)) = true ↔ (e : Int) ∈ tri3 i j m := by
            unfold tri3
            simp only [Bool.or_eq_true, decide_eq_true_eq, List.mem_cons, List.not_mem_nil, or_false]
            omega
          rw [hmem]
          constructor
          · rintro ⟨⟨a1, a2⟩, a3⟩
            refine ⟨a1, fun i' j' m' hp hT => ?_⟩
            rcases (prc_step hi hj).1 hp with h | ⟨rfl, rfl, rfl⟩
            · exact a2 i' j' m' h hT
            · exact a3
          · rintro ⟨a1, a2⟩
            exact ⟨⟨a1, fun i' j' m' hp hT => a2 i' j' m' ((prc_step hi hj).2 (.inl hp)) hT⟩, a2 i j m ((prc_step hi hj).2 (.inr ⟨rfl, rfl, rfl⟩)) hh⟩
        · simp only
          constructor
          · intro h; omega
          · intro h; exact absurd hh (h i j m ((prc_step hi hj).2 (.inr ⟨rfl, rfl, rfl⟩)))
    · refine ⟨((cN : Int), cnt), ?_, by omega, ?_, by simp only; omega⟩
      · show spec_l09Common_l2 l who m j (k' + 1) (cN : Int) cnt i = _
        rw [hrun, if_neg]
        simp only [Bool.and_eq_true, decide_eq_true_eq]
        exact fun h => hh ⟨h.1.1, h.1.2, h.2⟩
      · rw [e0]
        refine ⟨⟨_, rfl, c2, fun e => ?_⟩, z0, ?_⟩
        · rw [c3 e]
          constructor
          · rintro ⟨a1, a2⟩
            refine ⟨a1, fun i' j' m' hp hT => ?_⟩
            rcases (prc_step hi hj).1 hp with h | ⟨rfl, rfl, rfl⟩
            · exact a2 i' j' m' h hT
            · exact absurd hT hh
          · rintro ⟨a1, a2⟩
            exact ⟨a1, fun i' j' m' hp hT => a2 i' j' m' ((prc_step hi hj).2 (.inl hp)) hT⟩
        · rw [z1]
          constructor
          · intro a i' j' m' hp
            rcases (prc_step hi hj).1 hp with h | ⟨rfl, rfl, rfl⟩
            · exact a i' j' m' h
            · exact hh
          · intro a i' j' m' hp
            exact a i' j' m' ((prc_step hi hj).2 (.inl hp))
  · rintro k' t ⟨c, cnt⟩ h0 h1 ⟨q0, q, qb⟩
    have : t = j := by omega
    subst this
    rw [Int.toNat_natCast] at q
    refine ⟨(c, cnt), ?_, q, by simp only at qb ⊢; omega⟩
    show spec_l09Common_l2 l who m j (k' + 1) c cnt j = _
    rw [spec_l09Common_l2]; simp

theorem common_l1 (l : List Int) (who : Int) (n : Nat) (hn : n ≤ 5) (hlen : l.length = tri n) (m : Nat) (hm2 : 1 ≤ m) (hm : m < n) (k : Nat) (hk : 10 ≤ k) (c cnt : Int) (B : Int) (hB : B ≤ 500) (hc : CInv l who (prc m 0 0) (c, cnt)) (hb : cnt ≤ B) :
    ∃ r, spec_l09Common_l1 k l who m k c cnt 1 = some r ∧ CInv l who (prc (m + 1) 0 0) r ∧ r.2 ≤ B + 25 := by
  have := loopI (f := fun k' t (s : Int × Int) => spec_l09Common_l1 k l who m k' s.1 s.2 t) (m : Int) 1 (fun t s => t ≤ m ∧ CInv l who (prc m t.toNat 0) s ∧ s.2 ≤ B + 5 * t) (fun r => CInv l who (prc (m + 1) 0 0) r ∧ r.2 ≤ B + 25) ?_ ?_ k 1 (c, cnt) (by omega) (by omega) ⟨by omega, hc.congr fun i j m => prc_one.symm, by simp only; omega⟩
  · exact this
  · rintro k' t ⟨c, cnt⟩ h0 h1 ⟨_, q, qb⟩
    left
    obtain ⟨j, rfl⟩ := nat_of (show 0 ≤ t by omega)
    rw [Int.toNat_natCast] at q
    simp only at qb
    obtain ⟨r, e, hr, hrb⟩ := common_l2 l who n hn hlen m j hm (by omega) k hk c cnt (B + 5 * j) (by omega) q qb
    refine ⟨r, ?_, by omega, ?_, by omega⟩
    · show spec_l09Common_l1 k l who m (k' + 1) c cnt j = _
      rw [spec_l09Common_l1, w64_succ (by omega) h1 (by omega), if_pos (decide_eq_true h1), e]
      rfl
    · rw [show ((j : Int) + 1).toNat = j + 1 by omega]
      exact hr.congr fun i j m => prc_row
  · rintro k' t ⟨c, cnt⟩ h0 h1 ⟨q0, q, qb⟩
    have : t = m := by omega
    subst this
    rw [Int.toNat_natCast] at q
    refine ⟨(c, cnt), ?_, q.congr fun i j m => prc_lay, by simp only at qb ⊢; omega⟩
    show spec_l09Common_l1 k l who m (k' + 1) c cnt m = _
    rw [spec_l09Common_l1]; simp

theorem common_eq (l : List Int) (who : Int) (n : Int) (hs : sh n l) (k : Nat) (hk : 20 ≤ k) : ∃ r, spec_l09Common k n l who = some r ∧ CInv l who (prc n.toNat 0 0) r := by
  have hn := hs.1
  obtain ⟨n, rfl⟩ := nat_of (show 0 ≤ n by omega)
  have hlen := hs.2.1
  rw [Int.toNat_natCast] at hlen ⊢
  have h10 : l.length ≤ 10 := by
    rw [hlen]
    have : ∀ n : Nat, n ≤ 5 → tri n ≤ 10 := by decide +kernel
    exact this n (by omega)
  have hp : (2 : Nat) ^ l.length ≤ 2 ^ 10 := Nat.pow_le_pow_right (by omega) h10
  have hp1 : 1 ≤ 2 ^ l.length := Nat.one_le_two_pow
  have hu : IntKind.u64.wrap (l.length : Int) = (l.length : Int) := u64_id (by omega)
  have hall : w64 (bShl .i64 1 (l.length : Int) - 1) = ((2 ^ l.length - 1 : Nat) : Int) := by
    rw [bShl_one (by omega), w64_id (by omega)]; omega
  unfold spec_l09Common
  rw [hu, if_pos (by omega), hall]
  have start : CInv l who (prc 2 0 0) (((2 ^ l.length - 1 : Nat) : Int), 0) := by
    refine ⟨⟨_, rfl, by omega, fun e => ?_⟩, by simp, ?_⟩
    · rw [Nat.testBit_two_pow_sub_one]
      simp only [decide_eq_true_eq]
      exact ⟨fun h => ⟨h, fun i j m hpr => absurd hpr prc_two⟩, fun h => h.1⟩
    · exact ⟨fun _ i j m hpr => absurd hpr prc_two, fun _ => rfl⟩
  by_cases hn2 : n ≤ 2
  · refine ⟨(((2 ^ l.length - 1 : Nat) : Int), 0), ?_, ?_⟩
    · obtain ⟨k, rfl⟩ : ∃ k', k = k' + 1 := ⟨k - 1, by omega⟩
      rw [spec_l09Common_l0]
      have : ¬ (2 : Int) < (n : Int) := by omega
      simp [this]
    · refine start.congr fun i j m => ?_
      constructor
      · intro h; exact absurd h prc_two
      · intro h; have := prc_all.1 h; omega
  · have := loopI (f := fun k' t (s : Int × Int) => spec_l09Common_l0 k n l who k' s.1 s.2 t) (n : Int) 2 (fun t s => t ≤ n ∧ CInv l who (prc t.toNat 0 0) s ∧ s.2 ≤ 25 * t) (fun r => CInv l who (prc n 0 0) r) ?_ ?_ k 2 (((2 ^ l.length - 1 : Nat) : Int), 0) (by omega) (by omega) ⟨by omega, start, by simp⟩
    · obtain ⟨r, e, hr⟩ := this
      simp only at e
      rw [e]
      exact ⟨r, rfl, hr⟩
    · rintro k' t ⟨c, cnt⟩ h0 h1 ⟨_, q, qb⟩
      left
      obtain ⟨m, rfl⟩ := nat_of (show 0 ≤ t by omega)
      rw [Int.toNat_natCast] at q
      simp only at qb
      obtain ⟨r, e, hr, hrb⟩ := common_l1 l who n (by omega) hlen m (by omega) (by omega) k (by omega) c cnt (25 * m) (by omega) q qb
      refine ⟨r, ?_, by omega, ?_, by omega⟩
      · show spec_l09Common_l0 k n l who (k' + 1) c cnt m = _
        rw [spec_l09Common_l0, w64_succ (by omega) h1 (by omega), if_pos (decide_eq_true h1), e]
        rfl
      · rw [show ((m : Int) + 1).toNat = m + 1 by omega]
        exact hr
    · rintro k' t ⟨c, cnt⟩ h0 h1 ⟨q0, q, qb⟩
      have : t = n := by omega
      subst this
      rw [Int.toNat_natCast] at q
      refine ⟨(c, cnt), ?_, q⟩
      show spec_l09Common_l0 k n l who (k' + 1) c cnt n = _
      rw [spec_l09Common_l0]; simp

/-- What the program knows of the triangles. -/
def TInv (l : List Int) (who : Int) (pr : Nat → Nat → Nat → Prop) (R : List (List Int)) : Prop := ∀ t, t ∈ R ↔ ∃ i j m, pr i j m ∧ hasT l who i j m ∧ t = tri3 i j m
theorem TInv.congr {l : List Int} {who : Int} {p q : Nat → Nat → Nat → Prop} {R : List (List Int)} (h : ∀ i j m, p i j m ↔ q i j m) (hs : TInv l who p R) : TInv l who q R := fun t => by rw [hs t]; simp only [h]

theorem tri_l2 (l : List Int) (who : Int) (n : Nat) (hn : n ≤ 5) (hlen : l.length = tri n) (m j : Nat) (hm : m < n) (hj : j < m) (k : Nat) (hk : 10 ≤ k) (N : Int) (R : List (List Int)) (B : Int) (hB : B ≤ 1000) (hc : TInv l who (prc m j 0) R) (hb : (R.length : Int) ≤ B) :
    ∃ r, impl_position_triangles_l2 k ⟨N, l⟩ who m j k 0 R = some r ∧ TInv l who (prc m j j) r ∧ (r.length : Int) ≤ B + 5 := by
  have h10 : l.length ≤ 10 := by
    rw [hlen]
    have : ∀ n : Nat, n ≤ 5 → tri n ≤ 10 := by decide +kernel
    exact this n hn
  have := loopI (f := fun k' t (s : List (List Int)) => impl_position_triangles_l2 k ⟨N, l⟩ who m j k' t s) (j : Int) 0 (fun t s => t ≤ j ∧ TInv l who (prc m j t.toNat) s ∧ (s.length : Int) ≤ B + t) (fun r => TInv l who (prc m j j) r ∧ (r.length : Int) ≤ B + 5) ?_ ?_ k 0 R (by omega) (by omega) ⟨by omega, hc, by omega⟩
  · exact this
  · rintro k' t s h0 h1 ⟨_, q, qb⟩
    left
    obtain ⟨i, rfl⟩ := nat_of h0
    have hi : i < j := by omega
    rw [Int.toNat_natCast] at q
    have e_ij : impl_number (i : Int) (j : Int) = (eN i j : Int) := by rw [number_eq _ _ (by omega) (by omega)]; simp
    have e_im : impl_number (i : Int) (m : Int) = (eN i m : Int) := by rw [number_eq _ _ (by omega) (by omega)]; simp
    have e_jm : impl_number (j : Int) (m : Int) = (eN j m : Int) := by rw [number_eq _ _ (by omega) (by omega)]; simp
    have l1 : eN i j < l.length := by rw [hlen]; exact eN_lt hi (by omega) (by omega)
    have l2 : eN i m < l.length := by rw [hlen]; exact eN_lt (by omega) hm (by omega)
    have l3 : eN j m < l.length := by rw [hlen]; exact eN_lt hj hm (by omega)
    have e0 : ((i : Int) + 1).toNat = i + 1 := by omega
    have hcon := containsF_eq k (tri3 i j m) (fun a0 => impl_position_triangles_c1 a0 ⟨N, l⟩ who) (fun z => !decide (l.getD z.toNat 0 = who)) (fun z hz => by
      unfold impl_position_triangles_c1
      rw [if_pos]
      simp only [tri3, List.mem_cons, List.not_mem_nil, or_false] at hz
      show 0 ≤ z ∧ z < (l.length : Int)
      rcases hz with rfl | rfl | rfl <;> omega) (by simp [tri3]; omega) (by simp [tri3])
    have hany : (tri3 i j m).any (fun z => !decide (l.getD z.toNat 0 = who)) = !(decide (l.getD (eN i j) 0 = who) && decide (l.getD (eN i m) 0 = who) && decide (l.getD (eN j m) 0 = who)) := by
      simp only [tri3, List.any_cons, List.any_nil, Int.toNat_natCast, Bool.or_false, Bool.not_and, Bool.or_assoc]
    rw [hany] at hcon
    have hl40 : s.length + 1 ≤ 1099511627776 := by omega
    have hrun : impl_position_triangles_l2 k ⟨N, l⟩ who m j (k' + 1) i s = (if (decide (l.getD (eN i j) 0 = who) && decide (l.getD (eN i m) 0 = who) && decide (l.getD (eN j m) 0 = who)) = true then impl_position_triangles_l2 k ⟨N, l⟩ who m j k' (i + 1) (s ++ [tri3 i j m]) else impl_position_triangles_l2 k ⟨N, l⟩ who m j k' (i + 1) s) := by
      rw [impl_position_triangles_l2, w64_succ h0 h1 (by omega), if_pos (decide_eq_true h1), e_ij, e_im, e_jm]
      rw [show ([(eN i j : Int), (eN i m : Int), (eN j m : Int)] : List Int) = tri3 i j m from rfl, hcon]
      simp only [Option.bind_some, Bool.not_not, List.length_singleton, hl40, if_true]
      split <;> rfl
    by_cases hh : hasT l who i j m
    · refine ⟨s ++ [tri3 i j m], ?_, by omega, ?_, by rw [List.length_append, List.length_singleton]; omega⟩
      · show impl_position_triangles_l2 k ⟨N, l⟩ who m j (k' + 1) i s = _
        rw [hrun, if_pos (by rw [decide_eq_true hh.1, decide_eq_true hh.2.1, decide_eq_true hh.2.2]; rfl)]
      · rw [e0]
        intro t
        rw [List.mem_append, List.mem_singleton, q t]
        constructor
        · rintro (⟨i', j', m', hp, hT, rfl⟩ | rfl)
          · exact ⟨i', j', m', (prc_step hi hj).2 (.inl hp), hT, rfl⟩
          · exact ⟨i, j, m, (prc_step hi hj).2 (.inr ⟨rfl, rfl, rfl⟩), hh, rfl⟩
        · rintro ⟨i', j', m', hp, hT, rfl⟩
          rcases (prc_step hi hj).1 hp with h | ⟨rfl, rfl, rfl⟩
          · exact .inl ⟨i', j', m', h, hT, rfl⟩
          · exact .inr rfl
    · refine ⟨s, ?_, by omega, ?_, by omega⟩
      · show impl_position_triangles_l2 k ⟨N, l⟩ who m j (k' + 1) i s = _
        rw [hrun, if_neg]
        simp only [Bool.and_eq_true, decide_eq_true_eq]
        exact fun h => hh ⟨h.1.1, h.1.2, h.2⟩
      · rw [e0]
        intro t
        rw [q t]
        constructor
        · rintro ⟨i', j', m', hp, hT, rfl⟩
          exact ⟨i', j', m', (prc_step hi hj).2 (.inl hp), hT, rfl⟩
        · rintro ⟨i', j', m', hp, hT, rfl⟩
          rcases (prc_step hi hj).1 hp with h | ⟨rfl, rfl, rfl⟩
          · exact ⟨i', j', m', h, hT, rfl⟩
          · exact absurd hT hh
  · rintro k' t s h0 h1 ⟨q0, q, qb⟩
    have : t = j := by omega
    subst this
    rw [Int.toNat_natCast] at q
    refine ⟨s, ?_, q, by omega⟩
    show impl_position_triangles_l2 k ⟨N, l⟩ who m j (k' + 1) j s = _
    rw [impl_position_triangles_l2]; simp

theorem tri_l1 (l : List Int) (who : Int) (n : Nat) (hn : n ≤ 5) (hlen : l.length = tri n) (m : Nat) (hm : m < n) (k : Nat) (hk : 10 ≤ k) (N : Int) (R : List (List Int)) (B : Int) (hB : B ≤ 500) (hc : TInv l who (prc m 0 0) R) (hb : (R.length : Int) ≤ B) :
    ∃ r, impl_position_triangles_l1 k ⟨N, l⟩ who m k 0 R = some r ∧ TInv l who (prc (m + 1) 0 0) r ∧ (r.length : Int) ≤ B + 25 := by
  have := loopI (f := fun k' t (s : List (List Int)) => impl_position_triangles_l1 k ⟨N, l⟩ who m k' t s) (m : Int) 0 (fun t s => t ≤ m ∧ TInv l who (prc m t.toNat 0) s ∧ (s.length : Int) ≤ B + 5 * t) (fun r => TInv l who (prc (m + 1) 0 0) r ∧ (r.length : Int) ≤ B + 25) ?_ ?_ k 0 R (by omega) (by omega) ⟨by omega, hc, by omega⟩
  · exact this
  · rintro k' t s h0 h1 ⟨_, q, qb⟩
    left
    obtain ⟨j, rfl⟩ := nat_of (show 0 ≤ t by omega)
    rw [Int.toNat_natCast] at q
    obtain ⟨r, e, hr, hrb⟩ := tri_l2 l who n hn hlen m j hm (by omega) k hk N s (B + 5 * j) (by omega) q qb
    refine ⟨r, ?_, by omega, ?_, by omega⟩
    · show impl_position_triangles_l1 k ⟨N, l⟩ who m (k' + 1) j s = _
      rw [impl_position_triangles_l1, w64_succ (by omega) h1 (by omega), if_pos (decide_eq_true h1), e]
      rfl
    · rw [show ((j : Int) + 1).toNat = j + 1 by omega]
      exact hr.congr fun i j m => prc_row
  · rintro k' t s h0 h1 ⟨q0, q, qb⟩
    have : t = m := by omega
    subst this
    rw [Int.toNat_natCast] at q
    refine ⟨s, ?_, q.congr fun i j m => prc_lay, by omega⟩
    show impl_position_triangles_l1 k ⟨N, l⟩ who m (k' + 1) m s = _
    rw [impl_position_triangles_l1]; simp

theorem triangles_eq (l : List Int) (who : Int) (n : Int) (hs : sh n l) (k : Nat) (hk : 20 ≤ k) : ∃ R, impl_position_triangles k ⟨n, l⟩ who = some R ∧ TInv l who (prc n.toNat 0 0) R ∧ (R.length : Int) ≤ 125 := by
  have hn := hs.1
  obtain ⟨n, rfl⟩ := nat_of (show 0 ≤ n by omega)
  have hlen := hs.2.1
  rw [Int.toNat_natCast] at hlen ⊢
  unfold impl_position_triangles
  have := loopI (f := fun k' t (s : List (List Int)) => impl_position_triangles_l0 k ⟨n, l⟩ who k' t s) (n : Int) 0 (fun t s => t ≤ n ∧ TInv l who (prc t.toNat 0 0) s ∧ (s.length : Int) ≤ 25 * t) (fun r => TInv l who (prc n 0 0) r ∧ (r.length : Int) ≤ 125) ?_ ?_ k 0 [] (by omega) (by omega) ⟨by omega, fun t => ⟨fun h => (List.not_mem_nil h).elim, fun ⟨i, j, m, h, _⟩ => by have := prc_all.1 h; omega⟩, by simp⟩
  · obtain ⟨r, e, hr⟩ := this
    rw [e]
    exact ⟨r, rfl, hr⟩
  · rintro k' t s h0 h1 ⟨_, q, qb⟩
    left
    obtain ⟨m, rfl⟩ := nat_of (show 0 ≤ t by omega)
    rw [Int.toNat_natCast] at q
    obtain ⟨r, e, hr, hrb⟩ := tri_l1 l who n (by omega) hlen m (by omega) k (by omega) n s (25 * m) (by omega) q qb
    refine ⟨r, ?_, by omega, ?_, by omega⟩
    · show impl_position_triangles_l0 k ⟨n, l⟩ who (k' + 1) m s = _
      rw [impl_position_triangles_l0, w64_succ (by omega) h1 (by omega), if_pos (decide_eq_true h1), e]
      rfl
    · rw [show ((m : Int) + 1).toNat = m + 1 by omega]
      exact hr
  · rintro k' t s h0 h1 ⟨q0, q, qb⟩
    have : t = n := by omega
    subst this
    rw [Int.toNat_natCast] at q
    refine ⟨s, ?_, q, by omega⟩
    show impl_position_triangles_l0 k ⟨n, l⟩ who (k' + 1) n s = _
    rw [impl_position_triangles_l0]; simp

/-! ### Whether it is a position -/
def anyT (n : Int) (l : List Int) (who : Int) : Prop := ∃ i j m, prc n.toNat 0 0 i j m ∧ hasT l who i j m
/-- All triangles have an edge in common. -/
def comT (n : Int) (l : List Int) (who : Int) : Prop := ∃ e : Nat, e < l.length ∧ ∀ i j m, prc n.toNat 0 0 i j m → hasT l who i j m → (e : Int) ∈ tri3 i j m
def mov (l : List Int) : Int := (l.count 0 : Int) - l.count 1
def isPos (n : Int) (l : List Int) : Prop := (0 ≤ mov l ∧ mov l ≤ 1) ∧ ¬ anyT n l (mov l) ∧ (¬ anyT n l (1 - mov l) ∨ comT n l (1 - mov l))

theorem mov_range (l : List Int) (h : l.length ≤ 10) : -10 ≤ mov l ∧ mov l ≤ 10 := by
  have h0 := List.count_le_length (a := (0 : Int)) (l := l)
  have h1 := List.count_le_length (a := (1 : Int)) (l := l)
  unfold mov; omega

open Classical in
theorem specIs9_eq (l : List Int) (n : Int) (hs : sh n l) (k : Nat) (hk : 20 ≤ k) : spec_l09Is k n l = some (decide (isPos n l)) := by
  have h10 : l.length ≤ 10 := by rw [hs.2.1]; exact tri5 n hs.1
  have hm := mov_range l h10
  unfold spec_l09Is spec_l09Mover
  rw [counts_eq k l (by omega) (by omega)]
  simp only [Option.bind_some]
  rw [show w64 ((l.count 0 : Int) - (l.count 1 : Int)) = mov l from w64_id (by unfold mov at hm; omega)]
  obtain ⟨r1, e1, c1⟩ := common_eq l (mov l) n hs k hk
  obtain ⟨r2, e2, c2⟩ := common_eq l (1 - mov l) n hs k hk
  by_cases hr : 0 ≤ mov l ∧ mov l ≤ 1
  · have hb : (if decide (mov l = 0) = false then !decide (mov l = 1) else false) = false := by
      by_cases h0 : mov l = 0
      · simp [h0]
      · have : mov l = 1 := by omega
        simp [this]
    have hb' : (if (!decide (mov l = 0)) = true then !decide (mov l = 1) else false) = false := by simpa using hb
    rw [hb']
    simp only [letO, Bool.false_eq_true, if_false, Option.bind_some]
    rw [e1, show w64 (1 - mov l) = 1 - mov l from w64_id (by omega), e2]
    simp only [Option.bind_some]
    congr 1
    obtain ⟨_, _, z1⟩ := c1
    obtain ⟨⟨c, hc0, hc1, hc2⟩, _, z2⟩ := c2
    have w1 : r1.2 = 0 ↔ ¬ anyT n l (mov l) := by
      rw [z1]; unfold anyT
      exact ⟨fun h ⟨i, j, m, a, b⟩ => h i j m a b, fun h i j m a b => h ⟨i, j, m, a, b⟩⟩
    have w2 : r2.2 = 0 ↔ ¬ anyT n l (1 - mov l) := by
      rw [z2]; unfold anyT
      exact ⟨fun h ⟨i, j, m, a, b⟩ => h i j m a b, fun h i j m a b => h ⟨i, j, m, a, b⟩⟩
    have w3 : ¬ r2.1 = 0 ↔ comT n l (1 - mov l) := by
      rw [hc0]
      constructor
      · intro h
        have : c ≠ 0 := by omega
        obtain ⟨e, he⟩ : ∃ e, c.testBit e = true := by
          apply Classical.byContradiction
          intro hno
          apply this
          apply bits_eq
          intro i
          rw [Nat.zero_testBit]
          cases hb : c.testBit i with
          | false => rfl
          | true => exact absurd ⟨i, hb⟩ hno
        have := (hc2 e).1 he
        exact ⟨e, this.1, this.2⟩
      · rintro ⟨e, h1, h2⟩ h
        have := (hc2 e).2 ⟨h1, h2⟩
        have hcz : c = 0 := by omega
        subst hcz
        simp at this
    unfold isPos
    simp only [hr, true_and, and_self, ← w1, ← w2, ← w3]
    by_cases a : r1.2 = 0 <;> by_cases b : r2.2 = 0 <;> by_cases d : r2.1 = 0 <;> simp [a, b, d]
  · have hb' : (if (!decide (mov l = 0)) = true then !decide (mov l = 1) else false) = true := by
      have h0 : ¬ mov l = 0 := by omega
      have h1 : ¬ mov l = 1 := by omega
      simp [h0, h1]
    rw [hb', decide_eq_false (fun h : isPos n l => hr h.1)]
    rfl

theorem index9_eq (l : List Int) (v : Int) (hl : (l.length : Int) ≤ 1099511627776) : ∀ (d k : Nat) (i : Nat), i + d = l.length → d < k →
    ∃ r : Sum Unit Int, slices_Index_l0 l v k i = some r ∧ ((∃ z : Int, r = .inr z ∧ 0 ≤ z ∧ v ∈ l.drop i) ∨ (r = .inl () ∧ v ∉ l.drop i)) := by
  intro d
  induction d with
  | zero =>
    intro k i h hk
    obtain ⟨k, rfl⟩ : ∃ k', k = k' + 1 := ⟨k - 1, by omega⟩
    have : ¬ (i : Int) < (l.length : Int) := by omega
    exact ⟨.inl (), by rw [slices_Index_l0]; simp [this], .inr ⟨rfl, by rw [List.drop_of_length_le (by omega)]; exact List.not_mem_nil⟩⟩
  | succ d ih =>
    intro k i h hk
    obtain ⟨k, rfl⟩ : ∃ k', k = k' + 1 := ⟨k - 1, by omega⟩
    have hi : i < l.length := by omega
    have h1 : (i : Int) < (l.length : Int) := by omega
    have hd := List.drop_eq_getElem_cons hi
    have hg : l.getD i 0 = l[i] := by simp [List.getD, hi]
    rw [slices_Index_l0, if_pos (decide_eq_true h1), if_pos ⟨by omega, h1⟩, Int.toNat_natCast, hg, w64_succ (by omega) h1 (by omega)]
    rw [hd]
    by_cases hz : v = l[i]
    · exact ⟨.inr i, by rw [if_pos (decide_eq_true hz)], .inl ⟨i, rfl, by omega, by rw [hz]; exact List.mem_cons_self ..⟩⟩
    · obtain ⟨r, e, hr⟩ := ih k (i + 1) (by omega) (by omega)
      rw [if_neg (by simpa using hz), show ((i : Int) + 1) = ((i + 1 : Nat) : Int) by omega, e]
      refine ⟨r, rfl, ?_⟩
      rw [List.mem_cons]
      rcases hr with ⟨z, a, b, c⟩ | ⟨a, b⟩
      · exact .inl ⟨z, a, b, .inr c⟩
      · exact .inr ⟨a, fun h => h.elim hz b⟩

theorem contains9_eq (k : Nat) (l : List Int) (v : Int) (hk : l.length + 1 ≤ k) (hl : (l.length : Int) ≤ 1099511627776) : slices_Contains k l v = some (decide (v ∈ l)) := by
  unfold slices_Contains slices_Index
  obtain ⟨r, e, hr⟩ := index9_eq l v hl l.length k 0 (by omega) (by omega)
  rw [show ((0 : Nat) : Int) = 0 from rfl] at e
  rw [e]
  rw [List.drop_zero] at hr
  rcases hr with ⟨z, rfl, h0, h1⟩ | ⟨rfl, h1⟩
  · simp [h0, h1]
  · simp [h1]

open Classical in
theorem isPosition_eq (l : List Int) (n : Int) (hs : sh n l) (k : Nat) (hk : 200 ≤ k) : impl_position_isPosition k ⟨n, l⟩ = some (decide (isPos n l)) := by
  have h10 : l.length ≤ 10 := by rw [hs.2.1]; exact tri5 n hs.1
  have hm := mov_range l h10
  have hmov : impl_position_mover k ⟨n, l⟩ = some (mov l) := by
    unfold impl_position_mover
    rw [many_eq k n 0 l (by omega) (by omega), many_eq k n 1 l (by omega) (by omega)]
    simp only [Option.bind_some]
    rw [show w64 ((l.count 0 : Int) - (l.count 1 : Int)) = mov l from w64_id (by unfold mov at hm; omega)]
  obtain ⟨R1, e1, t1, b1⟩ := triangles_eq l (mov l) n hs k (by omega)
  obtain ⟨R2, e2, t2, b2⟩ := triangles_eq l (1 - mov l) n hs k (by omega)
  have a1 : R1 = [] ↔ ¬ anyT n l (mov l) := by
    unfold anyT
    constructor
    · rintro rfl ⟨i, j, m, a, b⟩
      exact List.not_mem_nil ((t1 (tri3 i j m)).2 ⟨i, j, m, a, b, rfl⟩)
    · intro h
      refine List.eq_nil_iff_forall_not_mem.2 fun t ht => ?_
      obtain ⟨i, j, m, a, b, _⟩ := (t1 t).1 ht
      exact h ⟨i, j, m, a, b⟩
  have a2 : R2 = [] ↔ ¬ anyT n l (1 - mov l) := by
    unfold anyT
    constructor
    · rintro rfl ⟨i, j, m, a, b⟩
      exact List.not_mem_nil ((t2 (tri3 i j m)).2 ⟨i, j, m, a, b, rfl⟩)
    · intro h
      refine List.eq_nil_iff_forall_not_mem.2 fun t ht => ?_
      obtain ⟨i, j, m, a, b, _⟩ := (t2 t).1 ht
      exact h ⟨i, j, m, a, b⟩
  have a3 : (∃ e : Nat, e < l.length ∧ ∀ t ∈ R2, (e : Int) ∈ t) ↔ comT n l (1 - mov l) := by
    unfold comT
    constructor
    · rintro ⟨e, h1, h2⟩
      exact ⟨e, h1, fun i j m a b => h2 _ ((t2 _).2 ⟨i, j, m, a, b, rfl⟩)⟩
    · rintro ⟨e, h1, h2⟩
      refine ⟨e, h1, fun t ht => ?_⟩
      obtain ⟨i, j, m, a, b, rfl⟩ := (t2 t).1 ht
      exact h2 i j m a b
  have hl0 : impl_position_isPosition_l0 k ⟨n, l⟩ R2 k 0 = some (if ∀ j : Int, 0 ≤ j → j < l.length → ¬ ∀ t ∈ R2, j ∈ t then .inl () else .inr true) := by
    refine loopAll (f := fun k' i => impl_position_isPosition_l0 k ⟨n, l⟩ R2 k' i) (l.length : Int) true (fun i => ¬ ∀ t ∈ R2, i ∈ t) 0 ?_ ?_ ?_ k 0 (by omega) (by omega)
    all_goals intro k' i h0
    · intro h1 hq
      show impl_position_isPosition_l0 k ⟨n, l⟩ R2 (k' + 1) i = _
      have hcon := containsR_eq k R2 (fun a0 => impl_position_isPosition_c1 k a0 i) (fun t => !decide (i ∈ t)) (fun t ht => by
        obtain ⟨a, b, c, _, _, rfl⟩ := (t2 t).1 ht
        unfold impl_position_isPosition_c1
        rw [contains9_eq k _ i (by simp [tri3]; omega) (by simp [tri3])]; rfl) (by omega) (by omega)
      have hany : R2.any (fun t => !decide (i ∈ t)) = true := by
        rw [List.any_eq_true]
        apply Classical.byContradiction
        intro hno
        apply hq
        intro t ht
        apply Classical.byContradiction
        intro hc
        exact hno ⟨t, ht, by rw [decide_eq_false hc]; rfl⟩
      rw [impl_position_isPosition_l0, hcon, hany, w64_succ h0 h1 (by omega)]
      unfold impl_size
      simp [h1]
    · intro h1 hq
      show impl_position_isPosition_l0 k ⟨n, l⟩ R2 (k' + 1) i = _
      have hq := Classical.not_not.1 hq
      have hcon := containsR_eq k R2 (fun a0 => impl_position_isPosition_c1 k a0 i) (fun t => !decide (i ∈ t)) (fun t ht => by
        obtain ⟨a, b, c, _, _, rfl⟩ := (t2 t).1 ht
        unfold impl_position_isPosition_c1
        rw [contains9_eq k _ i (by simp [tri3]; omega) (by simp [tri3])]; rfl) (by omega) (by omega)
      have hany : R2.any (fun t => !decide (i ∈ t)) = false := by
        rw [List.any_eq_false]
        intro t ht
        rw [decide_eq_true (hq t ht)]; simp
      rw [impl_position_isPosition_l0, hcon, hany]
      unfold impl_size
      simp [h1]
    · show impl_position_isPosition_l0 k ⟨n, l⟩ R2 (k' + 1) i = _
      rw [impl_position_isPosition_l0]
      unfold impl_size
      have : ¬ i < (l.length : Int) := by omega
      simp [this]
  unfold impl_position_isPosition
  rw [hmov]
  simp only [Option.bind_some]
  rw [in_eq, e1]
  by_cases hr : 0 ≤ mov l ∧ mov l ≤ 1
  · rw [decide_eq_true hr]
    simp only [Bool.not_true, Bool.false_eq_true, if_false, Option.bind_some]
    by_cases hA : R1 = []
    · have hlen : decide (0 < (R1.length : Int)) = false := by rw [hA]; rfl
      rw [hlen]
      simp only [Bool.false_eq_true, if_false, Option.bind_some]
      rw [show w64 (1 - mov l) = 1 - mov l from w64_id (by omega), e2]
      simp only [Option.bind_some]
      rw [hl0]
      by_cases hall : ∀ j : Int, 0 ≤ j → j < l.length → ¬ ∀ t ∈ R2, j ∈ t
      · rw [if_pos hall]
        have hno : ¬ comT n l (1 - mov l) := by
          rw [← a3]
          rintro ⟨e, h1, h2⟩
          exact hall e (by omega) (by omega) h2
        simp only [Option.bind_some]
        congr 1
        rw [decide_eq_decide]
        unfold isPos
        rw [← a1, ← a2]
        constructor
        · intro h
          have : R2 = [] := List.eq_nil_of_length_eq_zero (by omega)
          exact ⟨hr, hA, .inl this⟩
        · rintro ⟨_, _, h | h⟩
          · rw [h]; rfl
          · exact absurd h hno
      · rw [if_neg hall]
        simp only [Option.bind_some]
        have hcom : comT n l (1 - mov l) := by
          rw [← a3]
          apply Classical.byContradiction
          intro hc
          apply hall
          intro j h0 h1 h2
          exact hc ⟨j.toNat, by omega, fun t ht => by
            have := h2 t ht
            rwa [show ((j.toNat : Nat) : Int) = j by omega]⟩
        rw [decide_eq_true (show isPos n l from ⟨hr, a1.1 hA, .inr hcom⟩)]
    · have hlen : decide (0 < (R1.length : Int)) = true := decide_eq_true (by
        have := List.length_pos_iff.2 hA; omega)
      rw [hlen, decide_eq_false (fun h : isPos n l => hA (a1.2 h.2.1))]
      rfl
  · rw [decide_eq_false hr, decide_eq_false (fun h : isPos n l => hr h.1)]
    rfl

/-! ### Points renumbered -/
def pt (p : List Int) (i : Nat) : Nat := (p.getD i 0).toNat
/-- What a renumbered list is. -/
def Ren (n : Nat) (l p r : List Int) : Prop := r.length = l.length ∧ ∀ i j, i < j → j < n → r.getD (eN (pt p i) (pt p j)) 0 = l.getD (eN i j) 0

theorem ord_onto {p : List Int} {n : Nat} (h : isOrd p n) {v : Nat} (hv : v < n) : ∃ i, i < n ∧ pt p i = v := by
  have hl : p.length = n := by have := h.1; omega
  have := (order_iff p).2 ⟨fun a ha => by rw [hl]; exact h.2.1 a ha, h.2.2⟩ v (by omega)
  have hmem : (v : Int) ∈ sorted p := mem_getD.2 ⟨v, by rw [sorted_length]; omega, this⟩
  obtain ⟨i, hi, e⟩ := mem_getD.1 ((sorted_mem p v).1 hmem)
  exact ⟨i, by omega, by unfold pt; rw [e]; omega⟩

theorem Ren.uniq {n : Nat} {l p r s : List Int} (hn : n ≤ 5) (hl : l.length = tri n) (h : isOrd p n) (hr : Ren n l p r) (hs : Ren n l p s) : r = s := by
  refine List.ext_getElem (by rw [hr.1, hs.1]) fun e h1 h2 => ?_
  obtain ⟨b, hb, a, ha, rfl⟩ := eN_surj (n := n) (e := e) (by omega) (by rw [← hl, ← hr.1]; exact h1)
  obtain ⟨i, hi, rfl⟩ := ord_onto h (v := a) (by omega)
  obtain ⟨j, hj, rfl⟩ := ord_onto h hb
  have key : r.getD (eN (pt p i) (pt p j)) 0 = s.getD (eN (pt p i) (pt p j)) 0 := by
    rcases Nat.lt_trichotomy i j with hij | hij | hij
    · rw [hr.2 i j hij hj, hs.2 i j hij hj]
    · subst hij; omega
    · rw [eN_comm, hr.2 j i hij hi, hs.2 j i hij hi]
  simpa [List.getD, h1, h2] using key

def RInv (l p : List Int) (j i : Nat) (s : List Int) : Prop := s.length = l.length ∧ ∀ i' j', i' < j' → (j' < j ∨ (j' = j ∧ i' < i)) → s.getD (eN (pt p i') (pt p j')) 0 = l.getD (eN i' j') 0

theorem eN_inj' {a b c d : Nat} (hab : a ≠ b) (hcd : c ≠ d) (ha : a < 17) (hb : b < 17) (hc : c < 17) (hd : d < 17) (e : eN a b = eN c d) : (a = c ∧ b = d) ∨ (a = d ∧ b = c) := by
  rcases Nat.lt_or_gt_of_ne hab with h1 | h1 <;> rcases Nat.lt_or_gt_of_ne hcd with h2 | h2
  · exact .inl (eN_inj h1 hb h2 hd e)
  · rw [eN_comm c d] at e
    exact .inr (eN_inj h1 hb h2 hc e)
  · rw [eN_comm a b] at e
    have := eN_inj h1 ha h2 hd e
    exact .inr ⟨this.2, this.1⟩
  · rw [eN_comm a b, eN_comm c d] at e
    have := eN_inj h1 ha h2 hc e
    exact .inl ⟨this.2, this.1⟩

theorem pt_ne {p : List Int} {n : Nat} (h : isOrd p n) {i j : Nat} (hi : i < n) (hj : j < n) (hij : i ≠ j) : pt p i ≠ pt p j := by
  have hl : p.length = n := by have := h.1; omega
  have h1 := h.2.1 i (by omega)
  have h2 := h.2.1 j (by omega)
  unfold pt
  rcases Nat.lt_or_gt_of_ne hij with h' | h'
  · have := h.2.2 i j h' (by omega); omega
  · have := h.2.2 j i h' (by omega); omega

theorem pt_lt {p : List Int} {n : Nat} (h : isOrd p n) {i : Nat} (hi : i < n) : pt p i < n ∧ p.getD i 0 = pt p i := by
  have hl : p.length = n := by have := h.1; omega
  have h1 := h.2.1 i (by omega)
  unfold pt; omega

theorem RInv.step {l p s : List Int} {n j i : Nat} (hn : n ≤ 5) (hl : l.length = tri n) (h : isOrd p n) (hi : i < j) (hj : j < n) (hs : RInv l p j i s) : RInv l p j (i + 1) (s.set (eN (pt p i) (pt p j)) (l.getD (eN i j) 0)) := by
  refine ⟨by rw [List.length_set, hs.1], fun i' j' h1 h2 => ?_⟩
  have pi := (pt_lt h (i := i) (by omega)).1
  have pj := (pt_lt h hj).1
  have he : eN (pt p i) (pt p j) < s.length := by
    rw [hs.1, hl]
    have hne := pt_ne h (show i < n by omega) hj (by omega)
    rcases Nat.lt_or_gt_of_ne hne with a | a
    · exact eN_lt a pj (by omega)
    · rw [eN_comm]; exact eN_lt a pi (by omega)
  by_cases e : i' = i ∧ j' = j
  · obtain ⟨rfl, rfl⟩ := e
    rw [List.getD_eq_getElem?_getD, List.getElem?_set_self he]; rfl
  · have hlt : j' < n := by omega
    have hne : eN (pt p i) (pt p j) ≠ eN (pt p i') (pt p j') := fun ee => by
      have pi' := (pt_lt h (i := i') (by omega)).1
      have pj' := (pt_lt h hlt).1
      rcases eN_inj' (pt_ne h (show i < n by omega) hj (by omega)) (pt_ne h (show i' < n by omega) hlt (by omega)) (by omega) (by omega) (by omega) (by omega) ee with ⟨a, b⟩ | ⟨a, b⟩
      · have x1 : i = i' := Classical.byContradiction fun hc => pt_ne h (by omega) (by omega) hc a
        have x2 : j = j' := Classical.byContradiction fun hc => pt_ne h (by omega) (by omega) hc b
        omega
      · have x1 : i = j' := Classical.byContradiction fun hc => pt_ne h (by omega) (by omega) hc a
        have x2 : j = i' := Classical.byContradiction fun hc => pt_ne h (by omega) (by omega) hc b
        omega
    rw [List.getD_eq_getElem?_getD, List.getElem?_set_ne hne, ← List.getD_eq_getElem?_getD]
    exact hs.2 i' j' h1 (by omega)

theorem RInv.row {l p s : List Int} {j : Nat} (hs : RInv l p j j s) : RInv l p (j + 1) 0 s := ⟨hs.1, fun i' j' h1 h2 => hs.2 i' j' h1 (by omega)⟩

theorem specRen9_l1 (l p : List Int) (n : Nat) (hn : n ≤ 5) (hl : l.length = tri n) (h : isOrd p n) (j : Nat) (hj : j < n) (k : Nat) (hk : 10 ≤ k) (s : List Int) (hs : RInv l p j 0 s) : ∃ r, spec_l09Renumbered_l1 l p j k 0 s = some r ∧ RInv l p (j + 1) 0 r := by
  have hpl : p.length = n := by have := h.1; omega
  have := loopI (f := fun k' t (s : List Int) => spec_l09Renumbered_l1 l p j k' t s) (j : Int) 0 (fun t s => t ≤ j ∧ RInv l p j t.toNat s) (fun r => RInv l p (j + 1) 0 r) ?_ ?_ k 0 s (by omega) (by omega) ⟨by omega, hs⟩
  · exact this
  · rintro k' t s h0 h1 ⟨_, q⟩
    left
    obtain ⟨i, rfl⟩ := nat_of h0
    have hi : i < j := by omega
    rw [Int.toNat_natCast] at q
    have pi := pt_lt h (i := i) (by omega)
    have pj := pt_lt h hj
    have hne := pt_ne h (show i < n by omega) hj (by omega)
    have e1 : spec_l01Edge (i : Int) (j : Int) = (eN i j : Int) := by rw [edge_eq _ _ (by omega) (by omega)]; simp
    have e2 : spec_l01Edge (pt p i : Int) (pt p j : Int) = (eN (pt p i) (pt p j) : Int) := by rw [edge_eq _ _ (by omega) (by omega)]; simp
    have l1 : eN i j < l.length := by rw [hl]; exact eN_lt hi hj (by omega)
    have l2 : eN (pt p i) (pt p j) < s.length := by
      rw [q.1, hl]
      rcases Nat.lt_or_gt_of_ne hne with a | a
      · exact eN_lt a pj.1 (by omega)
      · rw [eN_comm]; exact eN_lt a pi.1 (by omega)
    refine ⟨s.set (eN (pt p i) (pt p j)) (l.getD (eN i j) 0), ?_, by omega, ?_⟩
    · show spec_l09Renumbered_l1 l p j (k' + 1) i s = _
      rw [spec_l09Renumbered_l1, w64_succ h0 h1 (by omega), if_pos (decide_eq_true h1), if_pos ⟨by omega, by omega⟩, if_pos ⟨by omega, by omega⟩, Int.toNat_natCast, Int.toNat_natCast, e1, if_pos ⟨by omega, by omega⟩, pi.2, pj.2, e2, if_pos ⟨by omega, by omega⟩, Int.toNat_natCast, Int.toNat_natCast]
    · rw [show ((i : Int) + 1).toNat = i + 1 by omega]
      exact q.step hn hl h hi hj
  · rintro k' t s h0 h1 ⟨q0, q⟩
    have : t = j := by omega
    subst this
    rw [Int.toNat_natCast] at q
    refine ⟨s, ?_, q.row⟩
    show spec_l09Renumbered_l1 l p j (k' + 1) j s = _
    rw [spec_l09Renumbered_l1]; simp

theorem implRen9_l1 (l p : List Int) (n : Nat) (hn : n ≤ 5) (hl : l.length = tri n) (h : isOrd p n) (j : Nat) (hj : j < n) (k : Nat) (hk : 10 ≤ k) (N : Int) (s : List Int) (hs : RInv l p j 0 s) : ∃ r, impl_position_renumbered_l1 ⟨N, l⟩ p j k 0 s = some r ∧ RInv l p (j + 1) 0 r := by
  have hpl : p.length = n := by have := h.1; omega
  have := loopI (f := fun k' t (s : List Int) => impl_position_renumbered_l1 ⟨N, l⟩ p j k' t s) (j : Int) 0 (fun t s => t ≤ j ∧ RInv l p j t.toNat s) (fun r => RInv l p (j + 1) 0 r) ?_ ?_ k 0 s (by omega) (by omega) ⟨by omega, hs⟩
  · exact this
  · rintro k' t s h0 h1 ⟨_, q⟩
    left
    obtain ⟨i, rfl⟩ := nat_of h0
    have hi : i < j := by omega
    rw [Int.toNat_natCast] at q
    have pi := pt_lt h (i := i) (by omega)
    have pj := pt_lt h hj
    have hne := pt_ne h (show i < n by omega) hj (by omega)
    have e1 : impl_number (i : Int) (j : Int) = (eN i j : Int) := by rw [number_eq _ _ (by omega) (by omega)]; simp
    have e2 : impl_number (pt p i : Int) (pt p j : Int) = (eN (pt p i) (pt p j) : Int) := by rw [number_eq _ _ (by omega) (by omega)]; simp
    have l1 : eN i j < l.length := by rw [hl]; exact eN_lt hi hj (by omega)
    have l2 : eN (pt p i) (pt p j) < s.length := by
      rw [q.1, hl]
      rcases Nat.lt_or_gt_of_ne hne with a | a
      · exact eN_lt a pj.1 (by omega)
      · rw [eN_comm]; exact eN_lt a pi.1 (by omega)
    refine ⟨s.set (eN (pt p i) (pt p j)) (l.getD (eN i j) 0), ?_, by omega, ?_⟩
    · show impl_position_renumbered_l1 ⟨N, l⟩ p j (k' + 1) i s = _
      rw [impl_position_renumbered_l1, w64_succ h0 h1 (by omega), if_pos (decide_eq_true h1), if_pos ⟨by omega, by omega⟩, if_pos ⟨by omega, by omega⟩, Int.toNat_natCast, Int.toNat_natCast, e1, if_pos (show 0 ≤ (eN i j : Int) ∧ (eN i j : Int) < (l.length : Int) by omega), pi.2, pj.2, e2, if_pos ⟨by omega, by omega⟩, Int.toNat_natCast, Int.toNat_natCast]
    · rw [show ((i : Int) + 1).toNat = i + 1 by omega]
      exact q.step hn hl h hi hj
  · rintro k' t s h0 h1 ⟨q0, q⟩
    have : t = j := by omega
    subst this
    rw [Int.toNat_natCast] at q
    refine ⟨s, ?_, q.row⟩
    show impl_position_renumbered_l1 ⟨N, l⟩ p j (k' + 1) j s = _
    rw [impl_position_renumbered_l1]; simp

theorem specRen9_eq (l p : List Int) (n : Int) (hs : sh n l) (h : isOrd p n) (k : Nat) (hk : 20 ≤ k) : ∃ r, spec_l09Renumbered k n l p = some r ∧ Ren n.toNat l p r := by
  have hn := hs.1
  obtain ⟨n, rfl⟩ := nat_of (show 0 ≤ n by omega)
  have hl := hs.2.1
  rw [Int.toNat_natCast] at hl ⊢
  have h10 : l.length ≤ 10 := by
    rw [hl]
    have : ∀ n : Nat, n ≤ 5 → tri n ≤ 10 := by decide +kernel
    exact this n (by omega)
  unfold spec_l09Renumbered spec_l01Own
  rw [if_pos (by simp; omega)]
  simp only [Option.bind_some, List.nil_append]
  have := loopI (f := fun k' t (s : List Int) => spec_l09Renumbered_l0 k n l p k' t s) (n : Int) 1 (fun t s => t ≤ n ∧ RInv l p t.toNat 0 s) (fun r => RInv l p n 0 r) ?_ ?_ k 1 l (by omega) (by omega) ⟨by omega, rfl, fun i' j' h1 h2 => by
    have : (1 : Int).toNat = 1 := rfl
    omega⟩
  · obtain ⟨r, e, hr⟩ := this
    rw [e]
    exact ⟨r, rfl, hr.1, fun i j a b => hr.2 i j a (by omega)⟩
  · rintro k' t s h0 h1 ⟨_, q⟩
    left
    obtain ⟨j, rfl⟩ := nat_of (show 0 ≤ t by omega)
    rw [Int.toNat_natCast] at q
    obtain ⟨r, e, hr⟩ := specRen9_l1 l p n (by omega) hl h j (by omega) k (by omega) s q
    refine ⟨r, ?_, by omega, by rw [show ((j : Int) + 1).toNat = j + 1 by omega]; exact hr⟩
    show spec_l09Renumbered_l0 k n l p (k' + 1) j s = _
    rw [spec_l09Renumbered_l0, w64_succ (by omega) h1 (by omega), if_pos (decide_eq_true h1), e]
    rfl
  · rintro k' t s h0 h1 ⟨q0, q⟩
    have : t = n := by omega
    subst this
    rw [Int.toNat_natCast] at q
    refine ⟨s, ?_, q⟩
    show spec_l09Renumbered_l0 k n l p (k' + 1) n s = _
    rw [spec_l09Renumbered_l0]; simp

theorem implRen9_eq (l p : List Int) (n : Int) (hs : sh n l) (h : isOrd p n) (k : Nat) (hk : 20 ≤ k) : ∃ r, impl_position_renumbered k ⟨n, l⟩ p = some r ∧ Ren n.toNat l p r := by
  have hn := hs.1
  obtain ⟨n, rfl⟩ := nat_of (show 0 ≤ n by omega)
  have hl := hs.2.1
  rw [Int.toNat_natCast] at hl ⊢
  have h10 : l.length ≤ 10 := by
    rw [hl]
    have : ∀ n : Nat, n ≤ 5 → tri n ≤ 10 := by decide +kernel
    exact this n (by omega)
  unfold impl_position_renumbered
  rw [if_pos (show 0 ≤ (l.length : Int) ∧ (l.length : Int) ≤ (l.length : Int) ∧ (l.length : Int) ≤ 1099511627776 by omega)]
  have := loopI (f := fun k' t (s : List Int) => impl_position_renumbered_l0 k ⟨n, l⟩ p k' t s) (n : Int) 0 (fun t s => t ≤ n ∧ RInv l p t.toNat 0 s) (fun r => RInv l p n 0 r) ?_ ?_ k 0 (List.replicate l.length 0) (by omega) (by omega) ⟨by omega, by simp, fun i' j' h1 h2 => by
    have : (0 : Int).toNat = 0 := rfl
    omega⟩
  · obtain ⟨r, e, hr⟩ := this
    rw [Int.toNat_natCast]
    rw [show (impl_position_renumbered_l0 k (⟨(n : Int), l⟩ : Pos) p k 0 (List.replicate (Pos.mk (n : Int) l).l.length 0)) = some r from e]
    exact ⟨r, rfl, hr.1, fun i j a b => hr.2 i j a (by omega)⟩
  · rintro k' t s h0 h1 ⟨_, q⟩
    left
    obtain ⟨j, rfl⟩ := nat_of (show 0 ≤ t by omega)
    rw [Int.toNat_natCast] at q
    obtain ⟨r, e, hr⟩ := implRen9_l1 l p n (by omega) hl h j (by omega) k (by omega) n s q
    refine ⟨r, ?_, by omega, by rw [show ((j : Int) + 1).toNat = j + 1 by omega]; exact hr⟩
    show impl_position_renumbered_l0 k ⟨n, l⟩ p (k' + 1) j s = _
    rw [impl_position_renumbered_l0, w64_succ (by omega) h1 (by omega), if_pos (decide_eq_true h1), e]
    rfl
  · rintro k' t s h0 h1 ⟨q0, q⟩
    have : t = n := by omega
    subst this
    rw [Int.toNat_natCast] at q
    refine ⟨s, ?_, q⟩
    show impl_position_renumbered_l0 k ⟨n, l⟩ p (k' + 1) n s = _
    rw [impl_position_renumbered_l0]; simp

/-- Both answers are one. -/
theorem renumber_same (n : Int) (l p : List Int) (k : Nat) (hk : l.length + p.length + 200 ≤ k) (hl : (l.length : Int) ≤ 1099511627776) (hp : (p.length : Int) ≤ 1099511627776) :
    ∃ (o : Option (List Int)) (e : Int), spec_RenumberPosition k n l p = some (o.getD [], e) ∧ impl_RenumberPosition k n l p = some (o, e) ∧ (o.getD []).length ≤ l.length := by
  classical
  unfold spec_RenumberPosition impl_RenumberPosition impl_position_code impl_RenumberPosition_c1
  rw [lists_eq k n l (by omega) hl, shape_eq k n l (by omega) hl, implOrder_eq k p n (by omega) hp]
  by_cases hs : sh n l
  · rw [if_pos hs, decide_eq_true hs, specOrder_eq k p n (by omega) hp (by have := hs.1; omega)]
    by_cases ho : isOrd p n
    · rw [decide_eq_true ho, isPosition_eq l n hs k (by omega)]
      unfold spec_l09Code
      rw [lists_eq k n l (by omega) hl, if_pos hs, specIs9_eq l n hs k (by omega)]
      by_cases hi : isPos n l
      · rw [decide_eq_true hi]
        obtain ⟨r, e1, r1⟩ := specRen9_eq l p n hs ho k (by omega)
        obtain ⟨r', e2, r2⟩ := implRen9_eq l p n hs ho k (by omega)
        have : r = r' := r1.uniq (by have := hs.1; omega) hs.2.1 (by rw [show ((n.toNat : Nat) : Int) = n by have := hs.1; omega]; exact ho) r2
        subst this
        refine ⟨some r, 0, ?_, ?_, by simp [r1.1]⟩
        · simp [e1]
        · simp [e2]
      · rw [decide_eq_false hi]
        exact ⟨none, 1, by simp, by simp, by simp⟩
    · rw [decide_eq_false ho]
      exact ⟨none, 2, by simp, by simp, by simp⟩
  · rw [if_neg hs, decide_eq_false hs]
    exact ⟨none, 2, by simp, by simp, by simp⟩

/-- The sign of an edge. -/
def sgn (z : Int) : UInt8 := if z = -1 then 46 else if z = 0 then 48 else 49

theorem tx_size (a : List UInt8) : (⟨a.toArray⟩ : ByteArray).size = a.length := by simp [ByteArray.size]

theorem key_eq (k : Nat) (n : Int) (l : List Int) (hl : l.length ≤ 10) (hr : ∀ a : Nat, a < l.length → -1 ≤ l.getD a 0 ∧ l.getD a 0 ≤ 1) (hk : 20 ≤ k) : impl_position_key k ⟨n, l⟩ = some ⟨(l.map sgn).toArray⟩ := by
  unfold impl_position_key
  have := loopI (f := fun k' t (s : List UInt8) => impl_position_key_l0 ⟨n, l⟩ k' t s) (l.length : Int) 0 (fun t s => t ≤ l.length ∧ s = (l.take t.toNat).map sgn) (fun r => r = l.map sgn) ?_ ?_ k 0 [] (by omega) (by omega) ⟨by omega, by simp⟩
  · obtain ⟨r, e, rfl⟩ := this
    rw [e]; rfl
  · rintro k' t s h0 h1 ⟨_, q⟩
    left
    obtain ⟨m, rfl⟩ := nat_of h0
    have hm : m < l.length := by omega
    rw [Int.toNat_natCast] at q
    have htk : l.take (m + 1) = l.take m ++ [l.getD m 0] := by
      rw [List.take_succ_eq_append_getElem hm]; simp [List.getD, hm]
    have hz := hr m hm
    refine ⟨(l.take (m + 1)).map sgn, ?_, by omega, by rw [show ((m : Int) + 1).toNat = m + 1 by omega]⟩
    show impl_position_key_l0 ⟨n, l⟩ (k' + 1) m s = _
    have hsgn : ((⟨#[46, 48, 49]⟩ : ByteArray).data.toList.getD (w64 ((l.getD m 0) + 1)).toNat 0) = sgn (l.getD m 0) := by
      rw [w64_id (by omega)]
      generalize l.getD m 0 = z at hz
      have : z = -1 ∨ z = 0 ∨ z = 1 := by omega
      rcases this with rfl | rfl | rfl <;> rfl
    have hs : s.length ≤ 10 := by rw [q, List.length_map, List.length_take]; omega
    rw [impl_position_key_l0, w64_succ h0 h1 (by omega), if_pos (decide_eq_true h1), if_pos ⟨h0, h1⟩, Int.toNat_natCast, if_pos ?_, hsgn, if_pos ?_]
    · rw [htk, List.map_append, List.map_singleton, ← q]
    · simp; omega
    · show 0 ≤ w64 (l.getD m 0 + 1) ∧ w64 (l.getD m 0 + 1) < 3
      rw [w64_id (by omega)]; omega
  · rintro k' t s h0 h1 ⟨q0, q⟩
    have : t = l.length := by omega
    subst this
    rw [Int.toNat_natCast, List.take_length] at q
    refine ⟨s, ?_, q⟩
    show impl_position_key_l0 ⟨n, l⟩ (k' + 1) l.length s = _
    rw [impl_position_key_l0]; simp

/-! ### Lists of places -/
def fl (g : Nat → Bool) (m : Nat) : List Int := ((List.range m).filter g).map fun a : Nat => (a : Int)
theorem fl_succ (g : Nat → Bool) (m : Nat) : fl g (m + 1) = if g m then fl g m ++ [(m : Int)] else fl g m := by
  unfold fl
  rw [List.range_succ, List.filter_append, List.map_append]
  cases h : g m <;> simp [h]
theorem fl_length (g : Nat → Bool) (m : Nat) : (fl g m).length ≤ m := by
  unfold fl
  rw [List.length_map]
  exact Nat.le_trans (List.length_filter_le _ _) (by simp)
theorem fl_mem (g : Nat → Bool) (m : Nat) (x : Int) : x ∈ fl g m ↔ ∃ a, a < m ∧ g a = true ∧ x = (a : Int) := by
  unfold fl
  simp only [List.mem_map, List.mem_filter, List.mem_range]
  exact ⟨fun ⟨a, ⟨h1, h2⟩, h3⟩ => ⟨a, h1, h2, h3.symm⟩, fun ⟨a, h1, h2, h3⟩ => ⟨a, ⟨h1, h2⟩, h3.symm⟩⟩
theorem fl_congr (g h : Nat → Bool) (m : Nat) (e : ∀ a, a < m → g a = h a) : fl g m = fl h m := by
  unfold fl
  congr 1
  exact List.filter_congr fun a ha => e a (List.mem_range.1 ha)
theorem fl_filter (g : Nat → Bool) (G : Int → Bool) (m : Nat) : (fl g m).filter G = fl (fun a => g a && G a) m := by
  unfold fl
  rw [List.filter_map, List.filter_filter]
  congr 1
  exact List.filter_congr fun a _ => by simp [Function.comp, Bool.and_comm]

def fre (l : List Int) (a : Nat) : Bool := decide (l.getD a 0 < 0)

theorem free_val (l : List Int) (k : Nat) (hk : l.length + 1 ≤ k) (hl : l.length ≤ 1000) : spec_l09Free k l = some (fl (fre l) l.length) := by
  unfold spec_l09Free
  have := loopI (f := fun k' i (s : List Int) => spec_l09Free_l0 l k' i s) (l.length : Int) 0 (fun i s => i ≤ l.length ∧ s = fl (fre l) i.toNat) (fun s => s = fl (fre l) l.length) ?_ ?_ k 0 [] (by omega) (by omega) ⟨by omega, rfl⟩
  · obtain ⟨s, e, rfl⟩ := this
    rw [e]; rfl
  · rintro k' i s h0 h1 ⟨q1, rfl⟩
    left
    refine ⟨fl (fre l) (i + 1).toNat, ?_, by omega, rfl⟩
    show spec_l09Free_l0 l (k' + 1) i _ = _
    rw [spec_l09Free_l0, w64_succ h0 h1 (by omega)]
    rw [if_pos (decide_eq_true h1), if_pos ⟨h0, h1⟩, show (i + 1).toNat = i.toNat + 1 by omega, fl_succ]
    have hlen := fl_length (fre l) i.toNat
    have hi : ((i.toNat : Nat) : Int) = i := by omega
    by_cases hb : l.getD i.toNat 0 < 0
    · rw [if_pos (decide_eq_true hb), if_pos (by simp; omega), if_pos (show fre l i.toNat = true from decide_eq_true hb), hi]; rfl
    · rw [if_neg (by simpa using hb), if_neg (show ¬ fre l i.toNat = true by unfold fre; simpa using hb)]; rfl
  · rintro k' i s h0 h1 ⟨q1, rfl⟩
    have hi : i = l.length := by omega
    subst hi
    refine ⟨_, ?_, rfl⟩
    show spec_l09Free_l0 l (k' + 1) _ _ = _
    rw [spec_l09Free_l0]; simp

/-! ### Movers and results -/
theorem sh10 {n : Int} {l : List Int} (hs : sh n l) : l.length ≤ 10 := by rw [hs.2.1]; exact tri5 n hs.1

theorem mover_val (n : Int) (l : List Int) (h : l.length ≤ 10) (k : Nat) (hk : 20 ≤ k) : impl_position_mover k ⟨n, l⟩ = some (mov l) ∧ spec_l09Mover k l = some (mov l) := by
  have hm := mov_range l h
  have e : w64 ((l.count 0 : Int) - (l.count 1 : Int)) = mov l := w64_id (by unfold mov at hm; omega)
  constructor
  · unfold impl_position_mover
    rw [many_eq k n 0 l (by omega) (by omega), many_eq k n 1 l (by omega) (by omega)]
    simp only [Option.bind_some, e]
  · unfold spec_l09Mover
    rw [counts_eq k l (by omega) (by omega)]
    simp only [Option.bind_some, e]

open Classical in
noncomputable def res (n : Int) (l : List Int) : Int := if anyT n l (1 - mov l) then mov l else if l.count (-1) = 0 then 2 else -1

theorem nil_iff {n : Int} {l : List Int} {who : Int} {R : List (List Int)} (t : TInv l who (prc n.toNat 0 0) R) : 0 < R.length ↔ anyT n l who := by
  rw [List.length_pos_iff]
  unfold anyT
  constructor
  · intro h
    obtain ⟨x, hx⟩ := List.exists_mem_of_ne_nil _ h
    obtain ⟨i, j, m, a, b, _⟩ := (t x).1 hx
    exact ⟨i, j, m, a, b⟩
  · rintro ⟨i, j, m, a, b⟩ rfl
    exact List.not_mem_nil ((t (tri3 i j m)).2 ⟨i, j, m, a, b, rfl⟩)
theorem zero_iff {n : Int} {l : List Int} {who : Int} {r : Int × Int} (c : CInv l who (prc n.toNat 0 0) r) : 0 < r.2 ↔ anyT n l who := by
  obtain ⟨_, h0, h1⟩ := c
  have : r.2 = 0 ↔ ¬ anyT n l who := by
    rw [h1]; unfold anyT
    exact ⟨fun h ⟨i, j, m, a, b⟩ => h i j m a b, fun h i j m a b => h ⟨i, j, m, a, b⟩⟩
  constructor
  · intro h; apply Classical.byContradiction; intro h2; have := this.2 h2; omega
  · intro h; apply Classical.byContradiction; intro h2; exact this.1 (by omega) h

theorem count_free {n : Int} {l : List Int} (hs : sh n l) : l.count (-1) = 0 ↔ fl (fre l) l.length = [] := by
  rw [List.count_eq_zero]
  constructor
  · intro h
    refine List.eq_nil_iff_forall_not_mem.2 fun x hx => ?_
    obtain ⟨a, h1, h2, _⟩ := (fl_mem _ _ _).1 hx
    have h3 : l.getD a 0 < 0 := of_decide_eq_true h2
    have h4 := hs.2.2 a h1
    exact h (mem_getD.2 ⟨a, h1, by omega⟩)
  · intro h hm
    obtain ⟨a, h1, h2⟩ := mem_getD.1 hm
    have : (a : Int) ∈ fl (fre l) l.length := (fl_mem _ _ _).2 ⟨a, h1, decide_eq_true (by omega), rfl⟩
    rw [h] at this
    exact List.not_mem_nil this

theorem result_val {n : Int} {l : List Int} (hs : sh n l) (k : Nat) (hk : 200 ≤ k) : impl_position_result k ⟨n, l⟩ = some (res n l) ∧ spec_l09Result k n l = some (res n l) := by
  have h10 := sh10 hs
  have hm := mov_range l h10
  obtain ⟨e1, e2⟩ := mover_val n l h10 k (by omega)
  have ew : w64 (1 - mov l) = 1 - mov l := w64_id (by omega)
  constructor
  · obtain ⟨R, e3, t, b⟩ := triangles_eq l (1 - mov l) n hs k (by omega)
    unfold impl_position_result
    rw [e1, Option.bind_some, ew, e3, Option.bind_some]
    have := nil_iff t
    unfold res
    by_cases h : anyT n l (1 - mov l)
    · rw [if_pos (decide_eq_true (by have := this.2 h; omega)), if_pos h]; rfl
    · rw [if_neg (by simp only [decide_eq_true_eq]; intro h2; exact h (this.1 (by omega))), if_neg h, many_eq k n (-1) l (by omega) (by omega), Option.bind_some]
      by_cases hc : l.count (-1) = 0
      · rw [if_pos (decide_eq_true (by omega)), if_pos hc]
      · rw [if_neg (by simp only [decide_eq_true_eq]; omega), if_neg hc]
  · obtain ⟨r, e3, c⟩ := common_eq l (1 - mov l) n hs k (by omega)
    unfold spec_l09Result
    rw [e2, Option.bind_some, ew, e3, Option.bind_some]
    have := zero_iff c
    unfold res
    by_cases h : anyT n l (1 - mov l)
    · rw [if_pos (decide_eq_true (this.2 h)), if_pos h]
    · rw [if_neg (by simp only [decide_eq_true_eq]; intro h2; exact h (this.1 h2)), if_neg h, free_val l k (by omega) (by omega), Option.bind_some]
      by_cases hc : l.count (-1) = 0
      · rw [if_pos (decide_eq_true (by rw [(count_free hs).1 hc]; rfl)), if_pos hc]
      · rw [if_neg (by simp only [decide_eq_true_eq]; intro h2; exact hc ((count_free hs).2 (List.eq_nil_of_length_eq_zero (by omega)))), if_neg hc]

/-! ### Codes -/
open Classical in
noncomputable def cod (n : Int) (l : List Int) : Int := if sh n l then (if isPos n l then 0 else 1) else 2

theorem specCode_val (n : Int) (l : List Int) (k : Nat) (hk : 300 ≤ k) (hl : l.length ≤ 100) : spec_l09Code k n l = some (cod n l) := by
  unfold spec_l09Code cod
  rw [lists_eq k n _ (by omega) (by omega)]
  by_cases hs : sh n l
  · rw [specIs9_eq _ n hs k (by omega)]
    by_cases hi : isPos n l <;> simp [hs, hi]
  · simp [hs]
theorem implCode_val (n : Int) (l : List Int) (b : Bool) (k : Nat) (hk : 300 ≤ k) (hl : l.length ≤ 100) : impl_position_code k ⟨n, l⟩ (some b) = some (if b then cod n l else 2) := by
  unfold impl_position_code cod
  rw [shape_eq k n _ (by omega) (by omega)]
  by_cases hs : sh n l
  · rw [isPosition_eq _ n hs k (by omega)]
    by_cases hi : isPos n l <;> cases b <;> simp [hs, hi]
  · cases b <;> simp [hs]
/-! ### Moves -/
theorem moved_val (n : Int) (l : List Int) (a : Nat) (ha : a < l.length) (h : l.length ≤ 10) (k : Nat) (hk : 20 ≤ k) : impl_position_moved k ⟨n, l⟩ a = some ⟨n, l.set a (mov l)⟩ ∧ spec_l09Move k l a = some (l.set a (mov l)) := by
  obtain ⟨e1, e2⟩ := mover_val n l h k hk
  constructor
  · unfold impl_position_moved cloneA
    rw [e1, Option.bind_some, if_pos ⟨by omega, by show (a : Int) < (l.length : Int); omega⟩, if_pos (by show l.length ≤ _; omega)]
    rfl
  · unfold spec_l09Move spec_l01Own
    rw [if_pos (by simp; omega), Option.bind_some, e2, Option.bind_some, if_pos ⟨by omega, by simp; omega⟩]
    simp

theorem set_getD (l : List Int) (a b : Nat) (z : Int) (ha : a < l.length) : (l.set a z).getD b 0 = if b = a then z else l.getD b 0 := by
  simp only [List.getD, List.getElem?_set]
  by_cases h : b = a
  · subst h; simp [ha]
  · rw [if_neg (fun e => h e.symm), if_neg h]

theorem count_set (l : List Int) (a : Nat) (z y : Int) (ha : a < l.length) (hz : l.getD a 0 ≠ z) : (l.set a z).count y = if y = z then l.count y + 1 else if y = l.getD a 0 then l.count y - 1 else l.count y := by
  have e : l.getD a 0 = l[a] := by simp [ha]
  rw [e] at hz ⊢
  rw [List.count_set ha]
  by_cases h1 : y = z
  · subst h1
    rw [if_pos rfl]
    have : (l[a] == y) = false := by simpa using hz
    simp [this]
  · rw [if_neg h1]
    have h3 : (z == y) = false := by simpa using fun h => h1 h.symm
    by_cases h2 : y = l[a]
    · rw [if_pos h2]; simp [h3, h2.symm]
    · rw [if_neg h2]
      have : (l[a] == y) = false := by simpa using fun h => h2 h.symm
      simp [h3, this]

theorem sh_set {n : Int} {l : List Int} (hs : sh n l) (a : Nat) (z : Int) (ha : a < l.length) (hz : -1 ≤ z ∧ z ≤ 1) : sh n (l.set a z) := by
  refine ⟨hs.1, by rw [List.length_set]; exact hs.2.1, fun b hb => ?_⟩
  rw [List.length_set] at hb
  rw [set_getD l a b z ha]
  split
  · exact hz
  · exact hs.2.2 b hb

theorem mov_set {l : List Int} {a : Nat} (ha : a < l.length) (hf : l.getD a 0 = -1) (hm : 0 ≤ mov l ∧ mov l ≤ 1) : mov (l.set a (mov l)) = 1 - mov l := by
  have h0 := count_set l a (mov l) 0 ha (by omega)
  have h1 := count_set l a (mov l) 1 ha (by omega)
  rw [hf] at h0 h1
  rcases (show mov l = 0 ∨ mov l = 1 by omega) with h | h
  · rw [h] at h0 h1 ⊢
    unfold mov at h ⊢
    rw [h0, h1]
    simp
    omega
  · rw [h] at h0 h1 ⊢
    unfold mov at h ⊢
    rw [h0, h1]
    simp
    omega

/-- A triangle of the other player is one from before; one of the mover, without the new edge, too. -/
theorem hasT_set {l : List Int} {a : Nat} {z : Int} (ha : a < l.length) {who : Int} {i j m : Nat} (h : hasT (l.set a z) who i j m) : ((a : Int) ∈ tri3 i j m ∧ who = z) ∨ hasT l who i j m := by
  unfold hasT at h ⊢
  rw [set_getD l a _ z ha, set_getD l a _ z ha, set_getD l a _ z ha] at h
  unfold tri3
  by_cases h1 : eN i j = a
  · rw [if_pos h1] at h; exact .inl ⟨by simp [h1], h.1.symm⟩
  by_cases h2 : eN i m = a
  · rw [if_pos h2] at h; exact .inl ⟨by simp [h2], h.2.1.symm⟩
  by_cases h3 : eN j m = a
  · rw [if_pos h3] at h; exact .inl ⟨by simp [h3], h.2.2.symm⟩
  rw [if_neg h1, if_neg h2, if_neg h3] at h
  exact .inr h

theorem move_pos {n : Int} {l : List Int} (hs : sh n l) (hp : isPos n l) (hr : res n l < 0) {a : Nat} (ha : a < l.length) (hf : l.getD a 0 < 0) : sh n (l.set a (mov l)) ∧ isPos n (l.set a (mov l)) ∧ (res n (l.set a (mov l)) = 1 - mov l ↔ anyT n (l.set a (mov l)) (mov l)) := by
  obtain ⟨hm, hown, hoth⟩ := hp
  have hf1 : l.getD a 0 = -1 := by have := hs.2.2 a ha; omega
  have hno : ¬ anyT n l (1 - mov l) := fun h => by unfold res at hr; rw [if_pos h] at hr; omega
  have hmv := mov_set ha hf1 hm
  refine ⟨sh_set hs a _ ha (by omega), ?_, ?_⟩
  · unfold isPos
    rw [hmv]
    refine ⟨by omega, ?_, ?_⟩
    · rintro ⟨i, j, m, h1, h2⟩
      rcases hasT_set ha h2 with ⟨_, h⟩ | h
      · omega
      · exact hno ⟨i, j, m, h1, h⟩
    · right
      refine ⟨a, by rw [List.length_set]; exact ha, fun i j m h1 h2 => ?_⟩
      rw [show (1 : Int) - (1 - mov l) = mov l by omega] at h2
      rcases hasT_set ha h2 with ⟨h, _⟩ | h
      · exact h
      · exact absurd ⟨i, j, m, h1, h⟩ hown
  · unfold res
    rw [hmv, show (1 : Int) - (1 - mov l) = mov l by omega]
    by_cases h : anyT n (l.set a (mov l)) (mov l)
    · simp [h]
    · rw [if_neg h]
      constructor
      · intro h2; split at h2 <;> omega
      · intro h2; exact absurd h2 h

open Classical in
noncomputable def mvs (n : Int) (l : List Int) : List Int := if 0 ≤ res n l then [] else fl (fre l) l.length

theorem cod_zero {n : Int} {l : List Int} (h : cod n l = 0) : sh n l ∧ isPos n l := by
  unfold cod at h
  split at h
  · split at h
    · exact ⟨by assumption, by assumption⟩
    · omega
  · omega

theorem cod_pos {n : Int} {l : List Int} (h1 : sh n l) (h2 : isPos n l) : cod n l = 0 := by
  unfold cod; rw [if_pos h1, if_pos h2]

theorem isPos.range {n : Int} {l : List Int} (h : isPos n l) : 0 ≤ mov l ∧ mov l ≤ 1 := h.1

theorem specMoves_val {n : Int} {l : List Int} (hs : sh n l) (k : Nat) (hk : 300 ≤ k) : spec_l09Moves k n l = some (mvs n l) := by
  have h10 := sh10 hs
  unfold spec_l09Moves mvs
  rw [(result_val hs k (by omega)).2, Option.bind_some]
  by_cases h : 0 ≤ res n l
  · rw [if_pos (decide_eq_true h), if_pos h]
  · rw [if_neg (by simpa using h), if_neg h, free_val l k (by omega) (by omega)]; rfl

theorem start_pos (n : Int) (hn : 1 ≤ n ∧ n ≤ 5) : sh n (List.replicate (tri n.toNat) (-1)) ∧ isPos n (List.replicate (tri n.toNat) (-1)) := by
  have hg : ∀ a : Nat, a < tri n.toNat → (List.replicate (tri n.toNat) (-1 : Int)).getD a 0 = -1 := fun a ha => by simp [List.getD, List.getElem?_replicate, ha]
  have hno : ∀ who, who ≠ -1 → ¬ anyT n (List.replicate (tri n.toNat) (-1)) who := fun who hw ⟨i, j, m, h1, h2, _⟩ => by
    obtain ⟨a, b, c⟩ := prc_all.1 h1
    rw [hg _ (eN_lt a (by omega) (by omega))] at h2
    exact hw h2.symm
  have hm : mov (List.replicate (tri n.toNat) (-1)) = 0 := by
    unfold mov
    rw [List.count_replicate, List.count_replicate]; rfl
  refine ⟨⟨hn, by simp, fun a ha => ?_⟩, ?_⟩
  · rw [hg a (by simpa using ha)]; omega
  · unfold isPos
    rw [hm]
    exact ⟨by omega, hno _ (by omega), .inl (hno _ (by omega))⟩

theorem start_val (k : Nat) (hk : 100 ≤ k) (r1 : Int × Src) (hn : 1 ≤ r1.1 ∧ r1.1 ≤ 5) : spec_l09Draw_l0 r1 k 0 [] = some (List.replicate (tri r1.1.toNat) (-1)) := by
  have h5 := tri5 r1.1 hn
  have hw := tri_w r1.1 hn
  have := loopI (f := fun k' i (s : List Int) => spec_l09Draw_l0 r1 k' i s) (tri r1.1.toNat : Int) 0 (fun i s => i ≤ tri r1.1.toNat ∧ s = List.replicate i.toNat (-1)) (fun s => s = List.replicate (tri r1.1.toNat) (-1)) ?_ ?_ k 0 [] (by omega) (by omega) ⟨by omega, rfl⟩
  · obtain ⟨s, e, rfl⟩ := this
    exact e
  · rintro k' i s h0 h1 ⟨q1, rfl⟩
    left
    refine ⟨List.replicate (i + 1).toNat (-1), ?_, by omega, rfl⟩
    show spec_l09Draw_l0 r1 (k' + 1) i _ = _
    rw [spec_l09Draw_l0, hw, w64_succ h0 h1 (by omega), if_pos (decide_eq_true h1), if_pos (by simp; omega), show (i + 1).toNat = i.toNat + 1 by omega, List.replicate_succ']
  · rintro k' i s h0 h1 ⟨q1, rfl⟩
    refine ⟨List.replicate (tri r1.1.toNat) (-1), ?_, rfl⟩
    show spec_l09Draw_l0 r1 (k' + 1) i _ = _
    rw [spec_l09Draw_l0, hw, if_neg (by simp only [decide_eq_true_eq]; omega), show i.toNat = tri r1.1.toNat by omega]

theorem mvs_get {n : Int} {l : List Int} {i : Nat} (hi : i < (mvs n l).length) : res n l < 0 ∧ ∃ a : Nat, a < l.length ∧ l.getD a 0 < 0 ∧ (mvs n l).getD i 0 = (a : Int) := by
  unfold mvs at hi ⊢
  by_cases h : 0 ≤ res n l
  · rw [if_pos h] at hi; simp at hi
  · rw [if_neg h] at hi ⊢
    have : (fl (fre l) l.length).getD i 0 ∈ fl (fre l) l.length := mem_getD.2 ⟨i, hi, rfl⟩
    obtain ⟨a, h1, h2, h3⟩ := (fl_mem _ _ _).1 this
    exact ⟨by omega, a, h1, of_decide_eq_true h2, h3⟩

theorem draw9_ok {k : Nat} (hk : 5000 ≤ k) (s : Src) (h : okS s) : ∃ n l s', spec_l09Draw k s = some (n, l, s') ∧ okS s' ∧ sh n l ∧ isPos n l := by
  unfold spec_l09Draw
  obtain ⟨n, s1, e1, k1, hn⟩ := pick_ok s [1, 2, 3, 3, 4, 4, 4, 5, 5] h (by simp)
  have hn5 : 1 ≤ n ∧ n ≤ 5 := by simp at hn; omega
  rw [e1, Option.bind_some, start_val k (by omega) (n, s1) hn5, Option.bind_some]
  obtain ⟨v, s2, e2, k2, hv, _⟩ := next_ok s1 8 k1
  obtain ⟨v0, v1⟩ := hv (by omega)
  dsimp only
  rw [e2, Option.bind_some]
  obtain ⟨m, s3, e3, k3, hm⟩ : ∃ m s3, ((if decide (n = 5) then (spec_l01Pick s2 ([3, 4, 5, 6, 7, 9, 2, 10])).bind fun r9 => some (r9.1, r9.2) else some (v, s2)) : Option (Int × Src)) = some (m, s3) ∧ okS s3 ∧ (0 ≤ m ∧ m ≤ 10) := by
    by_cases h5 : n = 5
    · obtain ⟨m, s3, e3, k3, hm⟩ := pick_ok s2 [3, 4, 5, 6, 7, 9, 2, 10] k2 (by simp)
      exact ⟨m, s3, by rw [if_pos (decide_eq_true h5), e3]; rfl, k3, by simp at hm; omega⟩
    · exact ⟨v, s2, by rw [if_neg (by simpa using h5)], k2, by omega⟩
  dsimp only
  rw [e3, Option.bind_some]
  obtain ⟨hs0, hp0⟩ := start_pos n hn5
  have := loopI (f := fun k' i (s : Src × List Int) => spec_l09Draw_l1 k (n, s1) (m, s3) k' i s.1 s.2) m 0 (fun i s => okS s.1 ∧ sh n s.2 ∧ isPos n s.2) (fun s => okS s.1 ∧ sh n s.2 ∧ isPos n s.2) ?_ ?_ k 0 (s3, List.replicate (tri n.toNat) (-1)) (by omega) (by omega) ⟨k3, hs0, hp0⟩
  · obtain ⟨⟨s', l⟩, e, h1, h2, h3⟩ := this
    refine ⟨n, l, s', ?_, h1, h2, h3⟩
    rw [e]; rfl
  · rintro k' i ⟨t, l⟩ h0 h1 ⟨q1, q2, q3⟩
    have h10 := sh10 q2
    by_cases hz : (mvs n l).length = 0
    · right
      refine ⟨(t, l), ?_, q1, q2, q3⟩
      show spec_l09Draw_l1 k (n, s1) (m, s3) (k' + 1) i t l = _
      rw [spec_l09Draw_l1, if_pos (decide_eq_true h1)]
      dsimp only
      rw [specMoves_val q2 k (by omega), Option.bind_some, if_pos (decide_eq_true (show ((mvs n l).length : Int) = 0 by omega))]
    · left
      obtain ⟨j, t2, e4, k4, hj, _⟩ := next_ok t (mvs n l).length q1
      obtain ⟨j0, j1⟩ := hj (by omega)
      obtain ⟨hr, a, ha, hf, ea⟩ := mvs_get (show j.toNat < (mvs n l).length by omega)
      obtain ⟨p1, p2, _⟩ := move_pos q2 q3 hr ha hf
      refine ⟨(t2, l.set a (mov l)), ?_, k4, p1, p2⟩
      show spec_l09Draw_l1 k (n, s1) (m, s3) (k' + 1) i t l = _
      rw [spec_l09Draw_l1, if_pos (decide_eq_true h1)]
      dsimp only
      rw [specMoves_val q2 k (by omega), Option.bind_some, if_neg (by simp only [decide_eq_true_eq]; intro h; exact hz (by have h : ((mvs n l).length : Int) = 0 := h; omega)), e4, Option.bind_some, if_pos ⟨j0, j1⟩]
      dsimp only
      rw [ea, (moved_val n l a ha h10 k (by omega)).2, Option.bind_some, w64_succ h0 h1 (by omega)]
  · rintro k' i ⟨t, l⟩ h0 h1 ⟨q1, q2, q3⟩
    refine ⟨(t, l), ?_, q1, q2, q3⟩
    show spec_l09Draw_l1 k (n, s1) (m, s3) (k' + 1) i t l = _
    rw [spec_l09Draw_l1, if_neg (by simp only [decide_eq_true_eq]; omega)]

theorem bad9_ok {k : Nat} (hk : 5000 ≤ k) (s : Src) (n : Int) (l : List Int) (h : okS s) (hl : l.length ≤ 10) : ∃ n' l' s', spec_l09Bad k s n l = some (n', l', s') ∧ okS s' ∧ l'.length ≤ 11 := by
  unfold spec_l09Bad spec_l01Own
  rw [if_pos (by simp; omega), Option.bind_some]
  obtain ⟨v, s1, e1, k1, _, _⟩ := next_ok s 24 h
  rw [e1, Option.bind_some]
  dsimp only
  rw [List.nil_append]
  by_cases c0 : v = 0
  · obtain ⟨m, s2, e2, k2, _⟩ := pick_ok s1 [0, 6, -1, w64 (n + 1), 1099511627776] k1 (by simp)
    exact ⟨m, l, s2, by rw [if_pos (decide_eq_true c0), e2]; rfl, k2, by omega⟩
  rw [if_neg (by simpa using c0)]
  by_cases c1 : v = 1
  · exact ⟨n, l ++ [-1], s1, by rw [if_pos (decide_eq_true c1), if_pos (by simp; omega)]; rfl, k1, by simp; omega⟩
  rw [if_neg (by simpa using c1)]
  by_cases c2 : v = 2
  · rw [if_pos (decide_eq_true c2)]
    by_cases hz : 0 < (l.length : Int)
    · obtain ⟨a, s2, e2, k2, ha, _⟩ := next_ok s1 l.length k1
      obtain ⟨a0, a1⟩ := ha (by omega)
      obtain ⟨m, s3, e3, k3, _⟩ := pick_ok s2 [-1, 0, 1, 2, -2] k2 (by simp)
      refine ⟨n, l.set a.toNat m, s3, ?_, k3, by simp; omega⟩
      rw [if_pos (decide_eq_true hz), e2, Option.bind_some]
      dsimp only
      rw [e3, Option.bind_some, if_pos ⟨a0, a1⟩]; rfl
    · exact ⟨n, l, s1, by rw [if_neg (by simpa using hz)]; rfl, k1, by omega⟩
  rw [if_neg (by simpa using c2)]
  by_cases c3 : v = 3
  · rw [if_pos (decide_eq_true c3)]
    have := loopI (f := fun k' i (s : Src × List Int) => spec_l09Bad_l0 n k' i s.1 s.2) (l.length : Int) 0 (fun i s => okS s.1 ∧ s.2.length = l.length) (fun x => okS x.2.1 ∧ x.2.2.length = l.length) ?_ ?_ k 0 (s1, l) (by omega) (by omega) ⟨k1, rfl⟩
    · obtain ⟨⟨m, s', l'⟩, e, h1, h2⟩ := this
      exact ⟨m, l', s', by rw [e]; rfl, h1, by dsimp only at h2; omega⟩
    · rintro k' i ⟨t, y⟩ h0 h1 ⟨q1, q2⟩
      left
      obtain ⟨a, t2, e2, k2, _, _⟩ := next_ok t 2 q1
      dsimp only at q2
      refine ⟨(t2, y.set i.toNat a), ?_, k2, by simp [q2]⟩
      show spec_l09Bad_l0 n (k' + 1) i t y = _
      rw [spec_l09Bad_l0, if_pos (decide_eq_true (by omega)), e2, Option.bind_some, if_pos ⟨h0, by omega⟩, w64_succ h0 h1 (by omega)]
    · rintro k' i ⟨t, y⟩ h0 h1 ⟨q1, q2⟩
      dsimp only at q2
      refine ⟨(n, t, y), ?_, q1, q2⟩
      show spec_l09Bad_l0 n (k' + 1) i t y = _
      rw [spec_l09Bad_l0, if_neg (by simp only [decide_eq_true_eq]; omega)]
  · rw [if_neg (by simpa using c3)]
    exact ⟨n, l, s1, rfl, k1, by omega⟩

section
open Classical
/-- What the mover gets out of what his moves give. -/
noncomputable def pick (m : Int) (g : Nat → Bool) (v : Nat → Int) (len : Nat) : Int :=
  if ∃ a, a < len ∧ g a = true ∧ v a = m then m else if ∃ a, a < len ∧ g a = true ∧ v a = 2 then 2 else 1 - m
noncomputable def OC (n : Int) : Nat → List Int → Int
  | 0, l => res n l
  | d + 1, l => if 0 ≤ res n l then res n l else pick (mov l) (fre l) (fun a => OC n d (l.set a (mov l))) l.length
noncomputable def oc (n : Int) (l : List Int) : Int := OC n (l.count (-1)) l

theorem pick_congr {m : Int} {g : Nat → Bool} {v w : Nat → Int} {len : Nat} (h : ∀ a, a < len → g a = true → v a = w a) : pick m g v len = pick m g w len := by
  unfold pick
  have e : ∀ z : Int, (∃ a, a < len ∧ g a = true ∧ v a = z) ↔ (∃ a, a < len ∧ g a = true ∧ w a = z) := fun z =>
    ⟨fun ⟨a, h1, h2, h3⟩ => ⟨a, h1, h2, by rw [← h a h1 h2]; exact h3⟩, fun ⟨a, h1, h2, h3⟩ => ⟨a, h1, h2, by rw [h a h1 h2]; exact h3⟩⟩
  simp only [e]
theorem pick_one (m : Int) (g : Nat → Bool) (v : Nat → Int) (len : Nat) : pick m g v len = m ∨ pick m g v len = 2 ∨ pick m g v len = 1 - m := by
  unfold pick
  split
  · exact .inl rfl
  · split
    · exact .inr (.inl rfl)
    · exact .inr (.inr rfl)

theorem free_m {n : Int} {l : List Int} (hs : sh n l) {a : Nat} (ha : a < l.length) (hf : fre l a = true) : l.getD a 0 = -1 := by
  have h1 := hs.2.2 a ha
  have h2 : l.getD a 0 < 0 := of_decide_eq_true hf
  omega
theorem count_move {n : Int} {l : List Int} (hs : sh n l) (hp : isPos n l) {a : Nat} (ha : a < l.length) (hf : fre l a = true) : (l.set a (mov l)).count (-1) + 1 = l.count (-1) := by
  have h1 := free_m hs ha hf
  have hm := hp.range
  have hz : -1 ≠ mov l := by omega
  rw [count_set l a (mov l) (-1) ha (by rw [h1]; exact hz), if_neg hz, if_pos h1.symm]
  have : 0 < l.count (-1) := List.count_pos_iff.2 (mem_getD.2 ⟨a, ha, h1⟩)
  omega
theorem res_cases (n : Int) (l : List Int) : res n l = mov l ∨ res n l = 2 ∨ (res n l = -1 ∧ l.count (-1) ≠ 0) := by
  unfold res
  split
  · exact .inl rfl
  · split
    · exact .inr (.inl rfl)
    · rename_i h; exact .inr (.inr ⟨rfl, h⟩)
theorem res_open {n : Int} {l : List Int} (hp : isPos n l) (hr : ¬ 0 ≤ res n l) : ∃ d, l.count (-1) = d + 1 := by
  have hm := hp.range
  rcases res_cases n l with h | h | ⟨_, h⟩
  · omega
  · omega
  · exact ⟨l.count (-1) - 1, by omega⟩
theorem oc_over {n : Int} {l : List Int} (hr : 0 ≤ res n l) : oc n l = res n l := by
  unfold oc
  cases l.count (-1) with
  | zero => rfl
  | succ d => rw [OC, if_pos hr]
theorem oc_step {n : Int} {l : List Int} (hs : sh n l) (hp : isPos n l) (hr : ¬ 0 ≤ res n l) : oc n l = pick (mov l) (fre l) (fun a => oc n (l.set a (mov l))) l.length := by
  obtain ⟨d, hd⟩ := res_open hp hr
  show OC n (l.count (-1)) l = _
  rw [hd, OC, if_neg hr]
  refine pick_congr fun a ha hf => ?_
  have := count_move hs hp ha hf
  show _ = OC n ((l.set a (mov l)).count (-1)) (l.set a (mov l))
  rw [show (l.set a (mov l)).count (-1) = d by omega]
theorem oc_one {n : Int} {l : List Int} (hs : sh n l) (hp : isPos n l) : oc n l = mov l ∨ oc n l = 2 ∨ oc n l = 1 - mov l := by
  by_cases hr : 0 ≤ res n l
  · rw [oc_over hr]
    rcases res_cases n l with h | h | ⟨h, _⟩
    · exact .inl h
    · exact .inr (.inl h)
    · omega
  · rw [oc_step hs hp hr]; exact pick_one _ _ _ _
theorem oc_range {n : Int} {l : List Int} (hs : sh n l) (hp : isPos n l) : 0 ≤ oc n l ∧ oc n l ≤ 2 := by
  have hm := hp.range
  rcases oc_one hs hp with h | h | h <;> omega

/-! ### What the player knows -/
def tx (l : List Int) : ByteArray := ⟨(l.map sgn).toArray⟩
theorem sgn_inj {a b : Int} (ha : -1 ≤ a ∧ a ≤ 1) (hb : -1 ≤ b ∧ b ≤ 1) (h : sgn a = sgn b) : a = b := by
  have h1 : a = -1 ∨ a = 0 ∨ a = 1 := by omega
  have h2 : b = -1 ∨ b = 0 ∨ b = 1 := by omega
  rcases h1 with rfl | rfl | rfl <;> rcases h2 with rfl | rfl | rfl <;> first | rfl | (exact absurd h (by decide))
theorem gD {l : List Int} {a : Nat} (h : a < l.length) : l.getD a 0 = l[a] := by simp [List.getD, List.getElem?_eq_getElem h]
theorem sh_ext {n : Int} {l l' : List Int} (hs : sh n l) (hs' : sh n l') (h : ∀ a, a < l.length → l.getD a 0 = l'.getD a 0) : l = l' := by
  refine List.ext_getElem (by rw [hs.2.1, hs'.2.1]) fun i h1 h2 => ?_
  have := h i h1
  rwa [gD h1, gD h2] at this
theorem tx_inj {n : Int} {l l' : List Int} (hs : sh n l) (hs' : sh n l') (h : tx l = tx l') : l = l' := by
  have h1 : l.map sgn = l'.map sgn := by
    have := congrArg (fun b : ByteArray => b.data.toList) h
    simpa [tx] using this
  refine sh_ext hs hs' fun a ha => ?_
  have ha' : a < l'.length := by rw [hs'.2.1, ← hs.2.1]; exact ha
  have h2 : (l.map sgn)[a]? = (l'.map sgn)[a]? := by rw [h1]
  rw [List.getElem?_map, List.getElem?_map, List.getElem?_eq_getElem ha, List.getElem?_eq_getElem ha'] at h2
  have h3 : sgn l[a] = sgn l'[a] := Option.some.inj h2
  have r1 := hs.2.2 a ha
  have r2 := hs'.2.2 a ha'
  rw [gD ha] at r1 ⊢
  rw [gD ha'] at r2 ⊢
  exact sgn_inj r1 r2 h3
def GO (n : Int) (M : List (MK × Int)) : Prop := ∀ l v, sh n l → isPos n l → lookM M (.s (tx l)) = some v → v = oc n l
theorem GO_nil (n : Int) : GO n [] := fun l v _ _ h => by simp [lookM] at h
theorem GO_cons {n : Int} {M : List (MK × Int)} (h : GO n M) {l : List Int} (hs : sh n l) : GO n ((.s (tx l), oc n l) :: M) := fun l' v hs' hp' h' => by
  rw [lookM] at h'
  by_cases e : tx l = tx l'
  · have e2 := tx_inj hs hs' e
    subst e2
    rw [show MK.beq (.s (tx l)) (.s (tx l)) = true from decide_eq_true rfl, cond_true] at h'
    exact (Option.some.inj h').symm
  · rw [show MK.beq (.s (tx l)) (.s (tx l')) = false from decide_eq_false e, cond_false] at h'
    exact h l' v hs' hp' h'
def cO : Nat → Nat
  | 0 => 1
  | d + 1 => 1 + 10 * cO d
theorem cO_le {d : Nat} (h : d ≤ 10) : cO d ≤ 20000000000 := by
  have : ∀ d, d < 11 → cO d ≤ 20000000000 := by decide
  exact this d (by omega)
theorem free10 {n : Int} {l : List Int} (hs : sh n l) : l.count (-1) ≤ 10 := Nat.le_trans List.count_le_length (sh10 hs)

theorem implOver {n : Int} {l : List Int} {M : List (MK × Int)} (hs : sh n l) (hr : 0 ≤ res n l) (k : Nat) (hk : 200 ≤ k) : impl_player_outcome (k + 1) M ⟨n, l⟩ = some (oc n l, M) := by
  rw [impl_player_outcome, impl_player_outcome_body, (result_val hs k hk).1, Option.bind_some, if_pos (decide_eq_true hr), oc_over hr]

theorem implOut (n : Int) : ∀ (d k : Nat) (l : List Int) (M : List (MK × Int)), d + 400 ≤ k → sh n l → isPos n l → l.count (-1) = d → GO n M → M.length + cO d ≤ 4611686018427387000 →
    ∃ M', impl_player_outcome k M ⟨n, l⟩ = some (oc n l, M') ∧ GO n M' ∧ M'.length ≤ M.length + cO d := by
  intro d
  induction d with
  | zero =>
    intro k l M hk hs hp hd hG hB
    obtain ⟨k, rfl⟩ : ∃ q, k = q + 1 := ⟨k - 1, by omega⟩
    have hr : 0 ≤ res n l := Classical.byContradiction fun h => by
      obtain ⟨d, h2⟩ := res_open hp h
      omega
    exact ⟨M, implOver hs hr k (by omega), hG, by omega⟩
  | succ d ih =>
    intro k l M hk hs hp hd hG hB
    obtain ⟨k, rfl⟩ : ∃ q, k = q + 1 := ⟨k - 1, by omega⟩
    by_cases hr : 0 ≤ res n l
    · exact ⟨M, implOver hs hr k (by omega), hG, by omega⟩
    have h10 := sh10 hs
    have hm := hp.range
    have hok : okK (MK.s (tx l)) = true := decide_eq_true (by unfold tx; rw [tx_size, List.length_map]; omega)
    rw [impl_player_outcome, impl_player_outcome_body, (result_val hs k (by omega)).1, Option.bind_some, if_neg (by simpa using hr), key_eq k n l h10 hs.2.2 (by omega), Option.bind_some]
    show ∃ M', (if okK (MK.s (tx l)) = true then _ else _) = _ ∧ _
    rw [if_pos hok]
    by_cases hl : (lookM M (MK.s (tx l))).isSome = true
    · obtain ⟨v, hv⟩ := Option.isSome_iff_exists.1 hl
      have hvo := hG l v hs hp hv
      refine ⟨M, ?_, hG, by omega⟩
      show (if (lookM M (MK.s (tx l))).isSome = true then some ((lookM M (MK.s (tx l))).getD 0, M) else _) = _
      rw [if_pos hl, hv, ← hvo]; rfl
    obtain ⟨C, hC⟩ : ∃ C, cO d = C := ⟨_, rfl⟩
    have hCd : cO (d + 1) = 1 + 10 * C := by rw [cO, hC]
    rw [hC] at ih
    rw [hCd] at hB ⊢
    have := loopI (f := fun k' i (s : Int × List (MK × Int)) => impl_player_outcome_l0 k (impl_player_outcome k) ⟨n, l⟩ k' s.1 i s.2) l.length 0
      (fun i s => GO n s.2 ∧ s.2.length ≤ M.length + i.toNat * C ∧ i ≤ l.length ∧ (∀ a : Nat, (a : Int) < i → fre l a = true → oc n (l.set a (mov l)) ≠ mov l) ∧ s.1 = if ∃ a : Nat, (a : Int) < i ∧ fre l a = true ∧ oc n (l.set a (mov l)) = 2 then 2 else 1 - mov l)
      (fun r => GO n r.2 ∧ r.2.length ≤ M.length + 10 * C ∧ r.1 = oc n l) ?_ ?_ k 0 (1 - mov l, M) (by omega) (by omega) ⟨hG, by simp, by omega, fun a ha => by omega, by rw [if_neg]; rintro ⟨a, h, _⟩; omega⟩
    · obtain ⟨⟨v, M1⟩, e, g1, g2, g3⟩ := this
      dsimp only at e g1 g2 g3
      subst g3
      have hrg := oc_range hs hp
      refine ⟨(.s (tx l), oc n l) :: M1, ?_, GO_cons g1 hs, by simp only [List.length_cons]; omega⟩
      show (if (lookM M (MK.s (tx l))).isSome = true then some ((lookM M (MK.s (tx l))).getD 0, M) else _) = _
      rw [if_neg hl, (mover_val n l h10 k (by omega)).1, Option.bind_some, w64_id (by omega), e, Option.bind_some]
      exact if_pos ⟨hok, by unfold okI; rw [decide_eq_true (by omega), decide_eq_true (by omega)]; rfl, by show M1.length < _; omega⟩
    · rintro k' i ⟨x, M1⟩ h0 h1 ⟨q1, q2, q3, q4, q5⟩
      dsimp only at q1 q2 q5
      obtain ⟨a, rfl⟩ : ∃ a : Nat, i = a := ⟨i.toNat, by omega⟩
      have ha : a < l.length := by omega
      rw [Int.toNat_natCast] at q2
      have hmul : a * C ≤ 9 * C := Nat.mul_le_mul_right _ (by omega)
      have hmul2 : (a + 1) * C = a * C + C := Nat.succ_mul a C
      show (∃ s', impl_player_outcome_l0 k (impl_player_outcome k) ⟨n, l⟩ (k' + 1) x a M1 = _ ∧ _) ∨ (∃ r, impl_player_outcome_l0 k (impl_player_outcome k) ⟨n, l⟩ (k' + 1) x a M1 = _ ∧ _)
      rw [impl_player_outcome_l0, if_pos (decide_eq_true h1), if_pos ⟨h0, h1⟩, Int.toNat_natCast, w64_succ h0 h1 (by omega)]
      dsimp only
      by_cases hf : 0 ≤ l.getD a 0
      · left
        have hff : fre l a = false := decide_eq_false (by omega)
        refine ⟨(x, M1), ?_, q1, ?_, by omega, ?_, ?_⟩
        · rw [if_pos (decide_eq_true hf)]; rfl
        · rw [show ((a : Int) + 1).toNat = a + 1 by omega]; dsimp only; omega
        · intro b hb hfb
          by_cases e : b = a
          · subst e; rw [hff] at hfb; cases hfb
          · exact q4 b (by omega) hfb
        · dsimp only
          rw [q5]
          have : (∃ b : Nat, (b : Int) < (a : Int) ∧ fre l b = true ∧ oc n (l.set b (mov l)) = 2) ↔ (∃ b : Nat, (b : Int) < (a : Int) + 1 ∧ fre l b = true ∧ oc n (l.set b (mov l)) = 2) := by
            constructor
            · rintro ⟨b, u1, u2⟩; exact ⟨b, by omega, u2⟩
            · rintro ⟨b, u1, u2, u3⟩
              by_cases e : b = a
              · subst e; rw [hff] at u2; cases u2
              · exact ⟨b, by omega, u2, u3⟩
          simp only [this]
      · have hff : fre l a = true := decide_eq_true (by omega)
        obtain ⟨p1, p2, _⟩ := move_pos hs hp (by omega) ha (by omega)
        have hcm := count_move hs hp ha hff
        obtain ⟨M2, e2, g1, g2⟩ := ih k (l.set a (mov l)) M1 (by omega) p1 p2 (by omega) q1 (by omega)
        rw [if_neg (by simpa using hf), (moved_val n l a ha h10 k (by omega)).1, Option.bind_some, e2, Option.bind_some, (mover_val n l h10 k (by omega)).1, Option.bind_some]
        dsimp only
        by_cases hw : oc n (l.set a (mov l)) = mov l
        · right
          refine ⟨(oc n (l.set a (mov l)), M2), ?_, g1, by dsimp only; omega, ?_⟩
          · rw [if_pos (decide_eq_true hw)]; rfl
          · dsimp only
            rw [oc_step hs hp hr]
            unfold pick
            rw [if_pos ⟨a, ha, hff, hw⟩, hw]
        · left
          rw [if_neg (by simpa using hw)]
          have hall : ∀ b : Nat, (b : Int) < (a : Int) + 1 → fre l b = true → oc n (l.set b (mov l)) ≠ mov l := by
            intro b hb hfb
            by_cases e : b = a
            · subst e; exact hw
            · exact q4 b (by omega) hfb
          by_cases h2 : oc n (l.set a (mov l)) = 2
          · refine ⟨(2, M2), ?_, g1, ?_, by omega, hall, ?_⟩
            · rw [if_pos (decide_eq_true h2)]; rfl
            · rw [show ((a : Int) + 1).toNat = a + 1 by omega]; dsimp only; omega
            · dsimp only
              rw [if_pos ⟨a, by omega, hff, h2⟩]
          · refine ⟨(x, M2), ?_, g1, ?_, by omega, hall, ?_⟩
            · rw [if_neg (by simpa using h2)]; rfl
            · rw [show ((a : Int) + 1).toNat = a + 1 by omega]; dsimp only; omega
            · dsimp only
              rw [q5]
              have : (∃ b : Nat, (b : Int) < (a : Int) ∧ fre l b = true ∧ oc n (l.set b (mov l)) = 2) ↔ (∃ b : Nat, (b : Int) < (a : Int) + 1 ∧ fre l b = true ∧ oc n (l.set b (mov l)) = 2) := by
                constructor
                · rintro ⟨b, u1, u2⟩; exact ⟨b, by omega, u2⟩
                · rintro ⟨b, u1, u2, u3⟩
                  by_cases e : b = a
                  · subst e; exact absurd u3 h2
                  · exact ⟨b, by omega, u2, u3⟩
              simp only [this]
    · rintro k' i ⟨x, M1⟩ h0 h1 ⟨q1, q2, q3, q4, q5⟩
      dsimp only at q1 q2 q5
      have hi : i = l.length := by omega
      subst hi
      rw [Int.toNat_natCast] at q2
      have hmul : l.length * C ≤ 10 * C := Nat.mul_le_mul_right _ h10
      refine ⟨(x, M1), ?_, q1, by dsimp only; omega, ?_⟩
      · show impl_player_outcome_l0 k (impl_player_outcome k) ⟨n, l⟩ (k' + 1) x l.length M1 = _
        rw [impl_player_outcome_l0, if_neg (by simp only [decide_eq_true_eq]; omega)]
      · dsimp only
        rw [q5, oc_step hs hp hr]
        unfold pick
        rw [if_neg (show ¬ ∃ a, a < l.length ∧ fre l a = true ∧ oc n (l.set a (mov l)) = mov l from fun ⟨a, u1, u2, u3⟩ => q4 a (by omega) u2 u3)]
        have : (∃ b : Nat, (b : Int) < (l.length : Int) ∧ fre l b = true ∧ oc n (l.set b (mov l)) = 2) ↔ (∃ b : Nat, b < l.length ∧ fre l b = true ∧ oc n (l.set b (mov l)) = 2) := by
          constructor
          · rintro ⟨b, u1, u2⟩; exact ⟨b, by omega, u2⟩
          · rintro ⟨b, u1, u2⟩; exact ⟨b, by omega, u2⟩
        simp only [this]
end

/-! ### Numbers of positions -/
def numT (l : List Int) : Nat → Int
  | 0 => 0
  | i + 1 => numT l i * 3 + l.getD i 0 + 1
theorem numT_range {l : List Int} {m : Nat} (h : ∀ a : Nat, a < m → -1 ≤ l.getD a 0 ∧ l.getD a 0 ≤ 1) : ∀ i, i ≤ m → 0 ≤ numT l i ∧ numT l i < ((3 ^ i : Nat) : Int)
  | 0, _ => by simp [numT]
  | i + 1, hi => by
    obtain ⟨h1, h2⟩ := numT_range h i (by omega)
    have h3 := h i (by omega)
    rw [numT, Nat.pow_succ]
    constructor
    · omega
    · push_cast at h2 ⊢; omega
theorem numT_inj {l l' : List Int} {m : Nat} (h : ∀ a : Nat, a < m → -1 ≤ l.getD a 0 ∧ l.getD a 0 ≤ 1) (h' : ∀ a : Nat, a < m → -1 ≤ l'.getD a 0 ∧ l'.getD a 0 ≤ 1) : ∀ i, i ≤ m → numT l i = numT l' i → ∀ a, a < i → l.getD a 0 = l'.getD a 0
  | 0, _, _, a, ha => by omega
  | i + 1, hi, e, a, ha => by
    rw [numT, numT] at e
    have h3 := h i (by omega)
    have h4 := h' i (by omega)
    by_cases hai : a = i
    · subst hai; omega
    · exact numT_inj h h' i (by omega) (by omega) a (by omega)
def num (l : List Int) : Int := numT l l.length
theorem pow10 {m : Nat} (h : m ≤ 10) : 3 ^ m ≤ 59049 := Nat.le_trans (Nat.pow_le_pow_right (by omega) h) (by decide)
theorem num_range {n : Int} {l : List Int} (hs : sh n l) : 0 ≤ num l ∧ num l < ((3 ^ tri n.toNat : Nat) : Int) := by
  have := numT_range hs.2.2 l.length (Nat.le_refl _)
  unfold num
  rw [← hs.2.1]; exact this
theorem num_inj {n : Int} {l l' : List Int} (hs : sh n l) (hs' : sh n l') (e : num l = num l') : l = l' := by
  have hl : l'.length = l.length := by rw [hs.2.1, hs'.2.1]
  unfold num at e
  rw [hl] at e
  exact sh_ext hs hs' (numT_inj hs.2.2 (by rw [← hl]; exact hs'.2.2) l.length (Nat.le_refl _) e)
theorem number9_val {n : Int} {l : List Int} (hs : sh n l) (k : Nat) (hk : 20 ≤ k) : spec_l09Number k l = some (num l) := by
  have h10 := sh10 hs
  unfold spec_l09Number
  have := loopI (f := fun k' i (s : Int) => spec_l09Number_l0 l k' s i) (l.length : Int) 0 (fun i s => i ≤ l.length ∧ s = numT l i.toNat) (fun s => s = num l) ?_ ?_ k 0 0 (by omega) (by omega) ⟨by omega, rfl⟩
  · obtain ⟨s, e, rfl⟩ := this
    rw [e]; rfl
  · rintro k' i s h0 h1 ⟨q1, rfl⟩
    obtain ⟨a, rfl⟩ := nat_of h0
    left
    refine ⟨numT l (a + 1), ?_, by omega, by rw [show ((a : Int) + 1).toNat = a + 1 by omega]⟩
    show spec_l09Number_l0 l (k' + 1) _ a = _
    have r1 := numT_range hs.2.2 a (by omega)
    have r2 := pow10 (m := a) (by omega)
    have r3 := hs.2.2 a (by omega)
    rw [spec_l09Number_l0, if_pos (decide_eq_true h1), if_pos ⟨h0, h1⟩, Int.toNat_natCast, w64_succ h0 h1 (by omega), w64_id (n := numT l a * 3) (by omega), w64_id (n := numT l a * 3 + l.getD a 0) (by omega), w64_id (by omega)]
    rfl
  · rintro k' i s h0 h1 ⟨q1, rfl⟩
    refine ⟨num l, ?_, rfl⟩
    show spec_l09Number_l0 l (k' + 1) _ i = _
    rw [spec_l09Number_l0, if_neg (by simp only [decide_eq_true_eq]; omega), show i.toNat = l.length by omega]
    rfl

/-! ### The table -/
def GS (n : Int) (K : List Int) : Prop := K.length = 3 ^ tri n.toNat ∧ ∀ l, sh n l → isPos n l → 0 ≤ K.getD (num l).toNat 0 → K.getD (num l).toNat 0 = oc n l
theorem GS_set {n : Int} {K : List Int} (h : GS n K) {l : List Int} (hs : sh n l) : GS n (K.set (num l).toNat (oc n l)) := by
  have hr := num_range hs
  refine ⟨by rw [List.length_set]; exact h.1, fun l' hs' hp' h' => ?_⟩
  have hr' := num_range hs'
  rw [set_getD K _ _ _ (by rw [h.1]; omega)] at h' ⊢
  by_cases e : (num l').toNat = (num l).toNat
  · rw [if_pos e]
    rw [num_inj hs' hs (by omega)]
  · rw [if_neg e] at h' ⊢
    exact h.2 l' hs' hp' h'
theorem table9_val (n : Int) (hn : 1 ≤ n ∧ n ≤ 5) (k : Nat) (hk : 60000 ≤ k) : ∃ K, spec_l09Table k n = some K ∧ GS n K := by
  have h5 := tri5 n hn
  have hw := tri_w n hn
  have hp := pow10 h5
  unfold spec_l09Table
  have h1 := loopI (f := fun k' i (s : Int) => spec_l09Table_l0 n k' s i) (tri n.toNat : Int) 0 (fun i s => i ≤ tri n.toNat ∧ s = ((3 ^ i.toNat : Nat) : Int)) (fun s => s = ((3 ^ tri n.toNat : Nat) : Int)) ?_ ?_ k 0 1 (by omega) (by omega) ⟨by omega, rfl⟩
  · obtain ⟨s, e, rfl⟩ := h1
    rw [e, Option.bind_some]
    generalize hN : 3 ^ tri n.toNat = N at *
    rw [if_pos ⟨by omega, by omega, by omega⟩]
    have h2 := loopI (f := fun k' i (s : List Int) => spec_l09Table_l1 (N : Int) k' i s) (N : Int) 0 (fun i s => i ≤ N ∧ s.length = N ∧ ∀ a : Nat, (a : Int) < i → s.getD a 0 = -1) (fun s => s.length = N ∧ ∀ a : Nat, a < N → s.getD a 0 = -1) ?_ ?_ k 0 (List.replicate ((N : Int).toNat) 0) (by omega) (by omega) ⟨by omega, by simp, fun a h => by omega⟩
    · obtain ⟨K, e2, e3, e4⟩ := h2
      refine ⟨K, by rw [e2]; rfl, by rw [hN]; exact e3, fun l hs _ h => ?_⟩
      have hr := num_range hs
      rw [hN] at hr
      rw [e4 _ (by omega)] at h
      omega
    · rintro k' i s h0 h1 ⟨q1, q2, q3⟩
      left
      refine ⟨s.set i.toNat (-1), ?_, by omega, by simp [q2], ?_⟩
      · show spec_l09Table_l1 (N : Int) (k' + 1) i s = _
        rw [spec_l09Table_l1, if_pos (decide_eq_true (by rw [List.length_replicate]; omega)), if_pos ⟨h0, by omega⟩, w64_succ h0 h1 (by omega)]
      · intro a ha
        rw [set_getD s _ _ _ (by omega)]
        by_cases e : a = i.toNat
        · rw [if_pos e]
        · rw [if_neg e]; exact q3 a (by omega)
    · rintro k' i s h0 h1 ⟨q1, q2, q3⟩
      refine ⟨s, ?_, q2, fun a ha => q3 a (by omega)⟩
      show spec_l09Table_l1 (N : Int) (k' + 1) i s = _
      rw [spec_l09Table_l1, if_neg (by rw [List.length_replicate]; simp only [decide_eq_true_eq]; omega)]
  · rintro k' i s h0 h1 ⟨q1, rfl⟩
    obtain ⟨a, rfl⟩ := nat_of h0
    left
    have hp2 := pow10 (m := a) (by omega)
    have e3 : (3 : Nat) ^ (a + 1) = 3 ^ a * 3 := Nat.pow_succ 3 a
    rw [Int.toNat_natCast]
    refine ⟨((3 ^ (a + 1) : Nat) : Int), ?_, by omega, by rw [show ((a : Int) + 1).toNat = a + 1 by omega]⟩
    show spec_l09Table_l0 n (k' + 1) ((3 ^ a : Nat) : Int) a = _
    rw [spec_l09Table_l0, hw, if_pos (decide_eq_true h1), w64_succ h0 h1 (by omega), e3, w64_id (by omega)]
    rfl
  · rintro k' i s h0 h1 ⟨q1, rfl⟩
    refine ⟨((3 ^ tri n.toNat : Nat) : Int), ?_, rfl⟩
    show spec_l09Table_l0 n (k' + 1) _ i = _
    rw [spec_l09Table_l0, hw, if_neg (by simp only [decide_eq_true_eq]; omega), show i.toNat = tri n.toNat by omega]

section
open Classical
theorem fl_ex {l : List Int} (P : Nat → Prop) : (∃ a, a < l.length ∧ fre l a = true ∧ P a) ↔ ∃ j : Nat, j < (fl (fre l) l.length).length ∧ P ((fl (fre l) l.length).getD j 0).toNat := by
  constructor
  · rintro ⟨a, h1, h2, h3⟩
    obtain ⟨j, hj, e⟩ := mem_getD.1 ((fl_mem (fre l) l.length (a : Int)).2 ⟨a, h1, h2, rfl⟩)
    exact ⟨j, hj, by rw [e, Int.toNat_natCast]; exact h3⟩
  · rintro ⟨j, hj, h⟩
    obtain ⟨a, h1, h2, h3⟩ := (fl_mem (fre l) l.length _).1 (mem_getD.2 ⟨j, hj, rfl⟩)
    rw [h3, Int.toNat_natCast] at h
    exact ⟨a, h1, h2, h⟩
theorem fl_get {l : List Int} {j : Nat} (hj : j < (fl (fre l) l.length).length) : ∃ a : Nat, a < l.length ∧ fre l a = true ∧ (fl (fre l) l.length).getD j 0 = (a : Int) :=
  (fl_mem (fre l) l.length _).1 (mem_getD.2 ⟨j, hj, rfl⟩)

theorem specOut (n : Int) : ∀ (d k : Nat) (l K : List Int), d + 400 ≤ k → sh n l → isPos n l → l.count (-1) = d → GS n K →
    ∃ K', spec_l09Outcome k n l K = some (oc n l, K') ∧ GS n K' := by
  intro d
  induction d with
  | zero =>
    intro k l K hk hs hp hd hG
    obtain ⟨k, rfl⟩ : ∃ q, k = q + 1 := ⟨k - 1, by omega⟩
    have hr : 0 ≤ res n l := Classical.byContradiction fun h => by
      obtain ⟨d, h2⟩ := res_open hp h
      omega
    have hn := num_range hs
    have hlt : num l < (K.length : Int) := by rw [hG.1]; exact hn.2
    rw [spec_l09Outcome, spec_l09Outcome_body, number9_val hs k (by omega), Option.bind_some, if_pos ⟨hn.1, hlt⟩]
    by_cases hk2 : 0 ≤ K.getD (num l).toNat 0
    · rw [if_pos (decide_eq_true hk2), if_pos ⟨hn.1, hlt⟩]
      exact ⟨K, by rw [hG.2 l hs hp hk2], hG⟩
    · rw [if_neg (by simpa using hk2), (result_val hs k (by omega)).2, Option.bind_some, if_neg (by simp only [decide_eq_true_eq]; omega), Option.bind_some]
      refine ⟨K.set (num l).toNat (oc n l), ?_, GS_set hG hs⟩
      dsimp only
      rw [if_pos ⟨hn.1, hlt⟩, oc_over hr]
  | succ d ih =>
    intro k l K hk hs hp hd hG
    obtain ⟨k, rfl⟩ : ∃ q, k = q + 1 := ⟨k - 1, by omega⟩
    have hn := num_range hs
    have hlt : num l < (K.length : Int) := by rw [hG.1]; exact hn.2
    rw [spec_l09Outcome, spec_l09Outcome_body, number9_val hs k (by omega), Option.bind_some, if_pos ⟨hn.1, hlt⟩]
    by_cases hk2 : 0 ≤ K.getD (num l).toNat 0
    · rw [if_pos (decide_eq_true hk2), if_pos ⟨hn.1, hlt⟩]
      exact ⟨K, by rw [hG.2 l hs hp hk2], hG⟩
    rw [if_neg (by simpa using hk2), (result_val hs k (by omega)).2, Option.bind_some]
    by_cases hr : 0 ≤ res n l
    · rw [if_neg (by simp only [decide_eq_true_eq]; omega), Option.bind_some]
      refine ⟨K.set (num l).toNat (oc n l), ?_, GS_set hG hs⟩
      dsimp only
      rw [if_pos ⟨hn.1, hlt⟩, oc_over hr]
    have h10 := sh10 hs
    have hm := hp.range
    rw [if_pos (decide_eq_true (by omega)), (mover_val n l h10 k (by omega)).2, Option.bind_some, free_val l k (by omega) (by omega), Option.bind_some, w64_id (by omega)]
    have hRl := fl_length (fre l) l.length
    have hex := fun P => @fl_ex l P
    have hget := fun j => @fl_get l j
    generalize fl (fre l) l.length = R at *
    have := loopI (f := fun k' i (s : Int × List Int) => spec_l09Outcome_l0 k (spec_l09Outcome k) n l (mov l) R k' s.1 i s.2) R.length 0
      (fun i s => GS n s.2 ∧ i ≤ R.length ∧ ((s.1 = mov l ∧ ∃ j : Nat, j < R.length ∧ oc n (l.set (R.getD j 0).toNat (mov l)) = mov l) ∨ ((∀ j : Nat, (j : Int) < i → oc n (l.set (R.getD j 0).toNat (mov l)) ≠ mov l) ∧ s.1 = if ∃ j : Nat, (j : Int) < i ∧ oc n (l.set (R.getD j 0).toNat (mov l)) = 2 then 2 else 1 - mov l)))
      (fun r => GS n r.2 ∧ r.1 = oc n l) ?_ ?_ k 0 (1 - mov l, K) (by omega) (by omega) ⟨hG, by omega, .inr ⟨fun a ha => by omega, by rw [if_neg]; rintro ⟨a, h, _⟩; omega⟩⟩
    · obtain ⟨⟨v, K1⟩, e, g1, g3⟩ := this
      dsimp only at e g1 g3
      subst g3
      rw [e, Option.bind_some]
      refine ⟨K1.set (num l).toNat (oc n l), ?_, GS_set g1 hs⟩
      dsimp only
      rw [if_pos ⟨hn.1, by rw [g1.1]; exact hn.2⟩]
    · rintro k' i ⟨x, K1⟩ h0 h1 ⟨q1, q3, q4⟩
      dsimp only at q1 q4
      obtain ⟨j, rfl⟩ := nat_of h0
      show (∃ s', spec_l09Outcome_l0 k (spec_l09Outcome k) n l (mov l) R (k' + 1) x j K1 = _ ∧ _) ∨ (∃ r, spec_l09Outcome_l0 k (spec_l09Outcome k) n l (mov l) R (k' + 1) x j K1 = _ ∧ _)
      rw [spec_l09Outcome_l0, if_pos (decide_eq_true h1), w64_succ h0 h1 (by omega)]
      unfold letO
      rcases q4 with ⟨rfl, hw⟩ | ⟨hall, hx⟩
      · right
        refine ⟨(mov l, K1), ?_, q1, ?_⟩
        · rw [decide_eq_true rfl]; rfl
        · dsimp only
          rw [oc_step hs hp hr]
          unfold pick
          rw [if_pos ((hex fun a => oc n (l.set a (mov l)) = mov l).2 hw)]
      · have hxm : x ≠ mov l := by
          rw [hx]; split <;> omega
        obtain ⟨a, ha, hff, ea⟩ := hget j (by omega)
        obtain ⟨p1, p2, _⟩ := move_pos hs hp (by omega) ha (of_decide_eq_true hff)
        have hcm := count_move hs hp ha hff
        obtain ⟨K2, e2, g1⟩ := ih k (l.set a (mov l)) K1 (by omega) p1 p2 (by omega) q1
        left
        rw [decide_eq_false hxm, Bool.not_false]
        dsimp only
        rw [if_pos rfl, Option.bind_some]
        dsimp only
        rw [if_pos ⟨h0, h1⟩, Int.toNat_natCast, ea, (moved_val n l a ha h10 k (by omega)).2, Option.bind_some, e2, Option.bind_some]
        dsimp only
        by_cases hw : oc n (l.set a (mov l)) = mov l
        · refine ⟨(oc n (l.set a (mov l)), K2), ?_, g1, by omega, .inl ⟨hw, j, by omega, by rw [ea, Int.toNat_natCast]; exact hw⟩⟩
          rw [decide_eq_true hw]; rfl
        · have hall2 : ∀ b : Nat, (b : Int) < (j : Int) + 1 → oc n (l.set (R.getD b 0).toNat (mov l)) ≠ mov l := by
            intro b hb
            by_cases e : b = j
            · subst e; rw [ea, Int.toNat_natCast]; exact hw
            · exact hall b (by omega)
          rw [decide_eq_false hw]
          simp only [Bool.false_eq_true, if_false, decide_eq_true_eq]
          by_cases h2 : oc n (l.set a (mov l)) = 2
          · refine ⟨(oc n (l.set a (mov l)), K2), ?_, g1, by omega, .inr ⟨hall2, ?_⟩⟩
            · rw [if_pos h2]; rfl
            · dsimp only
              rw [if_pos ⟨j, by omega, by rw [ea, Int.toNat_natCast]; exact h2⟩, h2]
          · refine ⟨(x, K2), ?_, g1, by omega, .inr ⟨hall2, ?_⟩⟩
            · rw [if_neg h2]; rfl
            · dsimp only
              rw [hx]
              have : (∃ b : Nat, (b : Int) < (j : Int) ∧ oc n (l.set (R.getD b 0).toNat (mov l)) = 2) ↔ (∃ b : Nat, (b : Int) < (j : Int) + 1 ∧ oc n (l.set (R.getD b 0).toNat (mov l)) = 2) := by
                constructor
                · rintro ⟨b, u1, u2⟩; exact ⟨b, by omega, u2⟩
                · rintro ⟨b, u1, u2⟩
                  by_cases e : b = j
                  · subst e; rw [ea, Int.toNat_natCast] at u2; exact absurd u2 h2
                  · exact ⟨b, by omega, u2⟩
              simp only [this]
    · rintro k' i ⟨x, K1⟩ h0 h1 ⟨q1, q3, q4⟩
      dsimp only at q1 q4
      have hi : i = R.length := by omega
      subst hi
      refine ⟨(x, K1), ?_, q1, ?_⟩
      · show spec_l09Outcome_l0 k (spec_l09Outcome k) n l (mov l) R (k' + 1) x R.length K1 = _
        rw [spec_l09Outcome_l0, if_neg (by simp only [decide_eq_true_eq]; omega)]
        rfl
      · dsimp only
        rw [oc_step hs hp hr]
        unfold pick
        rcases q4 with ⟨rfl, hw⟩ | ⟨hall, hx⟩
        · rw [if_pos ((hex fun a => oc n (l.set a (mov l)) = mov l).2 hw)]
        · rw [hx, if_neg (show ¬ ∃ a, a < l.length ∧ fre l a = true ∧ oc n (l.set a (mov l)) = mov l from fun h => by
            obtain ⟨j, hj, e⟩ := (hex fun a => oc n (l.set a (mov l)) = mov l).1 h
            exact hall j (by omega) e)]
          have : (∃ b : Nat, (b : Int) < (R.length : Int) ∧ oc n (l.set (R.getD b 0).toNat (mov l)) = 2) ↔ (∃ b : Nat, b < l.length ∧ fre l b = true ∧ oc n (l.set b (mov l)) = 2) := by
            rw [hex fun a => oc n (l.set a (mov l)) = 2]
            constructor
            · rintro ⟨b, u1, u2⟩; exact ⟨b, by omega, u2⟩
            · rintro ⟨b, u1, u2⟩; exact ⟨b, by omega, u2⟩
          simp only [this]
end

section
open Classical
noncomputable def bst (n : Int) (l : List Int) : List Int := fl (fun a => fre l a && decide (oc n (l.set a (mov l)) = oc n l)) l.length
theorem bst_get {n : Int} {l : List Int} {j : Nat} (hj : j < (bst n l).length) : ∃ a : Nat, a < l.length ∧ fre l a = true ∧ oc n (l.set a (mov l)) = oc n l ∧ (bst n l).getD j 0 = (a : Int) := by
  obtain ⟨a, h1, h2, h3⟩ := (fl_mem _ _ _).1 (mem_getD.2 ⟨j, hj, rfl⟩)
  rw [Bool.and_eq_true] at h2
  exact ⟨a, h1, h2.1, of_decide_eq_true h2.2, h3⟩
theorem bst_some {n : Int} {l : List Int} (hs : sh n l) (hp : isPos n l) (hr : ¬ 0 ≤ res n l) : 0 < (bst n l).length := by
  have hm := hp.range
  have key : ∃ a, a < l.length ∧ fre l a = true ∧ oc n (l.set a (mov l)) = oc n l := by
    have hst := oc_step hs hp hr
    unfold pick at hst
    split at hst
    · rename_i h
      obtain ⟨a, h1, h2, h3⟩ := h
      exact ⟨a, h1, h2, by rw [hst]; exact h3⟩
    · rename_i h1
      split at hst
      · rename_i h
        obtain ⟨a, h1, h2, h3⟩ := h
        exact ⟨a, h1, h2, by rw [hst]; exact h3⟩
      · rename_i h2
        obtain ⟨d, hd⟩ := res_open hp hr
        obtain ⟨a, ha, hz⟩ := mem_getD.1 (List.count_pos_iff.1 (show 0 < l.count (-1) by omega))
        have hff : fre l a = true := decide_eq_true (by omega)
        obtain ⟨p1, p2, _⟩ := move_pos hs hp (by omega) ha (by omega)
        refine ⟨a, ha, hff, ?_⟩
        have h3 := oc_one p1 p2
        rw [mov_set ha (free_m hs ha hff) hm] at h3
        have h4 : oc n (l.set a (mov l)) ≠ mov l := fun e => h1 ⟨a, ha, hff, e⟩
        have h5 : oc n (l.set a (mov l)) ≠ 2 := fun e => h2 ⟨a, ha, hff, e⟩
        rw [hst]
        omega
  obtain ⟨a, h1, h2, h3⟩ := key
  exact List.length_pos_iff.2 (List.ne_nil_of_mem ((fl_mem _ _ (a : Int)).2 ⟨a, h1, by rw [h2, decide_eq_true h3]; rfl, rfl⟩))

/-- More than one search takes in. -/
def bigC : Nat := 20000000000
theorem outC {n : Int} {l : List Int} (hs : sh n l) (hp : isPos n l) (k : Nat) (hk : 500 ≤ k) (M : List (MK × Int)) (hG : GO n M) (hB : M.length + bigC ≤ 4611686018427387000) :
    ∃ M', impl_player_outcome k M ⟨n, l⟩ = some (oc n l, M') ∧ GO n M' ∧ M'.length ≤ M.length + bigC := by
  have h := free10 hs
  have hc : cO (l.count (-1)) ≤ bigC := cO_le h
  obtain ⟨M', e, g1, g2⟩ := implOut n _ k l M (by omega) hs hp rfl hG (by omega)
  exact ⟨M', e, g1, by omega⟩
theorem outS {n : Int} {l : List Int} (hs : sh n l) (hp : isPos n l) (k : Nat) (hk : 500 ≤ k) (K : List Int) (hG : GS n K) : ∃ K', spec_l09Outcome k n l K = some (oc n l, K') ∧ GS n K' := by
  have h := free10 hs
  exact specOut n _ k l K (by omega) hs hp rfl hG

theorem implBest {n : Int} {l : List Int} (hs : sh n l) (hp : isPos n l) (hr : ¬ 0 ≤ res n l) (k : Nat) (hk : 500 ≤ k) (M : List (MK × Int)) (hG : GO n M) (hB : M.length + 12 * bigC ≤ 4611686018427387000) :
    ∃ M', impl_player_best k M ⟨n, l⟩ = some (bst n l, M') ∧ GO n M' ∧ M'.length ≤ M.length + 11 * bigC := by
  have h10 := sh10 hs
  have hm := hp.range
  obtain ⟨M1, e1, g1, b1⟩ := outC hs hp k hk M hG (by omega)
  unfold impl_player_best impl_position_movesThat_on_player_best_c1
  rw [e1, Option.bind_some, (result_val hs k (by omega)).1, Option.bind_some, if_neg (by simpa using hr)]
  dsimp only
  have hbig : bigC = 20000000000 := rfl
  have := loopI (f := fun k' i (s : List (MK × Int) × List Int) => impl_position_movesThat_on_player_best_c1_l0 k ⟨n, l⟩ ⟨n, l⟩ (oc n l) k' i s.1 s.2) l.length 0
    (fun i s => i ≤ l.length ∧ GO n s.1 ∧ s.1.length ≤ M1.length + i.toNat * bigC ∧ s.2 = fl (fun a => fre l a && decide (oc n (l.set a (mov l)) = oc n l)) i.toNat)
    (fun s => GO n s.1 ∧ s.1.length ≤ M1.length + 10 * bigC ∧ s.2 = bst n l) ?_ ?_ k 0 (M1, []) (by omega) (by omega) ⟨by omega, g1, by simp, rfl⟩
  · obtain ⟨⟨M2, R⟩, e, f1, f2, f3⟩ := this
    dsimp only at e f1 f2 f3
    subst f3
    exact ⟨M2, by rw [e]; rfl, f1, by omega⟩
  · rintro k' i ⟨M2, R⟩ h0 h1 ⟨q0, q1, q2, q3⟩
    dsimp only at q1 q2 q3
    obtain ⟨a, rfl⟩ := nat_of h0
    have ha : a < l.length := by omega
    rw [Int.toNat_natCast] at q2 q3
    have hmul : a * bigC ≤ 9 * bigC := Nat.mul_le_mul_right _ (by omega)
    have hmul2 : (a + 1) * bigC = a * bigC + bigC := Nat.succ_mul a bigC
    have hta : ((a : Int) + 1).toNat = a + 1 := by omega
    have hfl := fl_length (fun a => fre l a && decide (oc n (l.set a (mov l)) = oc n l)) a
    left
    show ∃ s', impl_position_movesThat_on_player_best_c1_l0 k ⟨n, l⟩ ⟨n, l⟩ (oc n l) (k' + 1) a M2 R = _ ∧ _
    rw [impl_position_movesThat_on_player_best_c1_l0, if_pos (decide_eq_true h1), if_pos ⟨h0, h1⟩, Int.toNat_natCast, w64_succ h0 h1 (by omega)]
    dsimp only
    by_cases hf : l.getD a 0 < 0
    · have hff : fre l a = true := decide_eq_true hf
      obtain ⟨p1, p2, _⟩ := move_pos hs hp (by omega) ha hf
      obtain ⟨M3, e3, g3, b3⟩ := outC p1 p2 k hk M2 q1 (by omega)
      rw [if_pos (decide_eq_true hf)]
      unfold impl_player_best_c1
      rw [(moved_val n l a ha h10 k (by omega)).1, Option.bind_some, e3, Option.bind_some, Option.bind_some, Option.bind_some]
      dsimp only
      refine ⟨(M3, fl (fun a => fre l a && decide (oc n (l.set a (mov l)) = oc n l)) (a + 1)), ?_, by omega, g3, by rw [hta]; dsimp only; omega, by rw [hta]⟩
      rw [fl_succ, hff, Bool.true_and, q3]
      dsimp only
      by_cases hw : oc n (l.set a (mov l)) = oc n l
      · rw [if_pos (decide_eq_true hw), if_pos (decide_eq_true hw), if_pos (by simp only [List.length_singleton]; omega), Option.bind_some]
      · rw [if_neg (by simpa using hw), if_neg (by simpa using hw), Option.bind_some]
    · have hff : fre l a = false := decide_eq_false hf
      rw [if_neg (by simpa using hf), Option.bind_some]
      refine ⟨(M2, R), rfl, by omega, q1, by rw [hta]; dsimp only; omega, ?_⟩
      rw [hta, fl_succ, hff, Bool.false_and, if_neg (by simp)]
      exact q3
  · rintro k' i ⟨M2, R⟩ h0 h1 ⟨q0, q1, q2, q3⟩
    dsimp only at q1 q2 q3
    have hi : i = l.length := by omega
    subst hi
    rw [Int.toNat_natCast] at q2 q3
    have hmul : l.length * bigC ≤ 10 * bigC := Nat.mul_le_mul_right _ h10
    refine ⟨(M2, R), ?_, q1, by dsimp only; omega, q3⟩
    show impl_position_movesThat_on_player_best_c1_l0 k ⟨n, l⟩ ⟨n, l⟩ (oc n l) (k' + 1) l.length M2 R = _
    rw [impl_position_movesThat_on_player_best_c1_l0, if_neg (by simp only [decide_eq_true_eq]; omega)]

theorem take_next {R : List Int} {j : Nat} (h : j < R.length) : R.take (j + 1) = R.take j ++ [R.getD j 0] := by
  rw [List.take_add_one, List.getElem?_eq_getElem h, gD h]; rfl
theorem specBest {n : Int} {l : List Int} (hs : sh n l) (hp : isPos n l) (hr : ¬ 0 ≤ res n l) (k : Nat) (hk : 500 ≤ k) (K : List Int) (hG : GS n K) :
    ∃ K', spec_l09Best k n l K = some (bst n l, K') ∧ GS n K' := by
  have h10 := sh10 hs
  have hm := hp.range
  obtain ⟨K1, e1, g1⟩ := outS hs hp k hk K hG
  unfold spec_l09Best
  rw [e1, Option.bind_some, free_val l k (by omega) (by omega), Option.bind_some]
  have hfin : (fl (fre l) l.length).filter (fun z => decide (oc n (l.set z.toNat (mov l)) = oc n l)) = bst n l := by
    rw [fl_filter]
    exact fl_congr _ _ _ fun a _ => by rw [Int.toNat_natCast]
  have hRl := fl_length (fre l) l.length
  have hget := fun j => @fl_get l j
  rw [← hfin]
  generalize fl (fre l) l.length = R at *
  have := loopI (f := fun k' i (s : List Int × List Int) => spec_l09Best_l0 k n l (oc n l, K1) R k' i s.1 s.2) R.length 0
    (fun i s => i ≤ R.length ∧ GS n s.1 ∧ s.2 = (R.take i.toNat).filter (fun z => decide (oc n (l.set z.toNat (mov l)) = oc n l)))
    (fun s => GS n s.1 ∧ s.2 = R.filter (fun z => decide (oc n (l.set z.toNat (mov l)) = oc n l))) ?_ ?_ k 0 (K1, []) (by omega) (by omega) ⟨by omega, g1, rfl⟩
  · obtain ⟨⟨K2, S⟩, e, f1, f2⟩ := this
    dsimp only at e f1 f2
    subst f2
    exact ⟨K2, by rw [e]; rfl, f1⟩
  · rintro k' i ⟨K2, S⟩ h0 h1 ⟨q0, q1, q3⟩
    dsimp only at q1 q3
    obtain ⟨j, rfl⟩ := nat_of h0
    have hj : j < R.length := by omega
    rw [Int.toNat_natCast] at q3
    have hta : ((j : Int) + 1).toNat = j + 1 := by omega
    obtain ⟨a, ha, hff, ea⟩ := hget j hj
    obtain ⟨p1, p2, _⟩ := move_pos hs hp (by omega) ha (of_decide_eq_true hff)
    obtain ⟨K3, e3, g3⟩ := outS p1 p2 k hk K2 q1
    have hSl : S.length ≤ 10 := by
      rw [q3]
      refine Nat.le_trans (List.length_filter_le _ _) ?_
      rw [List.length_take]; omega
    left
    show ∃ s', spec_l09Best_l0 k n l (oc n l, K1) R (k' + 1) j K2 S = _ ∧ _
    rw [spec_l09Best_l0, if_pos (decide_eq_true h1), if_pos ⟨h0, h1⟩, Int.toNat_natCast, w64_succ h0 h1 (by omega), ea, (moved_val n l a ha h10 k (by omega)).2, Option.bind_some, e3, Option.bind_some]
    dsimp only
    refine ⟨(K3, (R.take (j + 1)).filter (fun z => decide (oc n (l.set z.toNat (mov l)) = oc n l))), ?_, by omega, g3, by rw [hta]⟩
    rw [take_next hj, List.filter_append, ← q3, ea]
    dsimp only
    by_cases hw : oc n (l.set a (mov l)) = oc n l
    · rw [if_pos (decide_eq_true hw), if_pos ⟨h0, h1⟩, if_pos (by simp only [List.length_singleton]; omega), Option.bind_some]
      rw [show List.filter (fun z : Int => decide (oc n (l.set z.toNat (mov l)) = oc n l)) [(a : Int)] = [(a : Int)] by
        rw [List.filter_cons, if_pos (by rw [Int.toNat_natCast]; exact decide_eq_true hw)]; rfl]
    · rw [if_neg (by simpa using hw), Option.bind_some]
      rw [show List.filter (fun z : Int => decide (oc n (l.set z.toNat (mov l)) = oc n l)) [(a : Int)] = [] by
        rw [List.filter_cons, if_neg (by rw [Int.toNat_natCast]; simpa using hw)]; rfl, List.append_nil]
  · rintro k' i ⟨K2, S⟩ h0 h1 ⟨q0, q1, q3⟩
    dsimp only at q1 q3
    have hi : i = R.length := by omega
    subst hi
    rw [Int.toNat_natCast, List.take_length] at q3
    refine ⟨(K2, S), ?_, q1, q3⟩
    show spec_l09Best_l0 k n l (oc n l, K1) R (k' + 1) R.length K2 S = _
    rw [spec_l09Best_l0, if_neg (by simp only [decide_eq_true_eq]; omega)]

/-! ### Games that are played out -/
noncomputable def PO (n : Int) : Nat → List Int → List Int
  | 0, _ => []
  | d + 1, l => if 0 ≤ res n l then [] else (bst n l).getD 0 0 :: PO n d (l.set ((bst n l).getD 0 0).toNat (mov l))
noncomputable def po (n : Int) (l : List Int) : List Int := PO n (l.count (-1)) l
theorem PO_length (n : Int) : ∀ (d : Nat) (l : List Int), (PO n d l).length ≤ d
  | 0, _ => Nat.le_refl _
  | d + 1, l => by
    rw [PO]
    split
    · exact Nat.zero_le _
    · rw [List.length_cons]
      have := PO_length n d (l.set ((bst n l).getD 0 0).toNat (mov l))
      omega
theorem PO_over {n : Int} {l : List Int} (hr : 0 ≤ res n l) (d : Nat) : PO n d l = [] := by
  cases d with
  | zero => rfl
  | succ d => rw [PO, if_pos hr]

theorem implPlay (n : Int) (k : Nat) (hk : 500 ≤ k) : ∀ (d k' : Nat) (l : List Int) (M : List (MK × Int)) (out : List Int), d < k' → sh n l → isPos n l → l.count (-1) = d → GO n M → M.length + (d + 1) * (12 * bigC) ≤ 4611686018427387000 → out.length + d ≤ 1000 →
    impl_PlayOut_l0 k k' ⟨n, l⟩ M out = some (out ++ PO n d l) := by
  intro d
  induction d with
  | zero =>
    intro k' l M out hk' hs hp hd hG hB ho
    obtain ⟨k', rfl⟩ : ∃ q, k' = q + 1 := ⟨k' - 1, by omega⟩
    have hr : 0 ≤ res n l := Classical.byContradiction fun h => by
      obtain ⟨d, h2⟩ := res_open hp h
      omega
    rw [impl_PlayOut_l0, (result_val hs k (by omega)).1, Option.bind_some, if_neg (by simp only [decide_eq_true_eq]; omega), PO_over hr, List.append_nil]
  | succ d ih =>
    intro k' l M out hk' hs hp hd hG hB ho
    obtain ⟨k', rfl⟩ : ∃ q, k' = q + 1 := ⟨k' - 1, by omega⟩
    rw [impl_PlayOut_l0, (result_val hs k (by omega)).1, Option.bind_some]
    by_cases hr : 0 ≤ res n l
    · rw [if_neg (by simp only [decide_eq_true_eq]; omega), PO_over hr, List.append_nil]
    have h10 := sh10 hs
    have hmul : (d + 1 + 1) * (12 * bigC) = (d + 1) * (12 * bigC) + 12 * bigC := Nat.succ_mul _ _
    obtain ⟨M1, e1, g1, b1⟩ := implBest hs hp hr k hk M hG (by omega)
    have hb := bst_some hs hp hr
    obtain ⟨a, ha, hff, hoc, ea⟩ := bst_get hb
    have hcm := count_move hs hp ha hff
    obtain ⟨p1, p2, _⟩ := move_pos hs hp (by omega) ha (of_decide_eq_true hff)
    rw [if_pos (decide_eq_true (by omega)), e1, Option.bind_some]
    dsimp only
    rw [if_pos ⟨by omega, by omega⟩, show ((0 : Int)).toNat = 0 from rfl, ea, if_pos (by simp only [List.length_singleton]; omega), (moved_val n l a ha h10 k (by omega)).1, Option.bind_some]
    rw [ih k' (l.set a (mov l)) M1 (out ++ [(a : Int)]) (by omega) p1 p2 (by omega) g1 (by omega) (by simp only [List.length_append, List.length_singleton]; omega), PO, if_neg hr, ea, Int.toNat_natCast, List.append_assoc]
    rfl

theorem specPlay (n : Int) (k : Nat) (hk : 500 ≤ k) : ∀ (d k' : Nat) (l K out : List Int), d < k' → sh n l → isPos n l → l.count (-1) = d → GS n K → out.length + d ≤ 1000 →
    spec_PlayOut_l0 k n k' l K out = some (out ++ PO n d l) := by
  intro d
  induction d with
  | zero =>
    intro k' l K out hk' hs hp hd hG ho
    obtain ⟨k', rfl⟩ : ∃ q, k' = q + 1 := ⟨k' - 1, by omega⟩
    have hr : 0 ≤ res n l := Classical.byContradiction fun h => by
      obtain ⟨d, h2⟩ := res_open hp h
      omega
    rw [spec_PlayOut_l0, (result_val hs k (by omega)).2, Option.bind_some, if_neg (by simp only [decide_eq_true_eq]; omega), PO_over hr, List.append_nil]
  | succ d ih =>
    intro k' l K out hk' hs hp hd hG ho
    obtain ⟨k', rfl⟩ : ∃ q, k' = q + 1 := ⟨k' - 1, by omega⟩
    rw [spec_PlayOut_l0, (result_val hs k (by omega)).2, Option.bind_some]
    by_cases hr : 0 ≤ res n l
    · rw [if_neg (by simp only [decide_eq_true_eq]; omega), PO_over hr, List.append_nil]
    have h10 := sh10 hs
    obtain ⟨K1, e1, g1⟩ := specBest hs hp hr k hk K hG
    have hb := bst_some hs hp hr
    obtain ⟨a, ha, hff, hoc, ea⟩ := bst_get hb
    have hcm := count_move hs hp ha hff
    obtain ⟨p1, p2, _⟩ := move_pos hs hp (by omega) ha (of_decide_eq_true hff)
    rw [if_pos (decide_eq_true (by omega)), e1, Option.bind_some]
    dsimp only
    rw [if_pos ⟨by omega, by omega⟩, show ((0 : Int)).toNat = 0 from rfl, ea, if_pos (by simp only [List.length_singleton]; omega), (moved_val n l a ha h10 k (by omega)).2, Option.bind_some]
    rw [ih k' (l.set a (mov l)) K1 (out ++ [(a : Int)]) (by omega) p1 p2 (by omega) g1 (by simp only [List.length_append, List.length_singleton]; omega), PO, if_neg hr, ea, Int.toNat_natCast, List.append_assoc]
    rfl

/-! ### The functions -/
noncomputable def outV (n : Int) (l : List Int) : Int := if cod n l = 0 then oc n l else 0
noncomputable def playV (n : Int) (l : List Int) : Option (List Int) := if cod n l = 0 then some (po n l) else none
noncomputable def bestV (n : Int) (l : List Int) : Option (List Int) := if cod n l = 0 ∧ ¬ 0 ≤ res n l then some (bst n l) else none
noncomputable def bestE (n : Int) (l : List Int) : Int := if cod n l = 0 ∧ 0 ≤ res n l then 5 else cod n l

theorem outcomeI (n : Int) (l : List Int) (k : Nat) (hk : 60000 ≤ k) (hl : l.length ≤ 100) : impl_OutcomeOf k n l = some (outV n l, cod n l) := by
  unfold impl_OutcomeOf outV impl_always
  rw [implCode_val n l true k (by omega) hl, Option.bind_some, if_pos rfl]
  by_cases hc : cod n l = 0
  · obtain ⟨hs, hp⟩ := cod_zero hc
    obtain ⟨M, e, _, _⟩ := outC hs hp k (by omega) [] (GO_nil n) (by decide)
    rw [if_neg (by simp [hc]), e, Option.bind_some, if_pos hc, hc]
  · rw [if_pos (by simp [hc]), if_neg hc]
theorem outcomeS (n : Int) (l : List Int) (k : Nat) (hk : 60000 ≤ k) (hl : l.length ≤ 100) : spec_OutcomeOf k n l = some (outV n l, cod n l) := by
  unfold spec_OutcomeOf outV
  rw [specCode_val n l k (by omega) hl, Option.bind_some]
  by_cases hc : cod n l = 0
  · obtain ⟨hs, hp⟩ := cod_zero hc
    obtain ⟨K, e0, g0⟩ := table9_val n hs.1 k hk
    obtain ⟨K1, e, _⟩ := outS hs hp k (by omega) K g0
    rw [if_neg (by simp [hc]), e0, Option.bind_some, e, Option.bind_some, if_pos hc, hc]
  · rw [if_pos (by simp [hc]), if_neg hc]
theorem playI (n : Int) (l : List Int) (k : Nat) (hk : 60000 ≤ k) (hl : l.length ≤ 100) : impl_PlayOut k n l = some (playV n l, cod n l) := by
  unfold impl_PlayOut playV impl_always
  rw [implCode_val n l true k (by omega) hl, Option.bind_some, if_pos rfl]
  by_cases hc : cod n l = 0
  · obtain ⟨hs, hp⟩ := cod_zero hc
    have h := free10 hs
    have hbig : bigC = 20000000000 := rfl
    have hmul : (l.count (-1) + 1) * (12 * bigC) ≤ 11 * (12 * bigC) := Nat.mul_le_mul_right _ (by omega)
    rw [if_neg (by simp [hc]), implPlay n k (by omega) _ k l [] [] (by omega) hs hp rfl (GO_nil n) (by simp only [List.length_nil]; omega) (by simp only [List.length_nil]; omega), Option.bind_some, if_pos hc, hc]
    rfl
  · rw [if_pos (by simp [hc]), if_neg hc]
theorem playS (n : Int) (l : List Int) (k : Nat) (hk : 60000 ≤ k) (hl : l.length ≤ 100) : spec_PlayOut k n l = some ((playV n l).getD [], cod n l) := by
  unfold spec_PlayOut playV
  rw [specCode_val n l k (by omega) hl, Option.bind_some]
  by_cases hc : cod n l = 0
  · obtain ⟨hs, hp⟩ := cod_zero hc
    have h := free10 hs
    obtain ⟨K, e0, g0⟩ := table9_val n hs.1 k hk
    rw [if_neg (by simp [hc]), e0, Option.bind_some, specPlay n k (by omega) _ k l K [] (by omega) hs hp rfl g0 (by simp only [List.length_nil]; omega), Option.bind_some, if_pos hc, hc]
    rfl
  · rw [if_pos (by simp [hc]), if_neg hc]; rfl
theorem bestI (n : Int) (l : List Int) (k : Nat) (hk : 60000 ≤ k) (hl : l.length ≤ 100) : impl_BestMoves k n l = some (bestV n l, bestE n l) := by
  unfold impl_BestMoves bestV bestE impl_always
  rw [implCode_val n l true k (by omega) hl, Option.bind_some, if_pos rfl]
  by_cases hc : cod n l = 0
  · obtain ⟨hs, hp⟩ := cod_zero hc
    rw [if_pos (decide_eq_true hc), (result_val hs k (by omega)).1, Option.bind_some, Option.bind_some]
    by_cases hr : 0 ≤ res n l
    · rw [if_pos (decide_eq_true hr), Option.bind_some, if_pos (by decide), if_neg (fun h => h.2 hr), if_pos ⟨hc, hr⟩]
    · obtain ⟨M, e, _, _⟩ := implBest hs hp hr k (by omega) [] (GO_nil n) (by decide)
      rw [if_neg (by simpa using hr), Option.bind_some, if_neg (by simp [hc]), e, Option.bind_some, if_pos ⟨hc, hr⟩, if_neg (fun h => hr h.2), hc]
  · rw [if_neg (by simpa using hc), Option.bind_some, if_neg (by simp), Option.bind_some, if_pos (by simp [hc]), if_neg (fun h => hc h.1), if_neg (fun h => hc h.1)]
theorem bestS (n : Int) (l : List Int) (k : Nat) (hk : 60000 ≤ k) (hl : l.length ≤ 100) : spec_BestMoves k n l = some ((bestV n l).getD [], bestE n l) := by
  unfold spec_BestMoves bestV bestE
  rw [specCode_val n l k (by omega) hl, Option.bind_some]
  by_cases hc : cod n l = 0
  · obtain ⟨hs, hp⟩ := cod_zero hc
    rw [if_neg (by simp [hc]), (result_val hs k (by omega)).2, Option.bind_some]
    by_cases hr : 0 ≤ res n l
    · rw [if_pos (decide_eq_true hr), if_neg (fun h => h.2 hr), if_pos ⟨hc, hr⟩]; rfl
    · obtain ⟨K, e0, g0⟩ := table9_val n hs.1 k hk
      obtain ⟨K1, e, _⟩ := specBest hs hp hr k (by omega) K g0
      rw [if_neg (by simpa using hr), e0, Option.bind_some, e, Option.bind_some, if_pos ⟨hc, hr⟩, if_neg (fun h => hr h.2), hc]; rfl
  · rw [if_pos (by simp [hc]), if_neg (fun h => hc h.1), if_neg (fun h => hc h.1)]; rfl
end

/-- One list comes from the other one by renumbering points. -/
def IsoF (n : Nat) (f : Nat → Nat) (l r : List Int) : Prop := (∀ x, x < n → f x < n) ∧ (∀ x y, x < n → y < n → f x = f y → x = y) ∧ ∀ x y, x ≠ y → x < n → y < n → r.getD (eN (f x) (f y)) 0 = l.getD (eN x y) 0
def Iso (n : Nat) (l r : List Int) : Prop := ∃ f, IsoF n f l r
def ordF (n : Nat) (f : Nat → Nat) : List Int := (List.range n).map fun x => (f x : Int)
theorem ordF_length (n : Nat) (f : Nat → Nat) : (ordF n f).length = n := by simp [ordF]
theorem ordF_get {n x : Nat} (f : Nat → Nat) (h : x < n) : (ordF n f).getD x 0 = (f x : Int) := by simp [ordF, List.getD, h]
theorem ordF_pt {n x : Nat} (f : Nat → Nat) (h : x < n) : pt (ordF n f) x = f x := by unfold pt; rw [ordF_get f h, Int.toNat_natCast]
theorem ordF_ok {n : Nat} {f : Nat → Nat} (h1 : ∀ x, x < n → f x < n) (h2 : ∀ x y, x < n → y < n → f x = f y → x = y) : isOrd (ordF n f) n := by
  refine ⟨by rw [ordF_length], fun a ha => ?_, fun a b hab hb e => ?_⟩
  · rw [ordF_length] at ha
    rw [ordF_get f ha]
    have := h1 a ha
    omega
  · rw [ordF_length] at hb
    rw [ordF_get f (by omega), ordF_get f hb] at e
    have := h2 a b (by omega) hb (by omega)
    omega
theorem fun_onto {n : Nat} {f : Nat → Nat} (h1 : ∀ x, x < n → f x < n) (h2 : ∀ x y, x < n → y < n → f x = f y → x = y) {y : Nat} (hy : y < n) : ∃ x, x < n ∧ f x = y := by
  obtain ⟨x, hx, e⟩ := ord_onto (ordF_ok h1 h2) hy
  exact ⟨x, hx, by rw [← ordF_pt f hx]; exact e⟩
theorem Iso.refl (n : Nat) (l : List Int) : Iso n l l := ⟨id, fun x h => h, fun x y _ _ h => h, fun x y _ _ _ => rfl⟩
theorem Iso.symm {n : Nat} {l r : List Int} (h : Iso n l r) : Iso n r l := by
  obtain ⟨f, h1, h2, h3⟩ := h
  have hex : ∀ y, ∃ x, y < n → x < n ∧ f x = y := fun y => by
    by_cases hy : y < n
    · obtain ⟨x, hx⟩ := fun_onto h1 h2 hy
      exact ⟨x, fun _ => hx⟩
    · exact ⟨0, fun h => absurd h hy⟩
  obtain ⟨g, hg⟩ := Classical.axiomOfChoice hex
  refine ⟨g, fun y hy => (hg y hy).1, fun y z hy hz e => by rw [← (hg y hy).2, e, (hg z hz).2], fun y z hne hy hz => ?_⟩
  have := h3 (g y) (g z) (fun e => hne (by rw [← (hg y hy).2, e, (hg z hz).2])) (hg y hy).1 (hg z hz).1
  rw [(hg y hy).2, (hg z hz).2] at this
  exact this.symm
theorem Iso.trans {n : Nat} {l r s : List Int} (h : Iso n l r) (h' : Iso n r s) : Iso n l s := by
  obtain ⟨f, f1, f2, f3⟩ := h
  obtain ⟨g, g1, g2, g3⟩ := h'
  refine ⟨fun x => g (f x), fun x hx => g1 _ (f1 x hx), fun x y hx hy e => f2 x y hx hy (g2 _ _ (f1 x hx) (f1 y hy) e), fun x y hne hx hy => ?_⟩
  rw [g3 (f x) (f y) (fun e => hne (f2 x y hx hy e)) (f1 x hx) (f1 y hy)]
  exact f3 x y hne hx hy
theorem Ren.iso {n : Nat} {l p r : List Int} (ho : isOrd p n) (h : Ren n l p r) : Iso n l r := by
  refine ⟨pt p, fun x hx => (pt_lt ho hx).1, fun x y hx hy e => Classical.byContradiction fun hne => pt_ne ho hx hy hne e, fun x y hne hx hy => ?_⟩
  by_cases hxy : x < y
  · exact h.2 x y hxy hy
  · rw [eN_comm (pt p x), eN_comm x]
    exact h.2 y x (by omega) hx
theorem Iso.ren {n : Nat} {l r : List Int} (h : Iso n l r) (hl : r.length = l.length) : ∃ p, isOrd p n ∧ Ren n l p r := by
  obtain ⟨f, f1, f2, f3⟩ := h
  refine ⟨ordF n f, ordF_ok f1 f2, hl, fun i j hij hj => ?_⟩
  rw [ordF_pt f (by omega), ordF_pt f hj]
  exact f3 i j (by omega) (by omega) hj

/-! ### Counts -/
theorem ord_perm {q : List Int} {N : Nat} (h : isOrd q N) : q.Perm ((List.range N).map fun a : Nat => (a : Int)) := by
  have hl : q.length = N := by have := h.1; omega
  have h2 := (order_iff q).2 ⟨fun a ha => by rw [hl]; exact h.2.1 a ha, h.2.2⟩
  have : sorted q = (List.range N).map fun a : Nat => (a : Int) := by
    refine List.ext_getElem (by rw [sorted_length]; simp [hl]) fun i h3 h4 => ?_
    have := h2 i (by rw [sorted_length] at h3; exact h3)
    rw [gD h3] at this
    rw [this]; simp
  rw [← this]
  exact (List.mergeSort_perm q _).symm
theorem map_get (l : List Int) : (List.range l.length).map (fun a => l.getD a 0) = l := by
  refine List.ext_getElem (by simp) fun i h1 h2 => ?_
  simp only [List.getElem_map, List.getElem_range]
  exact gD h2
theorem edge_map {n : Nat} (hn : n ≤ 17) (f : Nat → Nat) : ∃ s : Nat → Nat, ∀ i j, i < j → j < n → s (eN i j) = eN (f i) (f j) := by
  have hex : ∀ a, ∃ b, ∀ i j, i < j → j < n → a = eN i j → b = eN (f i) (f j) := fun a => by
    by_cases h : ∃ i j, i < j ∧ j < n ∧ a = eN i j
    · obtain ⟨i, j, h1, h2, rfl⟩ := h
      refine ⟨eN (f i) (f j), fun i' j' h3 h4 e => ?_⟩
      obtain ⟨rfl, rfl⟩ := eN_inj h1 (by omega) h3 (by omega) e
      rfl
    · exact ⟨0, fun i j h1 h2 e => absurd ⟨i, j, h1, h2, e⟩ h⟩
  obtain ⟨s, hs⟩ := Classical.axiomOfChoice hex
  exact ⟨s, fun i j h1 h2 => hs (eN i j) i j h1 h2 rfl⟩
theorem eN_lt' {x y n : Nat} (h : x ≠ y) (hx : x < n) (hy : y < n) (hn : n ≤ 17) : eN x y < tri n := by
  by_cases hxy : x < y
  · exact eN_lt hxy hy hn
  · rw [eN_comm]; exact eN_lt (by omega) hx hn
theorem Iso.perm {n : Nat} {l r : List Int} (hn : n ≤ 17) (hl : l.length = tri n) (hr : r.length = tri n) (h : Iso n l r) : l.Perm r := by
  obtain ⟨f, f1, f2, f3⟩ := h
  obtain ⟨s, hs⟩ := edge_map hn f
  have hne : ∀ {i j}, i < j → j < n → f i ≠ f j := fun {i j} h1 h2 e => by
    have := f2 i j (by omega) h2 e
    omega
  have ho : isOrd ((List.range (tri n)).map fun a : Nat => (s a : Int)) (tri n : Int) := by
    have hg : ∀ a, a < tri n → ((List.range (tri n)).map fun a : Nat => (s a : Int)).getD a 0 = (s a : Int) := fun a ha => by simp [List.getD, ha]
    refine ⟨by simp, fun a ha => ?_, fun a b hab hb e => ?_⟩
    · simp only [List.length_map, List.length_range] at ha
      rw [hg a ha]
      obtain ⟨j, hj, i, hij, rfl⟩ := eN_surj hn ha
      rw [hs i j hij hj]
      have := eN_lt' (hne hij hj) (f1 i (by omega)) (f1 j hj) hn
      omega
    · simp only [List.length_map, List.length_range] at hb
      rw [hg a (by omega), hg b hb] at e
      obtain ⟨j, hj, i, hij, rfl⟩ := eN_surj hn (show a < tri n by omega)
      obtain ⟨j', hj', i', hij', rfl⟩ := eN_surj hn hb
      rw [hs i j hij hj, hs i' j' hij' hj'] at e
      have b1 := f1 i (by omega)
      have b2 := f1 j hj
      have b3 := f1 i' (by omega)
      have b4 := f1 j' hj'
      rcases eN_inj' (hne hij hj) (hne hij' hj') (by omega) (by omega) (by omega) (by omega) (show eN (f i) (f j) = eN (f i') (f j') by omega) with ⟨u, v⟩ | ⟨u, v⟩
      · have := f2 _ _ (by omega) (by omega) u
        have := f2 _ _ hj hj' v
        subst_vars; omega
      · have := f2 _ _ (by omega) hj' u
        have := f2 _ _ hj (by omega) v
        omega
  have h1 := (ord_perm ho).map (fun z : Int => r.getD z.toNat 0)
  have e1 : ((List.range (tri n)).map fun a : Nat => (s a : Int)).map (fun z : Int => r.getD z.toNat 0) = l := by
    rw [List.map_map, ← map_get l, hl]
    refine List.map_congr_left fun a ha => ?_
    rw [List.mem_range] at ha
    obtain ⟨j, hj, i, hij, rfl⟩ := eN_surj hn ha
    show r.getD ((s (eN i j) : Int)).toNat 0 = _
    rw [Int.toNat_natCast, hs i j hij hj]
    exact f3 i j (by omega) (by omega) hj
  have e2 : ((List.range (tri n)).map fun a : Nat => (a : Int)).map (fun z : Int => r.getD z.toNat 0) = r := by
    rw [List.map_map]
    conv => rhs; rw [← map_get r, hr]
    refine List.map_congr_left fun a ha => ?_
    show r.getD ((a : Int)).toNat 0 = _
    rw [Int.toNat_natCast]
  rw [e1, e2] at h1
  exact h1
theorem Iso.sh {n : Int} {l r : List Int} (hs : sh n l) (h : Iso n.toNat l r) (hr : r.length = l.length) : sh n r := by
  refine ⟨hs.1, by rw [hr]; exact hs.2.1, fun a ha => ?_⟩
  have hn := hs.1
  have hp := h.perm (by omega) hs.2.1 (by rw [hr]; exact hs.2.1)
  obtain ⟨b, hb, e⟩ := mem_getD.1 (hp.mem_iff.2 (mem_getD.2 ⟨a, ha, rfl⟩))
  rw [← e]; exact hs.2.2 b hb
theorem Iso.count {n : Int} {l r : List Int} (hs : Go.Proofs.YtghhnpdhehjlaaaGreat.sh n l) (hs' : Go.Proofs.YtghhnpdhehjlaaaGreat.sh n r) (h : Iso n.toNat l r) (z : Int) : l.count z = r.count z := by
  have hn := hs.1
  exact (h.perm (by omega) hs.2.1 hs'.2.1).count_eq z
theorem Iso.mov {n : Int} {l r : List Int} (hs : Go.Proofs.YtghhnpdhehjlaaaGreat.sh n l) (hs' : Go.Proofs.YtghhnpdhehjlaaaGreat.sh n r) (h : Iso n.toNat l r) : mov l = mov r := by
  unfold Go.Proofs.YtghhnpdhehjlaaaGreat.mov
  rw [h.count hs hs', h.count hs hs']

/-! ### Triangles -/
theorem sort3 {P : Nat → Nat → Nat → Prop} (s1 : ∀ x y z, P x y z → P y x z) (s2 : ∀ x y z, P x y z → P x z y) {x y z : Nat} (h1 : x ≠ y) (h2 : x ≠ z) (h3 : y ≠ z) (h : P x y z) : ∃ i j m, i < j ∧ j < m ∧ P i j m := by
  by_cases a : x < y
  · by_cases b : y < z
    · exact ⟨x, y, z, a, b, h⟩
    · by_cases c : x < z
      · exact ⟨x, z, y, c, by omega, s2 _ _ _ h⟩
      · exact ⟨z, x, y, by omega, a, s1 _ _ _ (s2 _ _ _ h)⟩
  · by_cases b : x < z
    · exact ⟨y, x, z, by omega, b, s1 _ _ _ h⟩
    · by_cases c : y < z
      · exact ⟨y, z, x, c, by omega, s2 _ _ _ (s1 _ _ _ h)⟩
      · exact ⟨z, y, x, by omega, by omega, s1 _ _ _ (s2 _ _ _ (s1 _ _ _ h))⟩
theorem hasT_s1 {l : List Int} {who : Int} {x y z : Nat} (h : hasT l who x y z) : hasT l who y x z := ⟨by rw [eN_comm]; exact h.1, h.2.2, h.2.1⟩
theorem hasT_s2 {l : List Int} {who : Int} {x y z : Nat} (h : hasT l who x y z) : hasT l who x z y := ⟨h.2.1, h.1, by rw [eN_comm]; exact h.2.2⟩
theorem tri3_s1 {e : Int} {x y z : Nat} : e ∈ tri3 x y z ↔ e ∈ tri3 y x z := by
  unfold tri3
  simp only [List.mem_cons, List.not_mem_nil, or_false]
  rw [eN_comm x y]
  constructor <;> rintro (h | h | h) <;> simp [h]
theorem tri3_s2 {e : Int} {x y z : Nat} : e ∈ tri3 x y z ↔ e ∈ tri3 x z y := by
  unfold tri3
  simp only [List.mem_cons, List.not_mem_nil, or_false]
  rw [eN_comm y z]
  constructor <;> rintro (h | h | h) <;> simp [h]
theorem hasT_iso {n : Nat} {f : Nat → Nat} {l r : List Int} (h : IsoF n f l r) {who : Int} {x y z : Nat} (h1 : x ≠ y) (h2 : x ≠ z) (h3 : y ≠ z) (hx : x < n) (hy : y < n) (hz : z < n) : hasT r who (f x) (f y) (f z) ↔ hasT l who x y z := by
  unfold hasT
  rw [h.2.2 x y h1 hx hy, h.2.2 x z h2 hx hz, h.2.2 y z h3 hy hz]
theorem anyT_fw {n : Int} {l r : List Int} (h : Iso n.toNat l r) {who : Int} (ha : anyT n l who) : anyT n r who := by
  obtain ⟨f, hf⟩ := h
  obtain ⟨i, j, m, hp, ht⟩ := ha
  obtain ⟨a, b, c⟩ := prc_all.1 hp
  have h2 := (hasT_iso hf (who := who) (show i ≠ j by omega) (show i ≠ m by omega) (show j ≠ m by omega) (by omega) (by omega) c).2 ht
  have b1 := hf.1 i (by omega)
  have b2 := hf.1 j (by omega)
  have b3 := hf.1 m c
  obtain ⟨i', j', m', g1, g2, g3, g4, g5, g6⟩ := sort3 (P := fun x y z => hasT r who x y z ∧ x < n.toNat ∧ y < n.toNat ∧ z < n.toNat) (fun x y z h => ⟨hasT_s1 h.1, h.2.2.1, h.2.1, h.2.2.2⟩) (fun x y z h => ⟨hasT_s2 h.1, h.2.1, h.2.2.2, h.2.2.1⟩)
    (fun e => by have := hf.2.1 _ _ (by omega) (by omega) e; omega) (fun e => by have := hf.2.1 _ _ (by omega) (by omega) e; omega) (fun e => by have := hf.2.1 _ _ (by omega) (by omega) e; omega) ⟨h2, b1, b2, b3⟩
  exact ⟨i', j', m', prc_all.2 ⟨g1, g2, g6⟩, g3⟩
theorem anyT_iff {n : Int} {l r : List Int} (h : Iso n.toNat l r) {who : Int} : anyT n l who ↔ anyT n r who := ⟨anyT_fw h, anyT_fw h.symm⟩
theorem comT_fw {n : Int} {l r : List Int} (hs : sh n l) (hs' : sh n r) (h : Iso n.toNat l r) {who : Int} (hc : comT n l who) : comT n r who := by
  obtain ⟨f, hf⟩ := h
  obtain ⟨e, he, hall⟩ := hc
  have hn := hs.1
  rw [hs.2.1] at he
  obtain ⟨v, hv, u, huv, rfl⟩ := eN_surj (by omega) he
  have hu : u < n.toNat := by omega
  have fne : ∀ {x y}, x < n.toNat → y < n.toNat → x ≠ y → f x ≠ f y := fun hx hy hxy e => hxy (hf.2.1 _ _ hx hy e)
  refine ⟨eN (f u) (f v), by rw [hs'.2.1]; exact eN_lt' (fne hu hv (by omega)) (hf.1 u hu) (hf.1 v hv) (by omega), fun i j m hp ht => ?_⟩
  obtain ⟨a, b, c⟩ := prc_all.1 hp
  obtain ⟨x, hx, rfl⟩ := fun_onto hf.1 hf.2.1 (show i < n.toNat by omega)
  obtain ⟨y, hy, rfl⟩ := fun_onto hf.1 hf.2.1 (show j < n.toNat by omega)
  obtain ⟨z, hz, rfl⟩ := fun_onto hf.1 hf.2.1 c
  have n1 : x ≠ y := fun e => by rw [e] at a; omega
  have n2 : x ≠ z := fun e => by rw [e] at a; omega
  have n3 : y ≠ z := fun e => by rw [e] at b; omega
  have htl := (hasT_iso hf n1 n2 n3 hx hy hz).1 ht
  have hmem : ((eN u v : Nat) : Int) ∈ tri3 x y z := Classical.byContradiction fun hno => by
    obtain ⟨i', j', m', g1, g2, g3, g4, g5, g6, g7⟩ := sort3 (P := fun x y z => hasT l who x y z ∧ x < n.toNat ∧ y < n.toNat ∧ z < n.toNat ∧ ((eN u v : Nat) : Int) ∉ tri3 x y z)
      (fun x y z h => ⟨hasT_s1 h.1, h.2.2.1, h.2.1, h.2.2.2.1, fun q => h.2.2.2.2 (tri3_s1.2 q)⟩) (fun x y z h => ⟨hasT_s2 h.1, h.2.1, h.2.2.2.1, h.2.2.1, fun q => h.2.2.2.2 (tri3_s2.2 q)⟩) n1 n2 n3 ⟨htl, hx, hy, hz, hno⟩
    exact g7 (hall i' j' m' (prc_all.2 ⟨g1, g2, g6⟩) g3)
  have key : ∀ {s t}, s < n.toNat → t < n.toNat → s ≠ t → eN u v = eN s t → eN (f u) (f v) = eN (f s) (f t) := fun {s t} h1 h2 h3 h4 => by
    rcases eN_inj' (show u ≠ v by omega) h3 (by omega) (by omega) (by omega) (by omega) h4 with ⟨rfl, rfl⟩ | ⟨rfl, rfl⟩
    · rfl
    · exact eN_comm _ _
  unfold tri3 at hmem ⊢
  simp only [List.mem_cons, List.not_mem_nil, or_false] at hmem ⊢
  rcases hmem with h | h | h
  · left; rw [key hx hy n1 (by omega)]
  · right; left; rw [key hx hz n2 (by omega)]
  · right; right; rw [key hy hz n3 (by omega)]
theorem isPos_iso {n : Int} {l r : List Int} (hs : sh n l) (hs' : sh n r) (h : Iso n.toNat l r) (hp : isPos n l) : isPos n r := by
  unfold isPos at hp ⊢
  rw [← h.mov hs hs', ← anyT_iff h, ← anyT_iff h]
  exact ⟨hp.1, hp.2.1, hp.2.2.imp id (comT_fw hs hs' h)⟩
section
open Classical
theorem res_iso {n : Int} {l r : List Int} (hs : sh n l) (hs' : sh n r) (h : Iso n.toNat l r) : res n l = res n r := by
  unfold res
  rw [← h.mov hs hs', ← h.count hs hs']
  have := anyT_iff h (who := 1 - mov l)
  by_cases hb : anyT n l (1 - mov l)
  · rw [if_pos hb, if_pos (this.1 hb)]
  · rw [if_neg hb, if_neg (fun q => hb (this.2 q))]
theorem move_iso {n : Nat} {f : Nat → Nat} {l r : List Int} (hn : n ≤ 17) (hl : l.length = tri n) (hr : r.length = tri n) (h : IsoF n f l r) {i j : Nat} (hij : i < j) (hj : j < n) (z : Int) : IsoF n f (l.set (eN i j) z) (r.set (eN (f i) (f j)) z) := by
  refine ⟨h.1, h.2.1, fun x y hne hx hy => ?_⟩
  have fne : ∀ {x y}, x < n → y < n → x ≠ y → f x ≠ f y := fun hx hy hxy e => hxy (h.2.1 _ _ hx hy e)
  have fi := h.1 i (by omega)
  have fj := h.1 j hj
  have fx := h.1 x hx
  have fy := h.1 y hy
  have hfij := fne (show i < n by omega) hj (by omega)
  rw [set_getD r _ _ _ (by rw [hr]; exact eN_lt' hfij fi fj hn), set_getD l _ _ _ (by rw [hl]; exact eN_lt hij hj hn)]
  have : eN (f x) (f y) = eN (f i) (f j) ↔ eN x y = eN i j := by
    constructor
    · intro e
      rcases eN_inj' (fne hx hy hne) hfij (by omega) (by omega) (by omega) (by omega) e with ⟨u, v⟩ | ⟨u, v⟩
      · rw [h.2.1 _ _ hx (by omega) u, h.2.1 _ _ hy hj v]
      · rw [h.2.1 _ _ hx hj u, h.2.1 _ _ hy (by omega) v, eN_comm]
    · intro e
      rcases eN_inj' hne (show i ≠ j by omega) (by omega) (by omega) (by omega) (by omega) e with ⟨rfl, rfl⟩ | ⟨rfl, rfl⟩
      · rfl
      · exact eN_comm _ _
  by_cases hb : eN x y = eN i j
  · rw [if_pos hb, if_pos (this.2 hb)]
  · rw [if_neg hb, if_neg (fun q => hb (this.1 q))]
    exact h.2.2 x y hne hx hy
theorem oc_iso (n : Int) : ∀ (d : Nat) (l r : List Int), sh n l → sh n r → isPos n l → Iso n.toNat l r → l.count (-1) = d → oc n l = oc n r := by
  intro d
  induction d with
  | zero =>
    intro l r hs hs' hp h hd
    have hr : 0 ≤ res n l := Classical.byContradiction fun h => by
      obtain ⟨d, h2⟩ := res_open hp h
      omega
    rw [oc_over hr, oc_over (by rw [← res_iso hs hs' h]; exact hr), res_iso hs hs' h]
  | succ d ih =>
    intro l r hs hs' hp h hd
    by_cases hr : 0 ≤ res n l
    · rw [oc_over hr, oc_over (by rw [← res_iso hs hs' h]; exact hr), res_iso hs hs' h]
    have hn := hs.1
    have fw : ∀ l r : List Int, sh n l → sh n r → isPos n l → Iso n.toNat l r → l.count (-1) = d + 1 → ¬ 0 ≤ res n l → ∀ z : Int,
        (∃ a, a < l.length ∧ fre l a = true ∧ oc n (l.set a (mov l)) = z) → ∃ a, a < r.length ∧ fre r a = true ∧ oc n (r.set a (mov r)) = z := by
      intro l r hs hs' hp h hd hr z hz
      obtain ⟨a, ha, hff, e⟩ := hz
      have hmv := h.mov hs hs'
      have hm := hp.range
      obtain ⟨f, hf⟩ := h
      rw [hs.2.1] at ha
      obtain ⟨j, hj, i, hij, rfl⟩ := eN_surj (by omega) ha
      have ha2 : eN i j < l.length := by rw [hs.2.1]; exact ha
      have fne : f i ≠ f j := fun e => by have := hf.2.1 _ _ (by omega) hj e; omega
      have hb : eN (f i) (f j) < r.length := by rw [hs'.2.1]; exact eN_lt' fne (hf.1 i (by omega)) (hf.1 j hj) (by omega)
      have hfr : r.getD (eN (f i) (f j)) 0 = l.getD (eN i j) 0 := hf.2.2 i j (by omega) (by omega) hj
      have hff' : fre r (eN (f i) (f j)) = true := by
        unfold fre at hff ⊢
        rw [hfr]; exact hff
      have hiso : Iso n.toNat (l.set (eN i j) (mov l)) (r.set (eN (f i) (f j)) (mov l)) := ⟨f, move_iso (by omega) hs.2.1 hs'.2.1 hf hij hj (mov l)⟩
      obtain ⟨p1, p2, _⟩ := move_pos hs hp (by omega) ha2 (of_decide_eq_true hff)
      have hcm := count_move hs hp ha2 hff
      refine ⟨eN (f i) (f j), hb, hff', ?_⟩
      rw [← hmv, ← ih _ _ p1 (sh_set hs' _ _ hb (by omega)) p2 hiso (by omega)]
      exact e
    have hp' := isPos_iso hs hs' h hp
    have hr' : ¬ 0 ≤ res n r := by rw [← res_iso hs hs' h]; exact hr
    have hiff : ∀ z : Int, (∃ a, a < l.length ∧ fre l a = true ∧ oc n (l.set a (mov l)) = z) ↔ ∃ a, a < r.length ∧ fre r a = true ∧ oc n (r.set a (mov r)) = z := fun z =>
      ⟨fw l r hs hs' hp h hd hr z, fw r l hs' hs hp' h.symm (by rw [← h.count hs hs']; exact hd) hr' z⟩
    rw [oc_step hs hp hr, oc_step hs' hp' hr']
    unfold pick
    simp only [hiff, ← h.mov hs hs']
end

/-- What a list of extensions went through. -/
theorem exts_ok {K : Nat} {ok : List Int → Nat → Bool} : ∀ (n : Nat) (l e : List Int), e ∈ exts K ok n l → e.take l.length = l ∧ ∀ i, l.length ≤ i → i < e.length → ∃ c : Nat, c < K ∧ e.getD i 0 = (c : Int) ∧ ok (e.take i) c = true := by
  intro n
  induction n with
  | zero =>
    intro l e he
    rw [exts_zero] at he
    simp at he
    subst he
    exact ⟨by simp, fun i h1 h2 => by omega⟩
  | succ n ih =>
    intro l e he
    rw [exts] at he
    obtain ⟨c, hc0, hc⟩ := List.mem_flatMap.1 he
    have hcK := List.mem_range.1 hc0
    split at hc
    · rename_i hok
      obtain ⟨h1, h2⟩ := ih _ e hc
      have hlen : (l ++ [(c : Int)]).length = l.length + 1 := by simp
      rw [hlen] at h1 h2
      have ht : e.take l.length = l := by
        have e3 : (e.take (l.length + 1)).take l.length = (l ++ [(c : Int)]).take l.length := by rw [h1]
        rw [List.take_take, show min l.length (l.length + 1) = l.length by omega] at e3
        rw [e3]; simp
      refine ⟨ht, fun i hi1 hi2 => ?_⟩
      by_cases hi : i = l.length
      · subst hi
        refine ⟨c, hcK, ?_, by rw [ht]; exact hok⟩
        have e3 : (e.take (l.length + 1)).getD l.length 0 = (l ++ [(c : Int)]).getD l.length 0 := by rw [h1]
        have e4 : (e.take (l.length + 1)).getD l.length 0 = e.getD l.length 0 := by simp [List.getD, List.getElem?_take]
        rw [← e4, e3]
        simp [List.getD]
      · exact h2 i (by omega) hi2
    · simp at hc

theorem mem_exts {K : Nat} {ok : List Int → Nat → Bool} : ∀ (n : Nat) (l e : List Int), e.length = l.length + n → e.take l.length = l → (∀ i, l.length ≤ i → i < e.length → ∃ c : Nat, c < K ∧ e.getD i 0 = (c : Int) ∧ ok (e.take i) c = true) → e ∈ exts K ok n l
  | 0, l, e, h1, h2, _ => by
    rw [exts_zero, List.mem_singleton]
    rw [List.take_of_length_le (by omega)] at h2
    exact h2
  | n + 1, l, e, h1, h2, h3 => by
    obtain ⟨c, c1, c2, c3⟩ := h3 l.length (Nat.le_refl _) (by omega)
    rw [exts]
    refine List.mem_flatMap.2 ⟨c, List.mem_range.2 c1, ?_⟩
    rw [h2] at c3
    rw [c3, if_pos rfl]
    have hlt : l.length < e.length := by omega
    have ht : e.take (l.length + 1) = l ++ [(c : Int)] := by
      rw [List.take_succ_eq_append_getElem hlt, h2]
      have : e[l.length] = (c : Int) := by rw [← c2]; simp [List.getD, hlt]
      rw [this]
    refine mem_exts n _ e (by simp; omega) (by simpa using ht) fun i hi hi2 => h3 i (by simp at hi; omega) hi2

def okD (l : List Int) (c : Nat) : Bool := decide ((c : Int) ∉ l)

def ordL (n : Nat) : List (List Int) := exts n okD n []

theorem ordL_ok {n : Nat} {q : List Int} (h : q ∈ ordL n) : isOrd q n := by
  have hlen := exts_len (K := n) (ok := okD) _ _ q h
  simp only [List.length_nil, Nat.zero_add] at hlen
  have hr := exts_range (K := n) (ok := okD) _ _ (fun z hz => by simp at hz) q h
  have hok := (exts_ok _ _ q h).2
  refine ⟨by omega, fun a ha => hr _ (mem_getD.2 ⟨a, ha, rfl⟩), fun a b hab hb e => ?_⟩
  obtain ⟨c, c1, c2, c3⟩ := hok b (by simp) hb
  unfold okD at c3
  rw [decide_eq_true_eq] at c3
  exact c3 (mem_getD.2 ⟨a, by simp; omega, by rw [← c2, ← e]; simp [List.getD, List.getElem?_take, hab]⟩)

theorem pow6 {n d : Nat} (hn : n ≤ 6) (hd : d ≤ 6) : n ^ d ≤ 46656 := by
  have h1 : n ^ d ≤ 6 ^ d := Nat.pow_le_pow_left hn d
  have h2 : 6 ^ d ≤ 6 ^ 6 := Nat.pow_le_pow_right (by omega) hd
  have : 6 ^ 6 = 46656 := by decide
  omega

theorem epre_le {n d : Nat} {l : List Int} (c : Nat) (hc : c ≤ n) : (epre n okD d l c).length ≤ n ^ (d + 1) := by
  obtain ⟨B, hB⟩ := epre_more (K := n) (ok := okD) (n := d) (l := l) c (n - c)
  rw [show c + (n - c) = n by omega] at hB
  have := exts_count (K := n) (ok := okD) (d + 1) l
  rw [exts_succ, hB, List.length_append] at this
  omega

theorem implOrders_val (n : Nat) (hn : n ≤ 6) : ∀ (d : Nat) (l : List Int) (k : Nat), l.length + d = n → d + 200 ≤ k → impl_orders k n l = some (exts n okD d l) := by
  intro d
  induction d with
  | zero =>
    intro l k hl hk
    obtain ⟨k, rfl⟩ : ∃ q, k = q + 1 := ⟨k - 1, by omega⟩
    rw [impl_orders, impl_orders_body, exts_zero, if_pos (decide_eq_true (by unfold impl_size; omega))]
  | succ d ih =>
    intro l k hl hk
    obtain ⟨k, rfl⟩ : ∃ q, k = q + 1 := ⟨k - 1, by omega⟩
    rw [impl_orders, impl_orders_body, exts_succ, if_neg (by unfold impl_size; simp only [decide_eq_true_eq]; omega)]
    have := loopI (f := fun k' j (s : List (List Int)) => impl_orders_l0 k (impl_orders k) n l k' j s) (n : Int) 0 (fun j s => j ≤ n ∧ s = epre n okD d l j.toNat) (fun s => s = epre n okD d l n) ?_ ?_ k 0 [] (by omega) (by omega) ⟨by omega, rfl⟩
    · obtain ⟨s, e, rfl⟩ := this
      rw [e, Option.bind_some]
    · rintro k' j s h0 h1 ⟨q1, rfl⟩
      obtain ⟨c, rfl⟩ := nat_of h0
      left
      refine ⟨epre n okD d l (c + 1), ?_, by omega, by rw [show ((c : Int) + 1).toNat = c + 1 by omega]⟩
      show impl_orders_l0 k (impl_orders k) n l (k' + 1) c _ = _
      have e1 : slices_Contains k l c = some (decide ((c : Int) ∈ l)) := by
        exact contains9_eq k l c (by omega) (by omega)
      have hle := epre_le (n := n) (d := d) (l := l) (c + 1) (by omega)
      have hp6 := pow6 (n := n) (d := d + 1) hn (by omega)
      have hpre := epre_succ (K := n) (ok := okD) (n := d) (l := l) c
      rw [impl_orders_l0, if_pos (decide_eq_true h1), e1, Option.bind_some, w64_succ h0 h1 (by omega), Int.toNat_natCast]
      rw [hpre, List.length_append] at hle
      rw [hpre]
      unfold esub at hle ⊢
      by_cases hm : (c : Int) ∈ l
      · have : okD l c = false := decide_eq_false (fun h => h hm)
        rw [decide_eq_true hm, this, if_neg (by simp), if_neg (by simp), Option.bind_some, List.append_nil]
      · have hok : okD l c = true := decide_eq_true hm
        rw [hok, if_pos rfl] at hle
        rw [decide_eq_false hm, hok, Bool.not_false, if_pos rfl, if_pos rfl]
        have hr := ih (l ++ [(c : Int)]) k (by simp; omega) (by omega)
        cases l with
        | nil =>
          rw [List.nil_append] at hr hle
          rw [if_pos (show ([] : List Int).isEmpty = true from rfl), if_pos ⟨by simp, by simp⟩, hr, Option.bind_some, if_pos (by omega), Option.bind_some, List.nil_append]
        | cons a t =>
          have ecl : cloneA (a :: t) = some (a :: t) := by
            unfold cloneA
            rw [if_pos (by omega)]
          rw [if_neg (by simp), ecl, Option.bind_some, if_pos (by simp only [List.length_singleton]; omega), hr, Option.bind_some, if_pos (by omega), Option.bind_some]
    · rintro k' j s h0 h1 ⟨q1, rfl⟩
      refine ⟨epre n okD d l j.toNat, ?_, by rw [show j.toNat = n by omega]⟩
      show impl_orders_l0 k (impl_orders k) n l (k' + 1) j _ = _
      rw [impl_orders_l0, if_neg (by simp only [decide_eq_true_eq]; omega)]

theorem known_val (l : List Int) (c : Int) (hl : l.length ≤ 1000) (k : Nat) (hk : l.length + 1 ≤ k) : spec_l09Least_l1 l c k false 0 = some (decide (c ∈ l)) := by
  have := loopI (f := fun k' j (b : Bool) => spec_l09Least_l1 l c k' b j) (l.length : Int) 0 (fun j b => j ≤ l.length ∧ (b = true ↔ ∃ i : Nat, (i : Int) < j ∧ l.getD i 0 = c)) (fun r => r = decide (c ∈ l)) ?_ ?_ k 0 false (by omega) (by omega) ⟨by omega, by simp; intro i hi; omega⟩
  · obtain ⟨r, e, rfl⟩ := this
    exact e
  · rintro k' j b h0 h1 ⟨q1, q2⟩
    obtain ⟨i, rfl⟩ := nat_of h0
    left
    refine ⟨b || decide (l.getD i 0 = c), ?_, by omega, ?_⟩
    · show spec_l09Least_l1 l c (k' + 1) b i = _
      rw [spec_l09Least_l1, if_pos (decide_eq_true h1), w64_succ h0 h1 (by omega)]
      cases b with
      | true => rfl
      | false =>
        rw [if_neg (by simp), if_pos ⟨h0, h1⟩, Option.bind_some, Int.toNat_natCast, Bool.false_or]
    · rw [Bool.or_eq_true, decide_eq_true_eq, q2]
      constructor
      · rintro (⟨a, h1, h2⟩ | h)
        · exact ⟨a, by omega, h2⟩
        · exact ⟨i, by omega, h⟩
      · rintro ⟨a, h1, h2⟩
        rcases Nat.lt_or_ge a i with w | w
        · exact .inl ⟨a, by omega, h2⟩
        · exact .inr (by rw [show i = a by omega]; exact h2)
  · rintro k' j b h0 h1 ⟨q1, q2⟩
    refine ⟨b, ?_, ?_⟩
    · show spec_l09Least_l1 l c (k' + 1) b j = _
      rw [spec_l09Least_l1, if_neg (by simp only [decide_eq_true_eq]; omega)]
    · have : b = true ↔ c ∈ l := by
        rw [q2, mem_getD]
        constructor
        · rintro ⟨a, h1, h2⟩; exact ⟨a, by omega, h2⟩
        · rintro ⟨a, h1, h2⟩; exact ⟨a, by omega, h2⟩
      by_cases hm : c ∈ l
      · rw [decide_eq_true hm, this.2 hm]
      · rw [decide_eq_false hm]
        cases b with
        | true => exact absurd (this.1 rfl) hm
        | false => rfl

section
open Classical
/-! ### One list before another -/
def ltL (x y : List Int) : Prop := ∃ i, i < x.length ∧ (∀ j, j < i → x.getD j 0 = y.getD j 0) ∧ x.getD i 0 < y.getD i 0
theorem ltL_irr (x : List Int) : ¬ ltL x x := fun ⟨i, _, _, h⟩ => by omega
theorem ltL_trans {x y z : List Int} (hl : x.length = y.length) (h1 : ltL x y) (h2 : ltL y z) : ltL x z := by
  obtain ⟨i, i1, i2, i3⟩ := h1
  obtain ⟨j, j1, j2, j3⟩ := h2
  by_cases h : i < j
  · exact ⟨i, i1, fun a ha => by rw [i2 a ha, j2 a (by omega)], by rw [← j2 i h]; exact i3⟩
  · by_cases e : i = j
    · subst e; exact ⟨i, i1, fun a ha => by rw [i2 a ha, j2 a ha], by omega⟩
    · exact ⟨j, by omega, fun a ha => by rw [i2 a (by omega), j2 a ha], by rw [i2 j (by omega)]; exact j3⟩
theorem ltL_first {x y : List Int} : ∀ m, (∀ j, j < m → x.getD j 0 = y.getD j 0) ∨ ∃ i, i < m ∧ (∀ j, j < i → x.getD j 0 = y.getD j 0) ∧ x.getD i 0 ≠ y.getD i 0
  | 0 => .inl fun j h => by omega
  | m + 1 => by
    rcases ltL_first (x := x) (y := y) m with h | ⟨i, h1, h2⟩
    · by_cases e : x.getD m 0 = y.getD m 0
      · refine .inl fun j hj => ?_
        by_cases hjm : j = m
        · rw [hjm]; exact e
        · exact h j (by omega)
      · exact .inr ⟨m, by omega, h, e⟩
    · exact .inr ⟨i, by omega, h2⟩
theorem ltL_tot {x y : List Int} (hl : x.length = y.length) : x = y ∨ ltL x y ∨ ltL y x := by
  rcases ltL_first (x := x) (y := y) x.length with h | ⟨i, h1, h2, h3⟩
  · left
    refine List.ext_getElem hl fun i g1 g2 => ?_
    have := h i g1
    rwa [gD g1, gD g2] at this
  · right
    by_cases c : x.getD i 0 < y.getD i 0
    · exact .inl ⟨i, h1, h2, c⟩
    · exact .inr ⟨i, by omega, fun j hj => (h2 j hj).symm, by omega⟩
theorem le_trans' {a b c : List Int} (h1 : a.length = b.length) (h2 : b.length = c.length) (hab : ¬ ltL b a) (hbc : ¬ ltL c b) : ¬ ltL c a := fun h => by
  rcases ltL_tot h1 with e | e | e
  · rw [e] at h; exact hbc h
  · exact hbc (ltL_trans (by omega) h e)
  · exact hab e
theorem ltL_stop {x y : List Int} (hl : x.length = y.length) {i : Nat} (hi : i < x.length) (he : ∀ j, j < i → x.getD j 0 = y.getD j 0) (hne : x.getD i 0 ≠ y.getD i 0) : ltL x y ↔ x.getD i 0 < y.getD i 0 := by
  constructor
  · rintro ⟨m, m1, m2, m3⟩
    by_cases h : m < i
    · have := he m h; omega
    · by_cases e : m = i
      · rw [← e]; exact m3
      · exact absurd (m2 i (by omega)) hne
  · intro h; exact ⟨i, hi, he, h⟩
theorem compare_val {x y : List Int} (hl : x.length = y.length) (k : Nat) (hk : x.length + 1 ≤ k) (hx : x.length ≤ 1000) : ∃ c, slices_Compare k x y = some c ∧ (decide (c < 0) = decide (ltL x y)) := by
  unfold slices_Compare
  have := loopI (f := fun k' i (_ : Unit) => slices_Compare_l0 x y k' i) (x.length : Int) 0 (fun i _ => i ≤ x.length ∧ ∀ j : Nat, (j : Int) < i → x.getD j 0 = y.getD j 0)
    (fun r => (r = .inl () ∧ ¬ ltL x y) ∨ ∃ c : Int, r = .inr c ∧ (c < 0 ↔ ltL x y)) ?_ ?_ k 0 () (by omega) (by omega) ⟨by omega, fun j hj => by omega⟩
  · obtain ⟨r, e, ⟨rfl, h⟩ | ⟨c, rfl, h⟩⟩ := this
    · try dsimp only at e
      refine ⟨0, ?_, by rw [decide_eq_false h]; rfl⟩
      rw [e, Option.bind_some]
      show (if decide ((x.length : Int) < (y.length : Int)) = true then some (-1) else some 0) = _
      rw [if_neg (by simp only [decide_eq_true_eq]; omega)]
    · try dsimp only at e
      exact ⟨c, by rw [e]; rfl, decide_eq_decide.2 h⟩
  · rintro k' i ⟨⟩ h0 h1 ⟨q1, q2⟩
    obtain ⟨a, rfl⟩ := nat_of h0
    show (∃ s', slices_Compare_l0 x y (k' + 1) a = _ ∧ _) ∨ (∃ r, slices_Compare_l0 x y (k' + 1) a = _ ∧ _)
    rw [slices_Compare_l0, if_pos (decide_eq_true h1), if_pos ⟨h0, h1⟩, if_neg (by simp only [decide_eq_true_eq]; omega), if_pos ⟨h0, by omega⟩, Int.toNat_natCast, w64_succ h0 h1 (by omega)]
    unfold cmp_Compare cmp_isNaN
    simp only [decide_true, Bool.not_true, Bool.false_eq_true, if_false]
    by_cases e : x.getD a 0 = y.getD a 0
    · left
      refine ⟨(), ?_, by omega, fun j hj => ?_⟩
      · rw [e]
        simp
      · by_cases hja : j = a
        · rw [hja]; exact e
        · exact q2 j (by omega)
    · right
      have hst := ltL_stop hl (show a < x.length by omega) (fun j hj => q2 j (by omega)) e
      by_cases c : x.getD a 0 < y.getD a 0
      · refine ⟨.inr (-1), ?_, .inr ⟨-1, rfl, ⟨fun _ => hst.2 c, fun _ => by omega⟩⟩⟩
        rw [if_pos (decide_eq_true c)]; rfl
      · refine ⟨.inr 1, ?_, .inr ⟨1, rfl, ⟨fun h => by omega, fun h => absurd (hst.1 h) c⟩⟩⟩
        have c2 : y.getD a 0 < x.getD a 0 := by omega
        rw [if_neg (show ¬ decide (x.getD a 0 < y.getD a 0) = true by rw [decide_eq_true_eq]; exact c), if_pos (decide_eq_true c2)]; rfl
  · rintro k' i ⟨⟩ h0 h1 ⟨q1, q2⟩
    refine ⟨.inl (), ?_, .inl ⟨rfl, ?_⟩⟩
    · show slices_Compare_l0 x y (k' + 1) i = _
      rw [slices_Compare_l0, if_neg (by simp only [decide_eq_true_eq]; omega)]
    · rintro ⟨m, m1, m2, m3⟩
      have := q2 m (by omega)
      omega
theorem before_val {x y : List Int} (hl : x.length = y.length) (k : Nat) (hk : x.length + 1 ≤ k) (hx : x.length ≤ 1000) : spec_l09Before k x y = some (decide (ltL x y)) := by
  unfold spec_l09Before
  have := loopI (f := fun k' i (_ : Unit) => spec_l09Before_l0 x y k' i) (x.length : Int) 0 (fun i _ => i ≤ x.length ∧ ∀ j : Nat, (j : Int) < i → x.getD j 0 = y.getD j 0)
    (fun r => (r = .inl () ∧ ¬ ltL x y) ∨ r = .inr (decide (ltL x y))) ?_ ?_ k 0 () (by omega) (by omega) ⟨by omega, fun j hj => by omega⟩
  · obtain ⟨r, e, ⟨rfl, h⟩ | rfl⟩ := this
    · try dsimp only at e
      rw [e, decide_eq_false h]; rfl
    · try dsimp only at e
      rw [e]; rfl
  · rintro k' i ⟨⟩ h0 h1 ⟨q1, q2⟩
    obtain ⟨a, rfl⟩ := nat_of h0
    show (∃ s', spec_l09Before_l0 x y (k' + 1) a = _ ∧ _) ∨ (∃ r, spec_l09Before_l0 x y (k' + 1) a = _ ∧ _)
    have hy : (a : Int) < (y.length : Int) := by omega
    rw [spec_l09Before_l0, if_pos (decide_eq_true h1), if_pos ⟨h0, h1⟩, if_pos ⟨h0, hy⟩, Int.toNat_natCast, w64_succ h0 h1 (by omega)]
    by_cases e : x.getD a 0 = y.getD a 0
    · left
      refine ⟨(), ?_, by omega, fun j hj => ?_⟩
      · rw [if_neg (by rw [e]; simp)]
      · by_cases hja : j = a
        · rw [hja]; exact e
        · exact q2 j (by omega)
    · right
      have hst := ltL_stop hl (show a < x.length by omega) (fun j hj => q2 j (by omega)) e
      refine ⟨.inr (decide (ltL x y)), ?_, .inr rfl⟩
      rw [if_pos (by rw [decide_eq_false e]; rfl), if_pos ⟨h0, h1⟩, if_pos ⟨h0, hy⟩, decide_eq_decide.2 hst]
  · rintro k' i ⟨⟩ h0 h1 ⟨q1, q2⟩
    refine ⟨.inl (), ?_, .inl ⟨rfl, ?_⟩⟩
    · show spec_l09Before_l0 x y (k' + 1) i = _
      rw [spec_l09Before_l0, if_neg (by simp only [decide_eq_true_eq]; omega)]
    · rintro ⟨m, m1, m2, m3⟩
      have := q2 m (by omega)
      omega

/-! ### Renumbered lists -/
noncomputable def rn (n : Nat) (l p : List Int) : List Int := if h : ∃ r, Ren n l p r then h.choose else []
theorem rn_eq {n : Nat} {l p r : List Int} (hn : n ≤ 5) (hl : l.length = tri n) (h : isOrd p n) (hr : Ren n l p r) : rn n l p = r := by
  have hex : ∃ r, Ren n l p r := ⟨r, hr⟩
  unfold rn
  rw [dif_pos hex]
  exact Ren.uniq hn hl h hex.choose_spec hr
theorem rn_val {n : Int} {l p : List Int} (hs : sh n l) (h : isOrd p n) (k : Nat) (hk : 20 ≤ k) :
    impl_position_renumbered k ⟨n, l⟩ p = some (rn n.toNat l p) ∧ spec_l09Renumbered k n l p = some (rn n.toNat l p) ∧ Ren n.toNat l p (rn n.toNat l p) ∧ (rn n.toNat l p).length = l.length := by
  have hn := hs.1
  have h' : isOrd p (n.toNat : Int) := by rw [Int.toNat_of_nonneg (by omega)]; exact h
  obtain ⟨r, e1, r1⟩ := implRen9_eq l p n hs h k hk
  obtain ⟨s, e2, r2⟩ := specRen9_eq l p n hs h k hk
  have f1 := rn_eq (by omega) hs.2.1 h' r1
  have f2 := rn_eq (by omega) hs.2.1 h' r2
  rw [f1]
  exact ⟨e1, by rw [e2, ← f2, f1], r1, r1.1⟩
noncomputable def low (n : Nat) (l : List Int) (b p : List Int) : List Int := if ltL (rn n l p) b then rn n l p else b
noncomputable def least (n : Nat) (l : List Int) : List Int := (ordL n).foldl (low n l) l

theorem fold_len {n : Int} {l : List Int} (hs : sh n l) : ∀ (L : List (List Int)) (b : List Int), (∀ p ∈ L, isOrd p n) → b.length = l.length → (L.foldl (low n.toNat l) b).length = l.length
  | [], b, _, hb => hb
  | p :: L, b, hL, hb => by
    rw [List.foldl_cons]
    refine fold_len hs L _ (fun q hq => hL q (List.mem_cons_of_mem _ hq)) ?_
    unfold low
    split
    · exact (rn_val hs (hL p (List.mem_cons_self ..)) 20 (Nat.le_refl _)).2.2.2
    · exact hb
theorem fold_min {n : Int} {l : List Int} (hs : sh n l) : ∀ (L : List (List Int)) (b : List Int), (∀ p ∈ L, isOrd p n) → b.length = l.length →
    (L.foldl (low n.toNat l) b = b ∨ ∃ p ∈ L, L.foldl (low n.toNat l) b = rn n.toNat l p) ∧ ¬ ltL b (L.foldl (low n.toNat l) b) ∧ ∀ p ∈ L, ¬ ltL (rn n.toNat l p) (L.foldl (low n.toNat l) b)
  | [], b, _, hb => ⟨.inl rfl, ltL_irr b, fun p hp => by cases hp⟩
  | p :: L, b, hL, hb => by
    have hr := (rn_val hs (hL p (List.mem_cons_self ..)) 20 (Nat.le_refl _)).2.2.2
    have hL' : ∀ q ∈ L, isOrd q n := fun q hq => hL q (List.mem_cons_of_mem _ hq)
    rw [List.foldl_cons]
    have hlo : (low n.toNat l b p).length = l.length ∧ (low n.toNat l b p = b ∨ low n.toNat l b p = rn n.toNat l p) ∧ ¬ ltL b (low n.toNat l b p) ∧ ¬ ltL (rn n.toNat l p) (low n.toNat l b p) := by
      unfold low
      by_cases h : ltL (rn n.toNat l p) b
      · rw [if_pos h]
        exact ⟨hr, .inr rfl, fun h2 => ltL_irr _ (ltL_trans (by omega) h2 h), ltL_irr _⟩
      · rw [if_neg h]
        exact ⟨hb, .inl rfl, ltL_irr _, h⟩
    obtain ⟨h1, h2, h3, h4⟩ := hlo
    obtain ⟨g1, g2, g3⟩ := fold_min hs L (low n.toNat l b p) hL' h1
    have hfl := fold_len hs L (low n.toNat l b p) hL' h1
    refine ⟨?_, le_trans' (by omega) (by omega) g2 h3, fun q hq => ?_⟩
    · rcases g1 with e | ⟨q, hq, e⟩
      · rcases h2 with e2 | e2
        · left; rw [e, e2]
        · right; exact ⟨p, List.mem_cons_self .., by rw [e, e2]⟩
      · right; exact ⟨q, List.mem_cons_of_mem _ hq, e⟩
    · rcases List.mem_cons.1 hq with rfl | hq
      · exact le_trans' (by omega) (by omega) g2 h4
      · exact g3 q hq

theorem ordL_mem {n : Nat} {p : List Int} (h : isOrd p n) : p ∈ ordL n := by
  have hl : p.length = n := by have := h.1; omega
  refine mem_exts _ _ _ (by simp [hl]) (by simp) fun i _ hi => ⟨(p.getD i 0).toNat, ?_, ?_, ?_⟩
  · have := h.2.1 i hi; omega
  · have := h.2.1 i hi; omega
  · have hr := h.2.1 i hi
    unfold okD
    rw [decide_eq_true_eq, Int.toNat_of_nonneg hr.1]
    intro hm
    obtain ⟨a, ha, e⟩ := mem_getD.1 hm
    have ha2 : a < i := by simp at ha; omega
    refine h.2.2 a i ha2 hi ?_
    rw [← e]
    simp [List.getD, List.getElem?_take, ha2]

theorem least_iso {n : Int} {l : List Int} (hs : sh n l) : Iso n.toNat l (least n.toNat l) ∧ (least n.toNat l).length = l.length ∧ ∀ r, r.length = l.length → Iso n.toNat l r → ¬ ltL r (least n.toNat l) := by
  have hn := hs.1
  have ho : ∀ p ∈ ordL n.toNat, isOrd p n := fun p hp => by
    have := ordL_ok hp
    rwa [Int.toNat_of_nonneg (by omega)] at this
  obtain ⟨h1, h2, h3⟩ := fold_min hs (ordL n.toNat) l ho rfl
  refine ⟨?_, fold_len hs _ l ho rfl, fun r hr hi => ?_⟩
  · rcases h1 with e | ⟨p, hp, e⟩
    · show Iso n.toNat l ((ordL n.toNat).foldl (low n.toNat l) l)
      rw [e]; exact Iso.refl _ _
    · show Iso n.toNat l ((ordL n.toNat).foldl (low n.toNat l) l)
      rw [e]
      exact Ren.iso (ordL_ok hp) (rn_val hs (ho p hp) 20 (Nat.le_refl _)).2.2.1
  · obtain ⟨p, hp, hr2⟩ := hi.ren hr
    have := h3 p (ordL_mem hp)
    rwa [rn_eq (by omega) hs.2.1 hp hr2] at this
theorem least_eq {n : Int} {l r : List Int} (hs : sh n l) (hs' : sh n r) (h : Iso n.toNat l r) : least n.toNat l = least n.toNat r := by
  obtain ⟨a1, a2, a3⟩ := least_iso hs
  obtain ⟨b1, b2, b3⟩ := least_iso hs'
  have hl : l.length = r.length := by rw [hs.2.1, hs'.2.1]
  rcases ltL_tot (x := least n.toNat l) (y := least n.toNat r) (by omega) with e | e | e
  · exact e
  · exact absurd e (b3 _ (by omega) (h.symm.trans a1))
  · exact absurd e (a3 _ (by omega) (h.trans b1))

/-! ### The functions -/
theorem exts_bound (n : Nat) (hn : n ≤ 5) : (ordL n).length ≤ 46656 := Nat.le_trans (exts_count (K := n) (ok := okD) n []) (pow6 (by omega) (by omega))
theorem least_loop {n : Int} {l : List Int} (hs : sh n l) (f : Nat → Int → List Int → Option (List Int)) (k : Nat) (hk : 50000 ≤ k)
    (hf : ∀ k' i b, f (k' + 1) i b = (if decide (i < ((ordL n.toNat).length : Int)) then ((if 0 ≤ i ∧ i < ((ordL n.toNat).length : Int) then (impl_position_renumbered k (⟨n, l⟩ : Pos) ((ordL n.toNat).getD i.toNat [])).bind fun r10 => (slices_Compare k r10 b).bind fun r11 => (if decide (r11 < 0) then some r10 else some b) else none) : Option (List Int)).bind fun s13 => f k' (w64 (i + 1)) s13 else some b)) : f k 0 l = some (least n.toNat l) := by
  have hn := hs.1
  have ho : ∀ p ∈ ordL n.toNat, isOrd p n := fun p hp => by
    have := ordL_ok hp
    rwa [Int.toNat_of_nonneg (by omega)] at this
  have hb := exts_bound n.toNat (by omega)
  have h10 := sh10 hs
  have hlast : least n.toNat l = (ordL n.toNat).foldl (low n.toNat l) l := rfl
  generalize hO : ordL n.toNat = O at *
  have := loopI (f := f) (O.length : Int) 0 (fun i b => i ≤ O.length ∧ b.length = l.length ∧ (O.drop i.toNat).foldl (low n.toNat l) b = least n.toNat l) (fun b => b = least n.toNat l) ?_ ?_ k 0 l (by omega) (by omega) ⟨by omega, rfl, hlast.symm⟩
  · obtain ⟨b, e, rfl⟩ := this
    exact e
  · rintro k' i b h0 h1 ⟨q1, q2, q3⟩
    obtain ⟨a, rfl⟩ := nat_of h0
    have ha : a < O.length := by omega
    have hg : O.getD a [] = O[a] := by simp [List.getD, List.getElem?_eq_getElem ha]
    obtain ⟨v1, _, _, v2⟩ := rn_val hs (ho O[a] (List.getElem_mem ha)) k (by omega)
    obtain ⟨c, c1, c2⟩ := compare_val (x := rn n.toNat l O[a]) (y := b) (by omega) k (by omega) (by omega)
    left
    refine ⟨low n.toNat l b O[a], ?_, by omega, ?_, ?_⟩
    · rw [hf, if_pos (decide_eq_true h1), if_pos ⟨h0, h1⟩, Int.toNat_natCast, hg, v1, Option.bind_some, c1, Option.bind_some, c2, w64_succ h0 h1 (by omega)]
      unfold low
      by_cases h : ltL (rn n.toNat l O[a]) b
      · rw [if_pos (decide_eq_true h), if_pos h, Option.bind_some]
      · rw [if_neg (by simpa using h), if_neg h, Option.bind_some]
    · unfold low
      split
      · exact v2
      · exact q2
    · rw [show ((a : Int) + 1).toNat = a + 1 by omega, ← q3, Int.toNat_natCast, List.drop_eq_getElem_cons ha, List.foldl_cons]
  · rintro k' i b h0 h1 ⟨q1, q2, q3⟩
    refine ⟨b, ?_, ?_⟩
    · rw [hf, if_neg (by simp only [decide_eq_true_eq]; omega)]
    · rw [← q3, List.drop_of_length_le (by omega)]; rfl

noncomputable def leastV (n : Int) (l : List Int) : List Int := if cod n l = 0 then least n.toNat l else []
theorem leastI (n : Int) (l : List Int) (k : Nat) (hk : 60000 ≤ k) (hl : l.length ≤ 100) : impl_LeastPosition k n l = some (leastV n l, cod n l) := by
  unfold impl_LeastPosition leastV impl_always
  rw [implCode_val n l true k (by omega) hl, Option.bind_some, if_pos rfl]
  by_cases hc : cod n l = 0
  · obtain ⟨hs, hp⟩ := cod_zero hc
    have hn := hs.1
    have ho := implOrders_val n.toNat (by omega) n.toNat [] k (by simp) (by omega)
    rw [Int.toNat_of_nonneg (by omega)] at ho
    rw [if_neg (by simp [hc]), if_pos hc, hc]
    cases l with
    | nil =>
      rw [if_pos (show ([] : List Int).isEmpty = true from rfl), ho, Option.bind_some]
      rw [least_loop hs (fun k' i b => impl_LeastPosition_l0 k n [] (ordL n.toNat) k' b i) k (by omega) (fun k' i b => by
        show impl_LeastPosition_l0 k n [] (ordL n.toNat) (k' + 1) b i = _
        rw [impl_LeastPosition_l0]) |> (show impl_LeastPosition_l0 k n [] (exts n.toNat okD n.toNat []) k [] 0 = some (least n.toNat []) from ·)]
      rfl
    | cons a t =>
      have ecl : cloneA (a :: t) = some (a :: t) := by
        unfold cloneA
        rw [if_pos (by omega)]
      rw [if_neg (by simp), ecl, Option.bind_some, ho, Option.bind_some]
      rw [least_loop hs (fun k' i b => impl_LeastPosition_l1 k n (a :: t) (ordL n.toNat) k' i b) k (by omega) (fun k' i b => by
        show impl_LeastPosition_l1 k n (a :: t) (ordL n.toNat) (k' + 1) i b = _
        rw [impl_LeastPosition_l1]) |> (show impl_LeastPosition_l1 k n (a :: t) (exts n.toNat okD n.toNat []) k 0 (a :: t) = some (least n.toNat (a :: t)) from ·)]
      rfl
  · rw [if_pos (by simp [hc]), if_neg hc]

theorem specLeast_val {n : Int} {l : List Int} (hs : sh n l) : ∀ (d k : Nat) (g b : List Int), g.length + d = n.toNat → d + 200 ≤ k → b.length = l.length → (∀ q ∈ exts n.toNat okD d g, isOrd q n) →
    spec_l09Least k n l g b = some ((exts n.toNat okD d g).foldl (low n.toNat l) b) := by
  have hn := hs.1
  have h10 := sh10 hs
  intro d
  induction d with
  | zero =>
    intro k g b hg hk hb ho
    obtain ⟨k, rfl⟩ : ∃ q, k = q + 1 := ⟨k - 1, by omega⟩
    rw [exts_zero] at ho ⊢
    obtain ⟨_, v1, _, v2⟩ := rn_val hs (ho g (List.mem_singleton.2 rfl)) k (by omega)
    rw [spec_l09Least, spec_l09Least_body, if_pos (decide_eq_true (by omega)), v1, Option.bind_some, before_val (by omega) k (by omega) (by omega), Option.bind_some]
    show _ = some (low n.toNat l b g)
    unfold low
    by_cases h : ltL (rn n.toNat l g) b
    · rw [if_pos (decide_eq_true h), if_pos h]
    · rw [if_neg (by simpa using h), if_neg h]
  | succ d ih =>
    intro k g b hg hk hb ho
    obtain ⟨k, rfl⟩ : ∃ q, k = q + 1 := ⟨k - 1, by omega⟩
    rw [exts_succ] at ho ⊢
    rw [spec_l09Least, spec_l09Least_body, if_neg (by simp only [decide_eq_true_eq]; omega)]
    have hmem : ∀ c, c < n.toNat → ∀ q ∈ esub n.toNat okD d g c, isOrd q n := fun c hc q hq => ho q (List.mem_flatMap.2 ⟨c, List.mem_range.2 hc, hq⟩)
    have hpm : ∀ c, c ≤ n.toNat → ∀ q ∈ epre n.toNat okD d g c, isOrd q n := fun c hc q hq => by
      obtain ⟨e, he, hq2⟩ := List.mem_flatMap.1 hq
      exact hmem e (by have := List.mem_range.1 he; omega) q hq2
    have := loopI (f := fun k' i (s : List Int) => spec_l09Least_l0 k (spec_l09Least k) n l g k' s i) n 0 (fun i s => i ≤ n ∧ s = (epre n.toNat okD d g i.toNat).foldl (low n.toNat l) b) (fun s => s = (epre n.toNat okD d g n.toNat).foldl (low n.toNat l) b) ?_ ?_ k 0 b (by omega) (by omega) ⟨by omega, rfl⟩
    · obtain ⟨s, e, rfl⟩ := this
      rw [e]; rfl
    · rintro k' i s h0 h1 ⟨q1, rfl⟩
      obtain ⟨c, rfl⟩ := nat_of h0
      have hc : c < n.toNat := by omega
      left
      refine ⟨(epre n.toNat okD d g (c + 1)).foldl (low n.toNat l) b, ?_, by omega, by rw [show ((c : Int) + 1).toNat = c + 1 by omega]⟩
      show spec_l09Least_l0 k (spec_l09Least k) n l g (k' + 1) _ c = _
      have hlen := fold_len hs (epre n.toNat okD d g c) b (hpm c (by omega)) hb
      have hm := hmem c hc
      rw [spec_l09Least_l0, if_pos (decide_eq_true h1), known_val g c (by omega) k (by omega), Option.bind_some, w64_succ h0 h1 (by omega), Int.toNat_natCast, epre_succ, List.foldl_append]
      unfold esub at hm ⊢
      by_cases hg2 : (c : Int) ∈ g
      · have : okD g c = false := decide_eq_false (fun h => h hg2)
        rw [decide_eq_true hg2, this, if_neg (by simp), if_neg (by simp), Option.bind_some]
        rfl
      · have hok : okD g c = true := decide_eq_true hg2
        rw [hok, if_pos rfl] at hm
        unfold spec_l01Own
        rw [decide_eq_false hg2, hok, Bool.not_false, if_pos rfl, if_pos rfl, if_pos (by simp; omega), Option.bind_some, List.nil_append, if_pos (by simp only [List.length_singleton]; omega)]
        rw [ih k (g ++ [(c : Int)]) _ (by simp; omega) (by omega) hlen hm, Option.bind_some, Option.bind_some]
    · rintro k' i s h0 h1 ⟨q1, rfl⟩
      refine ⟨_, ?_, rfl⟩
      show spec_l09Least_l0 k (spec_l09Least k) n l g (k' + 1) _ i = _
      rw [spec_l09Least_l0, if_neg (by simp only [decide_eq_true_eq]; omega), show i = n by omega]
theorem leastS (n : Int) (l : List Int) (k : Nat) (hk : 60000 ≤ k) (hl : l.length ≤ 100) : spec_LeastPosition k n l = some (leastV n l, cod n l) := by
  unfold spec_LeastPosition leastV
  rw [specCode_val n l k (by omega) hl, Option.bind_some]
  by_cases hc : cod n l = 0
  · obtain ⟨hs, hp⟩ := cod_zero hc
    have hn := hs.1
    have ho : ∀ p ∈ ordL n.toNat, isOrd p n := fun p hp => by
      have := ordL_ok hp
      rwa [Int.toNat_of_nonneg (by omega)] at this
    unfold spec_l01Own
    rw [if_neg (by simp [hc]), if_pos (by simp; omega), Option.bind_some, List.nil_append, specLeast_val hs n.toNat k [] l (by simp) (by omega) rfl ho, Option.bind_some, if_pos hc, hc]
    rfl
  · rw [if_pos (by simp [hc]), if_neg hc]
end
end Go.Proofs.YtghhnpdhehjlaaaGreat
