/- Plain laws: the draws of FnTop answer; the colouring with given colours. No conditions beyond those that each lemma states. -/
import Derived.Test.YtjcgphgipleccaaPureTopC
import Derived.Test.YtjcgphgipleccaaSrc
set_option linter.unusedVariables false
set_option linter.unusedSimpArgs false
namespace Go.Proofs.Ytjcgphgipleccaa
open Go Go.RowKit Ab

def okS (s : Src) : Prop := 0 ≤ s.i ∧ s.c.length ≤ 4096
theorem mask_range (a : Int) : 0 ≤ bAnd .u64 a 16777215 ∧ bAnd .u64 a 16777215 ≤ 16777215 := by
  unfold bAnd
  have e : (BitVec.ofInt IntKind.u64.bits a &&& BitVec.ofInt IntKind.u64.bits 16777215).toNat ≤ 16777215 := by
    show (BitVec.ofInt 64 a &&& BitVec.ofInt 64 16777215).toNat ≤ 16777215
    rw [BitVec.toNat_and]
    have : (BitVec.ofInt 64 16777215).toNat = 16777215 := by decide
    rw [this]
    exact Nat.and_le_right
  generalize (BitVec.ofInt IntKind.u64.bits a &&& BitVec.ofInt IntKind.u64.bits 16777215).toNat = m at e
  rw [u64_id (by omega)]
  omega
theorem dice_ok (s : Src) (n : Int) (h : okS s) (h1n : 1 ≤ n) : ∃ v s', laws_dice_below s n = some (v, s') ∧ okS s' ∧ 0 ≤ v ∧ v < n := by
  unfold laws_dice_below
  obtain ⟨h0, h1⟩ := h
  have hn : ¬ n < 1 := by omega
  generalize IntKind.u64.wrap ((IntKind.u64.wrap (s.h * 6364136223846793005)) + 1442695040888963407) = hh
  have hm := mask_range (bShr .u64 hh 33)
  generalize bAnd .u64 (bShr .u64 hh 33) 16777215 = v at hm
  have hn0 : n ≠ 0 := by omega
  have key : ∀ w : Int, 0 ≤ w → 0 ≤ w.tmod n ∧ w.tmod n < n := fun w hw => ⟨Int.tmod_nonneg n hw, Int.tmod_lt_of_pos w (by omega)⟩
  by_cases hi : s.i < (s.c.length : Int)
  · have hb : ((s.c.getD s.i.toNat 0).toNat : Int) < 256 := by have := (s.c.getD s.i.toNat 0).toNat_lt; omega
    refine ⟨(w64 (w64 v + ((s.c.getD s.i.toNat 0).toNat : Int))).tmod n, ⟨s.c, w64 (s.i + 1), hh⟩, ?_, ⟨?_, h1⟩, key _ ?_⟩
    · simp only [hn, decide_false, Bool.false_eq_true, if_false, hi, decide_true, if_true, h0, and_self, Option.bind_some, hn0, ne_eq, not_false_eq_true]
    · rw [w64_id (by omega)]; show 0 ≤ s.i + 1; omega
    · rw [w64_id (n := v) (by omega), w64_id (by omega)]; omega
  · refine ⟨(w64 v).tmod n, ⟨s.c, s.i, hh⟩, ?_, ⟨h0, h1⟩, key _ ?_⟩
    · simp only [hn, decide_false, Bool.false_eq_true, if_false, hi, Option.bind_some, hn0, ne_eq, not_false_eq_true, if_true]
    · rw [w64_id (by omega)]; omega
theorem roll_ok {k : Nat} (hk : 5000 ≤ k) (c : List UInt8) (hc : c.length ≤ 4096) (v : Int) : ∃ s, laws_roll k c v = some s ∧ okS s := by
  unfold laws_roll
  have := loopI (f := fun k' i (s : Src) => laws_roll_l0 c k' i s) (c.length : Int) 0 (fun i s => s.i = 0 ∧ s.c = c) (fun s => okS s) ?_ ?_ k 0 ⟨c, 0, IntKind.u64.wrap ((IntKind.u64.wrap (v * 6257)) + (IntKind.u64.wrap (c.length : Int)))⟩ (by omega) (by omega) ⟨rfl, rfl⟩
  · obtain ⟨s, e, h⟩ := this
    exact ⟨s, by rw [e]; rfl, h⟩
  · rintro k' i s h0 h1 ⟨q1, q2⟩
    left
    refine ⟨⟨s.c, s.i, IntKind.u64.wrap ((IntKind.u64.wrap ((IntKind.u64.wrap (s.h * 1099511628211)) + ((c.getD i.toNat 0).toNat : Int))) + 5)⟩, ?_, q1, q2⟩
    show laws_roll_l0 c (k' + 1) i s = _
    rw [laws_roll_l0, w64_succ h0 h1 (by omega), if_pos (decide_eq_true h1), if_pos ⟨h0, h1⟩]
  · rintro k' i s h0 h1 ⟨q1, q2⟩
    refine ⟨s, ?_, by rw [q1]; exact Int.le_refl _, by rw [q2]; exact hc⟩
    show laws_roll_l0 c (k' + 1) i s = _
    rw [laws_roll_l0, if_neg (by simp only [decide_eq_true_eq]; omega)]

/-- Colours, one for each edge. -/
theorem colours_ok (r : Int × Src) (v : Int) (m : Nat) (hm : w64 ((w64 ((w64 (3 + r.1)) * (w64 ((w64 (3 + r.1)) - 1)))).tdiv 2) = (m : Int)) (hm1 : m ≤ 1000) (s : Src) (hs : okS s) (k : Nat) (hk : 1100 ≤ k) :
    ∃ s' l, laws_FnTop_l0 r k 0 s [] = some (s', l) ∧ okS s' ∧ l.length = m ∧ ∀ z ∈ l, 0 ≤ z ∧ z ≤ 1 := by
  have := loopI (f := fun k' i (t : Src × List Int) => laws_FnTop_l0 r k' i t.1 t.2) (m : Int) 0 (fun i t => i ≤ m ∧ okS t.1 ∧ t.2.length = i.toNat ∧ ∀ z ∈ t.2, 0 ≤ z ∧ z ≤ 1) (fun t => okS t.1 ∧ t.2.length = m ∧ ∀ z ∈ t.2, 0 ≤ z ∧ z ≤ 1) ?_ ?_ k 0 (s, []) (by omega) (by omega) ⟨by omega, hs, rfl, fun z h => by simp at h⟩
  · obtain ⟨⟨s', l⟩, e, h1, h2, h3⟩ := this
    exact ⟨s', l, e, h1, h2, h3⟩
  · rintro k' i ⟨t, l⟩ h0 h1 ⟨q1, q2, q3, q4⟩
    left
    dsimp only at q2 q3 q4
    obtain ⟨w, t', e, ht, w0, w1⟩ := dice_ok t 2 q2 (by omega)
    refine ⟨(t', l ++ [w]), ?_, by omega, ht, by simp; omega, fun z hz => ?_⟩
    · show laws_FnTop_l0 r (k' + 1) i t l = _
      rw [laws_FnTop_l0, hm, if_pos (decide_eq_true h1), e, Option.bind_some, if_pos (by simp only [List.length_singleton]; omega), w64_succ h0 h1 (by omega)]
    · rcases List.mem_append.1 hz with h | h
      · exact q4 z h
      · simp at h; omega
  · rintro k' i ⟨t, l⟩ h0 h1 ⟨q1, q2, q3, q4⟩
    refine ⟨(t, l), ?_, q2, by rw [q3]; omega, q4⟩
    show laws_FnTop_l0 r (k' + 1) i t l = _
    rw [laws_FnTop_l0, hm, if_neg (by simp only [decide_eq_true_eq]; omega)]

/-- The order from which the draws of an order set out. -/
theorem start_ok (r : Int × Src) (n : Nat) (hn : w64 (3 + r.1) = (n : Int)) (hn1 : n ≤ 1000) (k : Nat) (hk : 1100 ≤ k) : laws_FnTop_l1 r k 0 [] = some (mapL n fun i => (i : Int)) ∧ isOrd (mapL n fun i => (i : Int)) n := by
  refine ⟨collect (fun k' i s => laws_FnTop_l1 r k' i s) n (fun i => (i : Int)) (fun k' i s hi hl => ?_) (fun k' s => ?_) k (by omega), by rw [mapL_length], fun a ha => ?_, fun a b hab hb => ?_⟩
  · show laws_FnTop_l1 r (k' + 1) i s = _
    rw [laws_FnTop_l1, hn, if_pos (decide_eq_true (by omega)), if_pos (by simp only [List.length_singleton]; omega), w64_succ (by omega) (show (i : Int) < n by omega) (by omega)]
    rfl
  · show laws_FnTop_l1 r (k' + 1) n s = _
    rw [laws_FnTop_l1, hn, if_neg (by simp only [decide_eq_true_eq]; omega)]
  · rw [mapL_length] at ha
    rw [mapL_get _ _ _ ha]
    omega
  · rw [mapL_length] at hb
    rw [mapL_get _ _ _ hb, mapL_get _ _ _ (by omega)]
    omega
theorem swap_get (l : List Int) {i r : Nat} (hi : i < l.length) (hr : r < l.length) {a : Nat} (ha : a < l.length) : ((l.set i (l.getD r 0)).set r (l.getD i 0)).getD a 0 = l.getD (if a = r then i else if a = i then r else a) 0 := by
  simp only [List.getD, List.getElem?_set, List.length_set]
  by_cases h1 : r = a
  · subst h1; simp [ha]
  · by_cases h2 : i = a
    · subst h2; simp [h1, ha, Ne.symm h1, hr]
    · simp [h1, h2, Ne.symm h1, Ne.symm h2]
theorem swap_ord {l : List Int} {n : Int} (h : isOrd l n) {i r : Nat} (hi : i < l.length) (hr : r < l.length) : isOrd ((l.set i (l.getD r 0)).set r (l.getD i 0)) n := by
  obtain ⟨h1, h2, h3⟩ := h
  have hlt : ∀ a : Nat, a < l.length → (if a = r then i else if a = i then r else a) < l.length := fun a ha => by
    split
    · exact hi
    · split
      · exact hr
      · exact ha
  refine ⟨by simp only [List.length_set]; exact h1, fun a ha => ?_, fun a b hab hb => ?_⟩
  · simp only [List.length_set] at ha
    rw [swap_get l hi hr ha]
    exact h2 _ (hlt a ha)
  · simp only [List.length_set] at hb
    rw [swap_get l hi hr (by omega), swap_get l hi hr hb]
    have hne : (if a = r then i else if a = i then r else a) ≠ (if b = r then i else if b = i then r else b) := by
      (repeat' split) <;> omega
    rcases Nat.lt_or_gt_of_ne hne with w | w
    · exact h3 _ _ w (hlt b hb)
    · exact fun e => h3 _ _ w (hlt a (by omega)) e.symm
theorem order_ok (n : Nat) (hn : n ≤ 1000) : ∀ (i k : Nat) (s : Src) (l : List Int), i < n → i < k → okS s → isOrd l n → ∃ l', laws_FnTop_l2 k i s l = some l' ∧ isOrd l' n
  | 0, k, s, l, hi, hk, hs, hl => by
    obtain ⟨k, rfl⟩ : ∃ q, k = q + 1 := ⟨k - 1, by omega⟩
    exact ⟨l, by rw [laws_FnTop_l2, if_neg (by simp)], hl⟩
  | i + 1, k, s, l, hi, hk, hs, hl => by
    obtain ⟨k, rfl⟩ : ∃ q, k = q + 1 := ⟨k - 1, by omega⟩
    have hlen := hl.1
    have hw : w64 (((i + 1 : Nat) : Int) + 1) = ((i + 1 : Nat) : Int) + 1 := w64_id (by omega)
    have hw2 : w64 (((i + 1 : Nat) : Int) - 1) = (i : Int) := by rw [w64_id (by omega)]; omega
    obtain ⟨v, s', e, hs', v0, v1⟩ := dice_ok s (((i + 1 : Nat) : Int) + 1) hs (by omega)
    obtain ⟨r, rfl⟩ := nat_of v0
    have := swap_ord hl (i := i + 1) (r := r) (by omega) (by omega)
    obtain ⟨l', e', hl'⟩ := order_ok n hn i k s' _ (by omega) (by omega) hs' this
    refine ⟨l', ?_, hl'⟩
    rw [laws_FnTop_l2, if_pos (decide_eq_true (by omega)), hw, e, Option.bind_some, if_pos ⟨by omega, by omega⟩, if_pos ⟨by omega, by omega⟩, if_pos ⟨by omega, by omega⟩, if_pos ⟨by omega, by rw [List.length_set]; omega⟩, hw2, Int.toNat_natCast, Int.toNat_natCast]
    exact e'

/-! ### The colouring with given colours -/
def colL (n : Nat) (l : List Int) : Col := mkC n 2 fun a b => l.getD (eN a b) 0
theorem colL_is {n : Nat} (h1 : 1 ≤ n) (hn : n ≤ 17) {l : List Int} (hl : l.length = tri n) (hz : ∀ z ∈ l, 0 ≤ z ∧ z ≤ 1) : (colL n l).is :=
  mkC_is h1 hn (by omega) _ fun a b hab hb => by
    have := hz _ (mem_getD.2 ⟨eN a b, by rw [hl]; exact eN_lt hab hb hn, rfl⟩)
    omega
theorem colOf_val {k : Nat} (hk : 5000 ≤ k) {n : Nat} (h1 : 1 ≤ n) (hn : n ≤ 17) {l : List Int} (hl : l.length = tri n) (hz : ∀ z ∈ l, 0 ≤ z ∧ z ≤ 1) : impl_ColouringOf k n 2 l = some (colL n l, 0) := by
  have ht := tri_le hn
  unfold impl_ColouringOf impl_areSizes letO
  rw [in_eq, in_eq, decide_eq_true (show (1 : Int) ≤ n ∧ (n : Int) ≤ 17 by omega), edges_tri n hn 0 B136.zero, areIn_val k l _ _ _ (by omega) (by omega), decide_eq_true (show ((l.length : Int) = (tri n : Int) ∧ ∀ z ∈ l, 0 ≤ z ∧ z ≤ w64 (2 - 1)) from ⟨by omega, fun z h => hz z h⟩)]
  simp only [if_true, Option.bind_some, Bool.not_true, Bool.false_eq_true, if_false, show decide ((1 : Int) ≤ 2 ∧ (2 : Int) ≤ 4) = true from rfl]
  rw [made_val (g := fun a b => l.getD (eN a b) 0) hn (by omega) fun i j hij hj => ?_]
  · rfl
  · have := eN_lt hij hj hn
    unfold impl_ColouringOf_c1
    rw [number_eq _ _ (by omega) (by omega), Int.toNat_natCast, Int.toNat_natCast, if_pos ⟨by omega, by omega⟩, Int.toNat_natCast]
end Go.Proofs.Ytjcgphgipleccaa
