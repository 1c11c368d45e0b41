/- Plain laws, collected out of own texts. No conditions beyond those that each lemma states. -/
import Derived.Test.YtghhnpdhehjlaaaPKit
import Derived.Test.YtghhnpdhehjlaaaPBits
import Derived.Test.YtghhnpdhehjlaaaPureCore37
set_option linter.unusedVariables false
set_option linter.unusedSimpArgs false
namespace Go.Proofs.Ytghhnpdhehjlaaa
open Go Go.RowKit Ab

def okS (s : Src) : Prop := 0 ≤ s.i ∧ s.c.length ≤ 4096

theorem mask_range (a : Int) : 0 ≤ bAnd .u64 a 16777215 ∧ bAnd .u64 a 16777215 ≤ 16777215 := by
  unfold bAnd
  have e : (BitVec.ofInt IntKind.u64.bits a &&& BitVec.ofInt IntKind.u64.bits 16777215).toNat ≤ 16777215 := by
    show (BitVec.ofInt 64 a &&& BitVec.ofInt 64 16777215).toNat ≤ 16777215
    rw [BitVec.toNat_and]
    have : (BitVec.ofInt 64 16777215).toNat = 16777215 := by decide
    rw [this]
    exact Nat.and_le_right
  generalize (BitVec.ofInt IntKind.u64.bits a &&& BitVec.ofInt IntKind.u64.bits 16777215).toNat = m at e
  rw [u64_id (by omega)]
  omega

theorem next_ok (s : Src) (n : Int) (h : okS s) : ∃ v s', spec_l01Next s n = some (v, s') ∧ okS s' ∧ (1 ≤ n → 0 ≤ v ∧ v < n) ∧ (n < 1 → v = 0) := by
  unfold spec_l01Next
  obtain ⟨h0, h1⟩ := h
  by_cases hn : n < 1
  · exact ⟨0, s, by simp [hn], ⟨h0, h1⟩, fun h => by omega, fun _ => rfl⟩
  · generalize IntKind.u64.wrap ((IntKind.u64.wrap (s.h * 6364136223846793005)) + 1442695040888963407) = hh
    have hm := mask_range (bShr .u64 hh 33)
    generalize bAnd .u64 (bShr .u64 hh 33) 16777215 = v at hm
    have hn0 : n ≠ 0 := by omega
    have key : ∀ w : Int, 0 ≤ w → (1 ≤ n → 0 ≤ w.tmod n ∧ w.tmod n < n) := fun w hw hn => ⟨Int.tmod_nonneg n hw, Int.tmod_lt_of_pos w (by omega)⟩
    by_cases hi : s.i < (s.c.length : Int)
    · have hb : ((s.c.getD s.i.toNat 0).toNat : Int) < 256 := by have := (s.c.getD s.i.toNat 0).toNat_lt; omega
      refine ⟨(w64 (w64 v + ((s.c.getD s.i.toNat 0).toNat : Int))).tmod n, ⟨s.c, w64 (s.i + 1), hh⟩, ?_, ⟨?_, h1⟩, key _ ?_, fun h => by omega⟩
      · simp only [hn, decide_false, Bool.false_eq_true, if_false, hi, decide_true, if_true, h0, and_self, Option.bind_some, hn0, ne_eq, not_false_eq_true]
      · rw [w64_id (by omega)]; show 0 ≤ s.i + 1; omega
      · rw [w64_id (n := v) (by omega), w64_id (by omega)]; omega
    · refine ⟨(w64 v).tmod n, ⟨s.c, s.i, hh⟩, ?_, ⟨h0, h1⟩, key _ ?_, fun h => by omega⟩
      · simp only [hn, decide_false, Bool.false_eq_true, if_false, hi, Option.bind_some, hn0, ne_eq, not_false_eq_true, if_true]
      · rw [w64_id (by omega)]; omega

theorem pick_ok (s : Src) (l : List Int) (h : okS s) (hl : 1 ≤ l.length) : ∃ v s', spec_l01Pick s l = some (v, s') ∧ okS s' ∧ v ∈ l := by
  unfold spec_l01Pick
  obtain ⟨v, s', e, hs, hv, _⟩ := next_ok s l.length h
  obtain ⟨v0, v1⟩ := hv (by omega)
  have hlt : v.toNat < l.length := by omega
  refine ⟨l.getD v.toNat 0, s', ?_, hs, by simp [List.getD, hlt]⟩
  rw [e]
  simp [v0, v1]

theorem from_ok {k : Nat} (hk : 5000 ≤ k) (c : List UInt8) (hc : c.length ≤ 4096) : ∃ s, spec_l01From k c = some s ∧ okS s := by
  unfold spec_l01From
  have := loopI (f := fun k' i (s : Src) => spec_l01From_l0 c k' i s) (c.length : Int) 0 (fun i s => s.i = 0 ∧ s.c = c) (fun s => okS s) ?_ ?_ k 0 ⟨c, 0, IntKind.u64.wrap (13621 + (IntKind.u64.wrap (c.length : Int)))⟩ (by omega) (by omega) ⟨rfl, rfl⟩
  · obtain ⟨s, e, h⟩ := this
    exact ⟨s, by rw [e]; rfl, h⟩
  · rintro k' i s h0 h1 ⟨q1, q2⟩
    left
    refine ⟨⟨s.c, s.i, IntKind.u64.wrap ((IntKind.u64.wrap ((IntKind.u64.wrap (s.h * 1099511628211)) + ((c.getD i.toNat 0).toNat : Int))) + 193)⟩, ?_, q1, q2⟩
    show spec_l01From_l0 c (k' + 1) i s = _
    rw [spec_l01From_l0, w64_succ h0 h1 (by omega)]
    have h2 : i < 4096 := by omega
    simp only [letO, h1, h2, decide_true, if_true, Option.bind_some, h0, and_self]
  · rintro k' i s h0 h1 ⟨q1, q2⟩
    have hn : ¬ i < (c.length : Int) := by omega
    refine ⟨s, ?_, by rw [q1]; exact Int.le_refl _, by rw [q2]; exact hc⟩
    show spec_l01From_l0 c (k' + 1) i s = _
    rw [spec_l01From_l0]
    simp [letO, hn]

def isOrd (n : Nat) (l : List Int) : Prop := l.length = n ∧ l.Nodup ∧ ∀ z ∈ l, 0 ≤ z ∧ z < n

theorem order_ok {k : Nat} (hk : 5000 ≤ k) (s : Src) (n : Nat) (h : okS s) (hn : n ≤ 1000) : ∃ l s', spec_l01DrawOrder k s n = some (l, s') ∧ okS s' ∧ isOrd n l := by
  unfold spec_l01DrawOrder
  have := loopI (f := fun k' i (t : Src × List Int) => spec_l01DrawOrder_l0 n k' i t.1 t.2) (n : Int) 0 (fun i t => i ≤ n ∧ okS t.1 ∧ isOrd i.toNat t.2) (fun t => okS t.1 ∧ isOrd n t.2) ?_ ?_ k 0 (s, []) (by omega) (by omega) ⟨by omega, h, rfl, by simp, by simp⟩
  · obtain ⟨⟨s', l⟩, e, h1, h2⟩ := this
    simp only at e
    exact ⟨l, s', by rw [e]; rfl, h1, h2⟩
  · rintro k' i ⟨t, l⟩ h0 h1 ⟨_, q1, q2, q3, q4⟩
    left
    obtain ⟨m, rfl⟩ := nat_of h0
    simp only [Int.toNat_natCast] at q1 q2 q3 q4
    obtain ⟨v, t', e, ht, hv, _⟩ := next_ok t ((m : Int) + 1) q1
    obtain ⟨v0, v1⟩ := hv (by omega)
    have hperm : ((l.take v.toNat ++ [(m : Int)]) ++ l.drop v.toNat).Perm ((m : Int) :: l) := by
      rw [List.append_assoc]
      refine List.perm_middle.trans (List.Perm.cons _ ?_)
      show (l.take v.toNat ++ l.drop v.toNat).Perm l
      rw [List.take_append_drop]
    refine ⟨(t', (l.take v.toNat ++ [(m : Int)]) ++ l.drop v.toNat), ?_, by omega, ht, ?_, ?_, ?_⟩
    · show spec_l01DrawOrder_l0 n (k' + 1) m t l = _
      rw [spec_l01DrawOrder_l0, w64_succ h0 h1 (by omega), e]
      have e1 : v ≤ ((l.length : Nat) : Int) := by omega
      have e2 : ((l.drop 0).take (v.toNat - 0)) = l.take v.toNat := by simp
      have e3 : (l.drop v.toNat).take (l.length - v.toNat) = l.drop v.toNat := by rw [List.take_of_length_le (by simp)]
      have e4 : spec_l01Own (l.take v.toNat) = some (l.take v.toNat) := by
        unfold spec_l01Own
        rw [if_pos (by simp; omega)]; rfl
      simp only [h1, decide_true, if_true, Option.bind_some, v0, e1, Int.le_refl, Nat.le_refl, and_self, e2, e3, e4]
      have f1 : (l.take v.toNat).length + ([(m : Int)]).length ≤ 1099511627776 := by simp; omega
      have f2 : (l.take v.toNat ++ [(m : Int)]).length + (l.drop v.toNat).length ≤ 1099511627776 := by simp; omega
      first
        | rw [if_pos f1, if_pos f2]
        | rw [if_pos f2]
    · simp only
      rw [hperm.length_eq]
      simp only [List.length_cons, q2]; omega
    · simp only
      rw [hperm.nodup_iff, List.nodup_cons]
      exact ⟨fun hm => by have := q4 _ hm; omega, q3⟩
    · intro z hz
      simp only at hz
      rw [hperm.mem_iff, List.mem_cons] at hz
      have e1 : ((m : Int) + 1).toNat = m + 1 := by omega
      rw [e1]
      rcases hz with rfl | hz
      · omega
      · have := q4 z hz; omega
  · rintro k' i ⟨t, l⟩ h0 h1 ⟨q0, q1, q2⟩
    have : i = n := by omega
    subst this
    refine ⟨(t, l), ?_, q1, by simpa using q2⟩
    show spec_l01DrawOrder_l0 n (k' + 1) n t l = _
    rw [spec_l01DrawOrder_l0]; simp

theorem isOrd.two {n : Nat} {l : List Int} (h : isOrd n l) (hn : 2 ≤ n) : ∃ a b, l.getD 0 0 = a ∧ l.getD 1 0 = b ∧ a ≠ b ∧ (0 ≤ a ∧ a < n) ∧ (0 ≤ b ∧ b < n) := by
  obtain ⟨h1, h2, h3⟩ := h
  match l, h1 with
  | a :: b :: t, _ =>
    refine ⟨a, b, rfl, rfl, fun e => ?_, h3 a (by simp), h3 b (by simp)⟩
    rw [List.nodup_cons] at h2
    exact h2.1 (by simp [e])
  | [a], h1 => simp at h1; omega
  | [], h1 => simp at h1; omega

theorem isOrd.ne {n : Nat} {l : List Int} (h : isOrd n l) {i j : Nat} (hi : i < n) (hj : j < n) (hij : i ≠ j) : l.getD i 0 ≠ l.getD j 0 := by
  obtain ⟨h1, h2, h3⟩ := h
  have e1 : l.getD i 0 = l[i]'(by omega) := by simp [List.getD, show i < l.length by omega]
  have e2 : l.getD j 0 = l[j]'(by omega) := by simp [List.getD, show j < l.length by omega]
  rw [e1, e2]
  exact fun e => hij ((List.getElem_inj h2).1 e)

theorem isOrd.get {n : Nat} {l : List Int} (h : isOrd n l) {i : Nat} (hi : i < n) : 0 ≤ l.getD i 0 ∧ l.getD i 0 < n := by
  obtain ⟨h1, h2, h3⟩ := h
  have e1 : l.getD i 0 = l[i]'(by omega) := by simp [List.getD, show i < l.length by omega]
  rw [e1]
  exact h3 _ (List.getElem_mem _)

theorem edge_ok {a b : Int} (ha : 0 ≤ a ∧ a < 17) (hb : 0 ≤ b ∧ b < 17) (h : a ≠ b) : 0 ≤ spec_l01Edge a b ∧ spec_l01Edge a b < 136 := by
  rw [edge_eq a b ha hb]
  have := eN_136 (i := a.toNat) (j := b.toNat) (by omega) (by omega) (by omega)
  omega

theorem half_ok (n : Int) (h : 1 ≤ n ∧ n ≤ 17) : 0 ≤ w64 ((w64 (n * (w64 (n - 1)))).tdiv 2) ∧ w64 ((w64 (n * (w64 (n - 1)))).tdiv 2) ≤ 136 := by
  have key : ∀ m : Nat, m ≤ 17 → 1 ≤ m → 0 ≤ w64 ((w64 ((m : Int) * (w64 ((m : Int) - 1)))).tdiv 2) ∧ w64 ((w64 ((m : Int) * (w64 ((m : Int) - 1)))).tdiv 2) ≤ 136 := by decide +kernel
  obtain ⟨m, rfl⟩ := nat_of (show 0 ≤ n by omega)
  exact key m (by omega) (by omega)

theorem drawOf_ok {k : Nat} (hk : 5000 ≤ k) (s : Src) (n c : Int) (h : okS s) (hn : 1 ≤ n ∧ n ≤ 17) : ∃ x s', spec_l01DrawOf k s n c = some (x, s') ∧ okS s' ∧ x.p = n ∧ x.k = c := by
  unfold spec_l01DrawOf
  obtain ⟨v, s1, e, hs, _⟩ := next_ok s c h
  rw [e]
  simp only [Option.bind_some]
  have hE := half_ok n hn
  have := loopI (f := fun k' i (t : Src × Col) => spec_l01DrawOf_l0 n c (v, s1) k' i t.1 t.2) (w64 ((w64 (n * (w64 (n - 1)))).tdiv 2)) 0 (fun i t => okS t.1 ∧ t.2.p = n ∧ t.2.k = c) (fun t => okS t.1 ∧ t.2.p = n ∧ t.2.k = c) ?_ ?_ k 0 (s1, ⟨n, c, B136.zero⟩) (by omega) (by omega) ⟨hs, rfl, rfl⟩
  · obtain ⟨⟨s', x⟩, e, h1, h2, h3⟩ := this
    simp only at e
    exact ⟨x, s', by rw [e]; rfl, h1, h2, h3⟩
  · rintro k' i ⟨t, x⟩ h0 h1 ⟨q1, q2, q3⟩
    left
    obtain ⟨a, t1, e1, ht1, _⟩ := next_ok t c q1
    obtain ⟨b, t2, e2, ht2, _⟩ := next_ok t1 5 ht1
    have hi : i < 136 := by omega
    by_cases hb : b = 0
    · refine ⟨(t2, x.set i.toNat (toByte v)), ?_, ht2, q2, q3⟩
      show spec_l01DrawOf_l0 n c (v, s1) (k' + 1) i t x = _
      rw [spec_l01DrawOf_l0, w64_succ h0 h1 (by omega), e1]
      simp only [Option.bind_some, e2, h1, decide_true, if_true, hb, h0, hi, and_self]
    · refine ⟨(t2, x.set i.toNat (toByte a)), ?_, ht2, q2, q3⟩
      show spec_l01DrawOf_l0 n c (v, s1) (k' + 1) i t x = _
      rw [spec_l01DrawOf_l0, w64_succ h0 h1 (by omega), e1]
      simp only [Option.bind_some, e2, h1, decide_true, if_true, hb, decide_false, Bool.false_eq_true, if_false, h0, hi, and_self]
  · rintro k' i ⟨t, x⟩ h0 h1 q
    refine ⟨(t, x), ?_, q⟩
    show spec_l01DrawOf_l0 n c (v, s1) (k' + 1) i t x = _
    rw [spec_l01DrawOf_l0]
    have : ¬ i < w64 ((w64 (n * (w64 (n - 1)))).tdiv 2) := by omega
    simp [this]

theorem circle_ok {k : Nat} (hk : 5000 ≤ k) (n : Int) (hn : 1 ≤ n ∧ n ≤ 17) (l : List Int) (hl : l.length ≤ 100) : ∃ x, spec_l01Circle k n l = some x ∧ x.p = n ∧ x.k = 2 := by
  unfold spec_l01Circle
  have := loopI (f := fun k' j (y : Col) => spec_l01Circle_l0 k n l k' j y) n 1 (fun j y => y.p = n ∧ y.k = 2) (fun y => y.p = n ∧ y.k = 2) ?_ ?_ k 1 ⟨n, 2, B136.zero⟩ (by omega) (by omega) ⟨rfl, rfl⟩
  · obtain ⟨y, e, h⟩ := this
    exact ⟨y, by rw [e]; rfl, h⟩
  · rintro k' j y h0 h1 ⟨q1, q2⟩
    left
    have := loopI (f := fun k' i (y : Col) => spec_l01Circle_l1 k l j k' i y) j 0 (fun i y => y.p = n ∧ y.k = 2) (fun y => y.p = n ∧ y.k = 2) ?_ ?_ k 0 y (by omega) (by omega) ⟨q1, q2⟩
    · obtain ⟨y', e, h⟩ := this
      refine ⟨y', ?_, h⟩
      show spec_l01Circle_l0 k n l (k' + 1) j y = _
      rw [spec_l01Circle_l0, w64_succ (by omega) h1 (by omega), e]
      simp [h1]
    · rintro k'' i z g0 g1 ⟨p1, p2⟩
      left
      have := loopI (f := fun k' t (b : UInt8) => spec_l01Circle_l2 l j i k' b t) (l.length : Int) 0 (fun _ _ => True) (fun _ => True) ?_ ?_ k 0 (1 : UInt8) (by omega) (by omega) trivial
      · obtain ⟨b, e, _⟩ := this
        have he := edge_ok (a := i) (b := j) (by omega) (by omega) (by omega)
        refine ⟨z.set (spec_l01Edge i j).toNat b, ?_, p1, p2⟩
        show spec_l01Circle_l1 k l j (k'' + 1) i z = _
        rw [spec_l01Circle_l1, w64_succ g0 g1 (by omega), e]
        simp only [g1, decide_true, if_true, Option.bind_some, he.1, he.2, and_self]
      · intro k3 t b t0 t1 _
        left
        by_cases hc : l.getD t.toNat 0 = w64 (j - i)
        · refine ⟨0, ?_, trivial⟩
          show spec_l01Circle_l2 l j i (k3 + 1) b t = _
          rw [spec_l01Circle_l2, w64_succ t0 t1 (by omega)]
          simp only [t1, t0, decide_true, if_true, and_self, hc, Option.bind_some]
        · refine ⟨b, ?_, trivial⟩
          show spec_l01Circle_l2 l j i (k3 + 1) b t = _
          rw [spec_l01Circle_l2, w64_succ t0 t1 (by omega)]
          simp only [t1, t0, decide_true, if_true, and_self, hc, decide_false, Bool.false_eq_true, if_false, Option.bind_some]
      · intro k3 t b t0 t1 _
        refine ⟨b, ?_, trivial⟩
        show spec_l01Circle_l2 l j i (k3 + 1) b t = _
        rw [spec_l01Circle_l2]
        have : ¬ t < (l.length : Int) := by omega
        simp [this]
    · rintro k'' i z g0 g1 q
      refine ⟨z, ?_, q⟩
      show spec_l01Circle_l1 k l j (k'' + 1) i z = _
      rw [spec_l01Circle_l1]
      have : ¬ i < j := by omega
      simp [this]
  · rintro k' j y h0 h1 q
    refine ⟨y, ?_, q⟩
    show spec_l01Circle_l0 k n l (k' + 1) j y = _
    rw [spec_l01Circle_l0]
    have : ¬ j < n := by omega
    simp [this]

theorem xor_ok (i j : Nat) (hi : i < 16) (hj : j < 16) : 0 ≤ bXor .i64 (i : Int) (j : Int) ∧ bXor .i64 (i : Int) (j : Int) < 16 := by
  rw [bXor_nat (by omega) (by omega)]
  have := Nat.xor_lt_two_pow (x := i) (y := j) (n := 4) hi hj
  omega

theorem sixteen_ok {k : Nat} (hk : 5000 ≤ k) : ∃ x, spec_l01Named_l0 k k 1 (⟨16, 3, B136.zero⟩ : Col) = some x ∧ x.p = 16 := by
  have := loopI (f := fun k' j (y : Col) => spec_l01Named_l0 k k' j y) 16 1 (fun j y => y.p = 16) (fun y => y.p = 16) ?_ ?_ k 1 ⟨16, 3, B136.zero⟩ (by omega) (by omega) rfl
  · exact this
  · intro k' j y h0 h1 q
    left
    have := loopI (f := fun k' i (y : Col) => spec_l01Named_l1 j k' i y) j 0 (fun i y => y.p = 16) (fun y => y.p = 16) ?_ ?_ k 0 y (by omega) (by omega) q
    · obtain ⟨y', e, h⟩ := this
      refine ⟨y', ?_, h⟩
      show spec_l01Named_l0 k (k' + 1) j y = _
      rw [spec_l01Named_l0, w64_succ (by omega) h1 (by omega), e]
      simp [h1]
    · intro k'' i z g0 g1 p
      left
      have he := edge_ok (a := i) (b := j) (by omega) (by omega) (by omega)
      have hx := xor_ok i.toNat j.toNat (by omega) (by omega)
      rw [Int.toNat_of_nonneg g0, Int.toNat_of_nonneg (show 0 ≤ j by omega)] at hx
      refine ⟨z.set (spec_l01Edge i j).toNat (([0, 0, 1, 1, 2, 2, 2, 1, 0, 2, 0, 1, 0, 1, 2, 0] : List UInt8).getD (bXor .i64 i j).toNat 0), ?_, p⟩
      show spec_l01Named_l1 j (k'' + 1) i z = _
      rw [spec_l01Named_l1, w64_succ g0 g1 (by omega)]
      rw [if_pos (by simpa using g1), if_pos ⟨hx.1, by simpa using hx.2⟩, if_pos he]
    · intro k'' i z g0 g1 q
      refine ⟨z, ?_, q⟩
      show spec_l01Named_l1 j (k'' + 1) i z = _
      rw [spec_l01Named_l1]
      have : ¬ i < j := by omega
      simp [this]
  · intro k' j y h0 h1 q
    refine ⟨y, ?_, q⟩
    show spec_l01Named_l0 k (k' + 1) j y = _
    rw [spec_l01Named_l0]
    have : ¬ j < 16 := by omega
    simp [this]

theorem named5_ok {k : Nat} (hk : 5000 ≤ k) : ∃ x, spec_l01Named k (⟨#[112, 101, 110, 116, 97, 103, 111, 110]⟩ : ByteArray) = some (x, true) ∧ x.p = 5 := by
  obtain ⟨x, e, hx, _⟩ := circle_ok hk 5 (by omega) [1, 4] (by simp)
  refine ⟨x, ?_, hx⟩
  unfold spec_l01Named
  rw [if_pos (by decide), e]
  rfl

theorem named_ok {k : Nat} (hk : 5000 ≤ k) (j : Nat) (hj : j < 5) : ∃ x, spec_l01Named k (spec_l01Names.getD j ByteArray.empty) = some (x, true) ∧ 5 ≤ x.p ∧ x.p ≤ 17 := by
  have hc : j = 0 ∨ j = 1 ∨ j = 2 ∨ j = 3 ∨ j = 4 := by omega
  unfold spec_l01Named
  rcases hc with rfl | rfl | rfl | rfl | rfl
  · obtain ⟨x, e, hx, _⟩ := circle_ok hk 5 (by omega) [1, 4] (by simp)
    refine ⟨x, ?_, by omega, by omega⟩
    rw [if_pos (by decide), e]; rfl
  · obtain ⟨x, e, hx, _⟩ := circle_ok hk 8 (by omega) [1, 4, 7] (by simp)
    refine ⟨x, ?_, by omega, by omega⟩
    rw [if_neg (by decide), if_pos (by decide), e]; rfl
  · obtain ⟨x, e, hx, _⟩ := circle_ok hk 13 (by omega) [1, 5, 8, 12] (by simp)
    refine ⟨x, ?_, by omega, by omega⟩
    rw [if_neg (by decide), if_neg (by decide), if_pos (by decide), e]; rfl
  · obtain ⟨x, e, hx, _⟩ := circle_ok hk 17 (by omega) [1, 2, 4, 8, 9, 13, 15, 16] (by simp)
    refine ⟨x, ?_, by omega, by omega⟩
    rw [if_neg (by decide), if_neg (by decide), if_neg (by decide), if_pos (by decide), e]; rfl
  · obtain ⟨x, e, hx⟩ := sixteen_ok hk
    refine ⟨x, ?_, by omega, by omega⟩
    rw [if_neg (by decide), if_neg (by decide), if_neg (by decide), if_neg (by decide), if_pos (by decide), e]; rfl

theorem renamed_ok {k : Nat} (hk : 5000 ≤ k) (x : Col) (l : List Int) (hp : 1 ≤ x.p ∧ x.p ≤ 17) (hl : isOrd x.p.toNat l) : ∃ y, spec_l01Renamed k x l = some y ∧ y.p = x.p ∧ y.k = x.k := by
  unfold spec_l01Renamed
  have hll := hl.1
  have := loopI (f := fun k' j (y : Col) => spec_l01Renamed_l0 k x l k' j y) x.p 1 (fun j y => y.p = x.p ∧ y.k = x.k) (fun y => y.p = x.p ∧ y.k = x.k) ?_ ?_ k 1 ⟨x.p, x.k, B136.zero⟩ (by omega) (by omega) ⟨rfl, rfl⟩
  · obtain ⟨y, e, h⟩ := this
    exact ⟨y, by rw [e]; rfl, h⟩
  · rintro k' j y h0 h1 ⟨q1, q2⟩
    left
    have := loopI (f := fun k' i (y : Col) => spec_l01Renamed_l1 x l j k' i y) j 0 (fun i y => y.p = x.p ∧ y.k = x.k) (fun y => y.p = x.p ∧ y.k = x.k) ?_ ?_ k 0 y (by omega) (by omega) ⟨q1, q2⟩
    · obtain ⟨y', e, h⟩ := this
      refine ⟨y', ?_, h⟩
      show spec_l01Renamed_l0 k x l (k' + 1) j y = _
      rw [spec_l01Renamed_l0, w64_succ (by omega) h1 (by omega), e]
      simp [h1]
    · rintro k'' i z g0 g1 ⟨p1, p2⟩
      left
      have hne := hl.ne (i := i.toNat) (j := j.toNat) (by omega) (by omega) (by omega)
      have hi := hl.get (i := i.toNat) (by omega)
      have hj := hl.get (i := j.toNat) (by omega)
      have he := edge_ok (a := l.getD i.toNat 0) (b := l.getD j.toNat 0) (by omega) (by omega) hne
      refine ⟨z.set (spec_l01Edge (l.getD i.toNat 0) (l.getD j.toNat 0)).toNat (toByte (x.cc i j)), ?_, p1, p2⟩
      show spec_l01Renamed_l1 x l j (k'' + 1) i z = _
      rw [spec_l01Renamed_l1, w64_succ g0 g1 (by omega), specAt_eq x i j g0 g1 (by omega) (by omega)]
      have a1 : i < (l.length : Int) := by omega
      have a2 : j < (l.length : Int) := by omega
      have a3 : 0 ≤ j := by omega
      simp only [g1, decide_true, if_true, g0, a1, a2, a3, and_self, Option.bind_some, he.1, he.2]
    · rintro k'' i z g0 g1 q
      refine ⟨z, ?_, q⟩
      show spec_l01Renamed_l1 x l j (k'' + 1) i z = _
      rw [spec_l01Renamed_l1]
      have : ¬ i < j := by omega
      simp [this]
  · rintro k' j y h0 h1 q
    refine ⟨y, ?_, q⟩
    show spec_l01Renamed_l0 k x l (k' + 1) j y = _
    rw [spec_l01Renamed_l0]
    have : ¬ j < x.p := by omega
    simp [this]

theorem with_ok (x : Col) (a b c : Int) (ha : 0 ≤ a ∧ a < 17) (hb : 0 ≤ b ∧ b < 17) (h : a ≠ b) : ∃ y, spec_l01With x a b c = some y ∧ y.p = x.p ∧ y.k = x.k := by
  unfold spec_l01With
  rw [if_pos (edge_ok ha hb h)]
  exact ⟨_, rfl, rfl, rfl⟩

theorem few_ok {k : Nat} (hk : 5000 ≤ k) (s : Src) (x : Col) (h : okS s) (hp : 5 ≤ x.p ∧ x.p ≤ 17) : ∀ (m : Nat) (k' : Nat), m < k' → m ≤ 10 → ∀ (s : Src) (x : Col), okS s → 5 ≤ x.p ∧ x.p ≤ 17 → ∃ s' y, spec_l01Draw_l0 k k' m s x = some (s', y) ∧ okS s' ∧ 5 ≤ y.p ∧ y.p ≤ 17 := by
  intro m
  induction m with
  | zero =>
    intro k' hk' _ s x h hp
    obtain ⟨k', rfl⟩ : ∃ q, k' = q + 1 := ⟨k' - 1, by omega⟩
    exact ⟨s, x, by rw [spec_l01Draw_l0]; simp, h, hp⟩
  | succ m ih =>
    intro k' hk' hm s x h hp
    obtain ⟨k', rfl⟩ : ∃ q, k' = q + 1 := ⟨k' - 1, by omega⟩
    obtain ⟨n, hn⟩ := nat_of (show 0 ≤ x.p by omega)
    obtain ⟨l, s1, e1, hs1, hl⟩ := order_ok hk s n h (by omega)
    obtain ⟨a, b, ea, eb, hab, ha, hb⟩ := hl.two (by omega)
    obtain ⟨v, s2, e2, hs2, _⟩ := next_ok s1 x.k hs1
    obtain ⟨y, e3, hy, _⟩ := with_ok x a b v (by omega) (by omega) hab
    obtain ⟨s', z, e4, h4⟩ := ih k' (by omega) (by omega) s2 y hs2 (by omega)
    refine ⟨s', z, ?_, h4⟩
    have hpos : (0 : Int) < ((m + 1 : Nat) : Int) := by omega
    have hl1 := hl.1
    have c0 : (0 : Int) < (l.length : Int) := by omega
    have c1 : (1 : Int) < (l.length : Int) := by omega
    rw [spec_l01Draw_l0, hn, e1]
    have g0 : l.getD (0 : Int).toNat 0 = a := ea
    have g1 : l.getD (1 : Int).toNat 0 = b := eb
    have ew : w64 (((m + 1 : Nat) : Int) - 1) = (m : Int) := by rw [w64_id (by omega)]; omega
    simp only [hpos, decide_true, if_true, Option.bind_some, c0, c1, g0, g1, e2, e3, ew, e4, Int.le_refl, and_self, show (0 : Int) ≤ 1 by omega]

theorem small_ok {k : Nat} (hk : 5000 ≤ k) (s : Src) (h : okS s) : ∃ x s', spec_l01Small k s = some (x, s') ∧ okS s' := by
  unfold spec_l01Small
  obtain ⟨v, s1, e1, hs1, _⟩ := next_ok s 5 h
  rw [e1]
  simp only [Option.bind_some]
  by_cases hv : v = 0
  · obtain ⟨x, e2', hx5⟩ := named5_ok hk
    obtain ⟨l, s2, e3, hs2, hl⟩ := order_ok hk s1 5 hs1 (by omega)
    obtain ⟨y, e4, _⟩ := renamed_ok hk x l (by omega) (by rw [hx5]; exact hl)
    refine ⟨y, s2, ?_, hs2⟩
    have e3' : spec_l01DrawOrder k s1 5 = some (l, s2) := e3
    simp only [hv, decide_true, if_true, e2', e3', e4, Option.bind_some]
  · obtain ⟨a, s2, e2, hs2, ha, _⟩ := next_ok s1 6 hs1
    obtain ⟨b, s3, e3, hs3, _⟩ := pick_ok s2 [1, 2, 2, 2, 3, 4] hs2 (by simp)
    have := ha (by omega)
    obtain ⟨x, s4, e4, hs4, _⟩ := drawOf_ok hk s3 (w64 (1 + a)) b hs3 (by rw [w64_id (by omega)]; omega)
    exact ⟨x, s4, by simp only [hv, decide_false, Bool.false_eq_true, if_false, e2, e3, e4, Option.bind_some], hs4⟩

theorem draw_ok {k : Nat} (hk : 5000 ≤ k) (s : Src) (h : okS s) : ∃ x s', spec_l01Draw k s = some (x, s') ∧ okS s' := by
  unfold spec_l01Draw
  obtain ⟨v, s1, e1, hs1, _⟩ := next_ok s 4 h
  rw [e1]
  simp only [Option.bind_some]
  by_cases h0 : v = 0
  · have hlen : (spec_l01Names.length : Int) = 5 := rfl
    obtain ⟨a, s2, e2, hs2, ha, _⟩ := next_ok s1 5 hs1
    have ha' := ha (by omega)
    obtain ⟨x, e3, hx⟩ := named_ok hk a.toNat (by omega)
    obtain ⟨n, hn⟩ := nat_of (show 0 ≤ x.p by omega)
    obtain ⟨l, s3, e4, hs3, hl⟩ := order_ok hk s2 n hs2 (by omega)
    obtain ⟨y, e5, hy, _⟩ := renamed_ok hk x l (by omega) (by rw [hn]; exact hl)
    obtain ⟨b, s4, e6, hs4, _⟩ := next_ok s3 2 hs3
    by_cases hb : b = 0
    · obtain ⟨m, s5, e7, hs5, hm, _⟩ := next_ok s4 3 hs4
      have hm' := hm (by omega)
      obtain ⟨q, hq⟩ := nat_of hm'.1
      obtain ⟨s6, z, e8, hs6, _⟩ := few_ok hk s5 y hs5 (by omega) q k (by omega) (by omega) s5 y hs5 (by omega)
      exact ⟨z, s6, by simp only [h0, hb, hn, hq, decide_true, if_true, hlen, e2, ha'.1, ha'.2, and_self, e3, e4, e5, e6, e7, e8, Option.bind_some], hs6⟩
    · exact ⟨y, s4, by simp only [h0, hb, hn, decide_true, if_true, decide_false, Bool.false_eq_true, if_false, hlen, e2, ha'.1, ha'.2, and_self, e3, e4, e5, e6, Option.bind_some], hs4⟩
  · by_cases h1 : v = 1
    · obtain ⟨a, s2, e2, hs2, ha, _⟩ := next_ok s1 17 hs1
      have ha' := ha (by omega)
      obtain ⟨b, s3, e3, hs3, _⟩ := pick_ok s2 [2, 2, 3, 4] hs2 (by simp)
      obtain ⟨x, s4, e4, hs4, _⟩ := drawOf_ok hk s3 (w64 (1 + a)) b hs3 (by rw [w64_id (by omega)]; omega)
      refine ⟨x, s4, ?_, hs4⟩
      have h10 : ¬ ((1 : Int) = 0) := by omega
      simp only [h1, h10, decide_true, if_true, decide_false, Bool.false_eq_true, if_false, e2, e3, e4, Option.bind_some]
    · obtain ⟨x, s2, e2, hs2⟩ := small_ok hk s1 hs1
      exact ⟨x, s2, by simp only [h0, h1, decide_false, Bool.false_eq_true, if_false, e2, Option.bind_some], hs2⟩

theorem bad_ok (s : Src) (x : Col) (h : okS s) : ∃ y s', spec_l01Bad s x = some (y, s') ∧ okS s' := by
  unfold spec_l01Bad
  obtain ⟨v, s1, e1, hs1, _⟩ := next_ok s 50 h
  rw [e1]
  simp only [Option.bind_some]
  by_cases h0 : v = 0
  · obtain ⟨a, s2, e2, hs2, _⟩ := pick_ok s1 [0, 18, -1, w64 (x.p - 1)] hs1 (by simp)
    exact ⟨⟨a, x.k, x.e⟩, s2, by simp only [h0, decide_true, if_true, e2, Option.bind_some], hs2⟩
  · by_cases h1 : v = 1
    · obtain ⟨a, s2, e2, hs2, _⟩ := pick_ok s1 [0, 5, -1] hs1 (by simp)
      have h10 : ¬ ((1 : Int) = 0) := by omega
      exact ⟨⟨x.p, a, x.e⟩, s2, by simp only [h1, h10, decide_true, if_true, decide_false, Bool.false_eq_true, if_false, e2, Option.bind_some], hs2⟩
    · by_cases h2 : v = 2
      · obtain ⟨a, s2, e2, hs2, ha, _⟩ := next_ok s1 136 hs1
        have ha' := ha (by omega)
        obtain ⟨b, s3, e3, hs3, _⟩ := pick_ok s2 [1, 4, 200] hs2 (by simp)
        have h20 : ¬ ((2 : Int) = 0) := by omega
        have h21 : ¬ ((2 : Int) = 1) := by omega
        exact ⟨x.set a.toNat (toByte b), s3, by simp only [h2, h20, h21, decide_true, if_true, decide_false, Bool.false_eq_true, if_false, e2, e3, ha'.1, ha'.2, and_self, Option.bind_some], hs3⟩
      · exact ⟨x, s1, by simp only [h0, h1, h2, decide_false, Bool.false_eq_true, if_false, Option.bind_some], hs1⟩

theorem spoil_ok {k : Nat} (hk : 5000 ≤ k) (s : Src) (h : okS s) : ∃ x s', spec_l01Spoil k s = some (x, s') ∧ okS s' := by
  unfold spec_l01Spoil
  obtain ⟨x, s1, e1, hs1⟩ := draw_ok hk s h
  obtain ⟨y, s2, e2, hs2⟩ := bad_ok s1 x hs1
  exact ⟨y, s2, by rw [e1]; simp only [Option.bind_some, e2], hs2⟩

theorem near_ok (s : Src) (m : Int) (h : okS s) : ∃ v s', spec_l01Near s m = some (v, s') ∧ okS s' := by
  unfold spec_l01Near
  obtain ⟨v, s1, e1, hs1, _⟩ := next_ok s 14 h
  rw [e1]
  simp only [Option.bind_some]
  by_cases h0 : v = 0
  · obtain ⟨a, s2, e2, hs2, _⟩ := pick_ok s1 [-1, w64 (m + 1), 1099511627776, -4611686018427387904] hs1 (by simp)
    exact ⟨a, s2, by simp only [h0, decide_true, if_true, e2, Option.bind_some], hs2⟩
  · obtain ⟨a, s2, e2, hs2, _⟩ := next_ok s1 (w64 (m + 1)) hs1
    exact ⟨a, s2, by simp only [h0, decide_false, Bool.false_eq_true, if_false, e2, Option.bind_some], hs2⟩

theorem draw4_ok {k : Nat} (hk : 5000 ≤ k) (s : Src) (h : okS s) : ∃ x v s', spec_l04Draw k s = some (x, v, s') ∧ okS s' := by
  unfold spec_l04Draw
  obtain ⟨a, s1, e1, hs1, ha, _⟩ := next_ok s 9 h
  have ha' := ha (by omega)
  obtain ⟨b, s2, e2, hs2, _⟩ := pick_ok s1 [1, 2, 2, 2, 3, 4] hs1 (by simp)
  obtain ⟨x, s3, e3, hs3, _⟩ := drawOf_ok hk s2 (w64 (1 + a)) b hs2 (by rw [w64_id (by omega)]; omega)
  obtain ⟨c, s4, e4, hs4, _⟩ := next_ok s3 3 hs3
  rw [e1]
  simp only [Option.bind_some, e2, e3, e4]
  by_cases h0 : c = 0
  · obtain ⟨y, s5, e5, hs5⟩ := spoil_ok hk s4 hs4
    obtain ⟨v, s6, e6, hs6⟩ := near_ok s5 (if 3 < (if w64 (y.k - 1) < 0 then 0 else w64 (y.k - 1)) then 3 else (if w64 (y.k - 1) < 0 then 0 else w64 (y.k - 1))) hs5
    exact ⟨y, v, s6, by simp only [h0, decide_true, if_true, e5, Option.bind_some, e6], hs6⟩
  · obtain ⟨v, s6, e6, hs6⟩ := near_ok s4 (if 3 < (if w64 (x.k - 1) < 0 then 0 else w64 (x.k - 1)) then 3 else (if w64 (x.k - 1) < 0 then 0 else w64 (x.k - 1))) hs4
    exact ⟨x, v, s6, by simp only [h0, decide_false, Bool.false_eq_true, if_false, Option.bind_some, e6], hs6⟩

end Go.Proofs.Ytghhnpdhehjlaaa
