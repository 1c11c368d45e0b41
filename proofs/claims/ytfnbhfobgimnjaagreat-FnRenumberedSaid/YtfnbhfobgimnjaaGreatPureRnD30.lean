/- Plain laws, collected out of own texts. No conditions beyond those that each lemma states. -/
import Derived.Test.YtfnbhfobgimnjaaGreatPKit
import Derived.Test.YtfnbhfobgimnjaaGreatPBits
import Derived.Test.YtfnbhfobgimnjaaGreatPureRnC30
set_option linter.unusedVariables false
set_option linter.unusedSimpArgs false
namespace Go.Proofs.YtfnbhfobgimnjaaGreat
open Go Go.RowKit Ab

def okS (s : Src) : Prop := 0 ≤ s.i ∧ s.c.length ≤ 4096

theorem mask_range (a : Int) : 0 ≤ bAnd .u64 a 16777215 ∧ bAnd .u64 a 16777215 ≤ 16777215 := by
  unfold bAnd
  have e : (BitVec.ofInt IntKind.u64.bits a &&& BitVec.ofInt IntKind.u64.bits 16777215).toNat ≤ 16777215 := by
    show (BitVec.ofInt 64 a &&& BitVec.ofInt 64 16777215).toNat ≤ 16777215
    rw [BitVec.toNat_and]
    have : (BitVec.ofInt 64 16777215).toNat = 16777215 := by decide
    rw [this]
    exact Nat.and_le_right
  generalize (BitVec.ofInt IntKind.u64.bits a &&& BitVec.ofInt IntKind.u64.bits 16777215).toNat = m at e
  rw [u64_id (by omega)]
  omega

theorem next_ok (s : Src) (n : Int) (h : okS s) : ∃ v s', spec_l01Next s n = some (v, s') ∧ okS s' ∧ (1 ≤ n → 0 ≤ v ∧ v < n) ∧ (n < 1 → v = 0) := by
  unfold spec_l01Next
  obtain ⟨h0, h1⟩ := h
  by_cases hn : n < 1
  · exact ⟨0, s, by simp [hn], ⟨h0, h1⟩, fun h => by omega, fun _ => rfl⟩
  · generalize IntKind.u64.wrap ((IntKind.u64.wrap (s.h * 6364136223846793005)) + 1442695040888963407) = hh
    have hm := mask_range (bShr .u64 hh 33)
    generalize bAnd .u64 (bShr .u64 hh 33) 16777215 = v at hm
    have hn0 : n ≠ 0 := by omega
    have key : ∀ w : Int, 0 ≤ w → (1 ≤ n → 0 ≤ w.tmod n ∧ w.tmod n < n) := fun w hw hn => ⟨Int.tmod_nonneg n hw, Int.tmod_lt_of_pos w (by omega)⟩
    by_cases hi : s.i < (s.c.length : Int)
    · have hb : ((s.c.getD s.i.toNat 0).toNat : Int) < 256 := by have := (s.c.getD s.i.toNat 0).toNat_lt; omega
      refine ⟨(w64 (w64 v + ((s.c.getD s.i.toNat 0).toNat : Int))).tmod n, ⟨s.c, w64 (s.i + 1), hh⟩, ?_, ⟨?_, h1⟩, key _ ?_, fun h => by omega⟩
      · simp only [hn, decide_false, Bool.false_eq_true, if_false, hi, decide_true, if_true, h0, and_self, Option.bind_some, hn0, ne_eq, not_false_eq_true]
      · rw [w64_id (by omega)]; show 0 ≤ s.i + 1; omega
      · rw [w64_id (n := v) (by omega), w64_id (by omega)]; omega
    · refine ⟨(w64 v).tmod n, ⟨s.c, s.i, hh⟩, ?_, ⟨h0, h1⟩, key _ ?_, fun h => by omega⟩
      · simp only [hn, decide_false, Bool.false_eq_true, if_false, hi, Option.bind_some, hn0, ne_eq, not_false_eq_true, if_true]
      · rw [w64_id (by omega)]; omega

theorem pick_ok (s : Src) (l : List Int) (h : okS s) (hl : 1 ≤ l.length) : ∃ v s', spec_l01Pick s l = some (v, s') ∧ okS s' ∧ v ∈ l := by
  unfold spec_l01Pick
  obtain ⟨v, s', e, hs, hv, _⟩ := next_ok s l.length h
  obtain ⟨v0, v1⟩ := hv (by omega)
  have hlt : v.toNat < l.length := by omega
  refine ⟨l.getD v.toNat 0, s', ?_, hs, by simp [List.getD, hlt]⟩
  rw [e]
  simp [v0, v1]

theorem from_ok {k : Nat} (hk : 5000 ≤ k) (c : List UInt8) (hc : c.length ≤ 4096) : ∃ s, spec_l01From k c = some s ∧ okS s := by
  unfold spec_l01From
  have := loopI (f := fun k' i (s : Src) => spec_l01From_l0 c k' i s) (c.length : Int) 0 (fun i s => s.i = 0 ∧ s.c = c) (fun s => okS s) ?_ ?_ k 0 ⟨c, 0, IntKind.u64.wrap (13621 + (IntKind.u64.wrap (c.length : Int)))⟩ (by omega) (by omega) ⟨rfl, rfl⟩
  · obtain ⟨s, e, h⟩ := this
    exact ⟨s, by rw [e]; rfl, h⟩
  · rintro k' i s h0 h1 ⟨q1, q2⟩
    left
    refine ⟨⟨s.c, s.i, IntKind.u64.wrap ((IntKind.u64.wrap ((IntKind.u64.wrap (s.h * 1099511628211)) + ((c.getD i.toNat 0).toNat : Int))) + 193)⟩, ?_, q1, q2⟩
    show spec_l01From_l0 c (k' + 1) i s = _
    rw [spec_l01From_l0, w64_succ h0 h1 (by omega)]
    have h2 : i < 4096 := by omega
    simp only [letO, h1, h2, decide_true, if_true, Option.bind_some, h0, and_self]
  · rintro k' i s h0 h1 ⟨q1, q2⟩
    have hn : ¬ i < (c.length : Int) := by omega
    refine ⟨s, ?_, by rw [q1]; exact Int.le_refl _, by rw [q2]; exact hc⟩
    show spec_l01From_l0 c (k' + 1) i s = _
    rw [spec_l01From_l0]
    simp [letO, hn]

def isOrdD (n : Nat) (l : List Int) : Prop := l.length = n ∧ l.Nodup ∧ ∀ z ∈ l, 0 ≤ z ∧ z < n

theorem order_ok {k : Nat} (hk : 5000 ≤ k) (s : Src) (n : Nat) (h : okS s) (hn : n ≤ 1000) : ∃ l s', spec_l01DrawOrder k s n = some (l, s') ∧ okS s' ∧ isOrdD n l := by
  unfold spec_l01DrawOrder
  have := loopI (f := fun k' i (t : Src × List Int) => spec_l01DrawOrder_l0 n k' i t.1 t.2) (n : Int) 0 (fun i t => i ≤ n ∧ okS t.1 ∧ isOrdD i.toNat t.2) (fun t => okS t.1 ∧ isOrdD n t.2) ?_ ?_ k 0 (s, []) (by omega) (by omega) ⟨by omega, h, rfl, by simp, by simp⟩
  · obtain ⟨⟨s', l⟩, e, h1, h2⟩ := this
    simp only at e
    exact ⟨l, s', by rw [e]; rfl, h1, h2⟩
  · rintro k' i ⟨t, l⟩ h0 h1 ⟨_, q1, q2, q3, q4⟩
    left
    obtain ⟨m, rfl⟩ := nat_of h0
    simp only [Int.toNat_natCast] at q1 q2 q3 q4
    obtain ⟨v, t', e, ht, hv, _⟩ := next_ok t ((m : Int) + 1) q1
    obtain ⟨v0, v1⟩ := hv (by omega)
    have hperm : ((l.take v.toNat ++ [(m : Int)]) ++ l.drop v.toNat).Perm ((m : Int) :: l) := by
      rw [List.append_assoc]
      refine List.perm_middle.trans (List.Perm.cons _ ?_)
      show (l.take v.toNat ++ l.drop v.toNat).Perm l
      rw [List.take_append_drop]
    refine ⟨(t', (l.take v.toNat ++ [(m : Int)]) ++ l.drop v.toNat), ?_, by omega, ht, ?_, ?_, ?_⟩
    · show spec_l01DrawOrder_l0 n (k' + 1) m t l = _
      rw [spec_l01DrawOrder_l0, w64_succ h0 h1 (by omega), e]
      have e1 : v ≤ ((l.length : Nat) : Int) := by omega
      have e2 : ((l.drop 0).take (v.toNat - 0)) = l.take v.toNat := by simp
      have e3 : (l.drop v.toNat).take (l.length - v.toNat) = l.drop v.toNat := by rw [List.take_of_length_le (by simp)]
      have e4 : spec_l01Own (l.take v.toNat) = some (l.take v.toNat) := by
        unfold spec_l01Own
        rw [if_pos (by simp; omega)]; rfl
      simp only [h1, decide_true, if_true, Option.bind_some, v0, e1, Int.le_refl, Nat.le_refl, and_self, e2, e3, e4]
      have f1 : (l.take v.toNat).length + ([(m : Int)]).length ≤ 1099511627776 := by simp; omega
      have f2 : (l.take v.toNat ++ [(m : Int)]).length + (l.drop v.toNat).length ≤ 1099511627776 := by simp; omega
      first
        | rw [if_pos f1, if_pos f2]
        | rw [if_pos f2]
    · simp only
      rw [hperm.length_eq]
      simp only [List.length_cons, q2]; omega
    · simp only
      rw [hperm.nodup_iff, List.nodup_cons]
      exact ⟨fun hm => by have := q4 _ hm; omega, q3⟩
    · intro z hz
      simp only at hz
      rw [hperm.mem_iff, List.mem_cons] at hz
      have e1 : ((m : Int) + 1).toNat = m + 1 := by omega
      rw [e1]
      rcases hz with rfl | hz
      · omega
      · have := q4 z hz; omega
  · rintro k' i ⟨t, l⟩ h0 h1 ⟨q0, q1, q2⟩
    have : i = n := by omega
    subst this
    refine ⟨(t, l), ?_, q1, by simpa using q2⟩
    show spec_l01DrawOrder_l0 n (k' + 1) n t l = _
    rw [spec_l01DrawOrder_l0]; simp

theorem isOrdD.two {n : Nat} {l : List Int} (h : isOrdD n l) (hn : 2 ≤ n) : ∃ a b, l.getD 0 0 = a ∧ l.getD 1 0 = b ∧ a ≠ b ∧ (0 ≤ a ∧ a < n) ∧ (0 ≤ b ∧ b < n) := by
  obtain ⟨h1, h2, h3⟩ := h
  match l, h1 with
  | a :: b :: t, _ =>
    refine ⟨a, b, rfl, rfl, fun e => ?_, h3 a (by simp), h3 b (by simp)⟩
    rw [List.nodup_cons] at h2
    exact h2.1 (by simp [e])
  | [a], h1 => simp at h1; omega
  | [], h1 => simp at h1; omega

theorem isOrdD.ne {n : Nat} {l : List Int} (h : isOrdD n l) {i j : Nat} (hi : i < n) (hj : j < n) (hij : i ≠ j) : l.getD i 0 ≠ l.getD j 0 := by
  obtain ⟨h1, h2, h3⟩ := h
  have e1 : l.getD i 0 = l[i]'(by omega) := by simp [List.getD, show i < l.length by omega]
  have e2 : l.getD j 0 = l[j]'(by omega) := by simp [List.getD, show j < l.length by omega]
  rw [e1, e2]
  exact fun e => hij ((List.getElem_inj h2).1 e)

theorem isOrdD.get {n : Nat} {l : List Int} (h : isOrdD n l) {i : Nat} (hi : i < n) : 0 ≤ l.getD i 0 ∧ l.getD i 0 < n := by
  obtain ⟨h1, h2, h3⟩ := h
  have e1 : l.getD i 0 = l[i]'(by omega) := by simp [List.getD, show i < l.length by omega]
  rw [e1]
  exact h3 _ (List.getElem_mem _)

theorem edge_ok {a b : Int} (ha : 0 ≤ a ∧ a < 17) (hb : 0 ≤ b ∧ b < 17) (h : a ≠ b) : 0 ≤ spec_l01Edge a b ∧ spec_l01Edge a b < 136 := by
  rw [edge_eq a b ha hb]
  have := eN_136 (i := a.toNat) (j := b.toNat) (by omega) (by omega) (by omega)
  omega

theorem half_ok (n : Int) (h : 1 ≤ n ∧ n ≤ 17) : 0 ≤ w64 ((w64 (n * (w64 (n - 1)))).tdiv 2) ∧ w64 ((w64 (n * (w64 (n - 1)))).tdiv 2) ≤ 136 := by
  have key : ∀ m : Nat, m ≤ 17 → 1 ≤ m → 0 ≤ w64 ((w64 ((m : Int) * (w64 ((m : Int) - 1)))).tdiv 2) ∧ w64 ((w64 ((m : Int) * (w64 ((m : Int) - 1)))).tdiv 2) ≤ 136 := by decide +kernel
  obtain ⟨m, rfl⟩ := nat_of (show 0 ≤ n by omega)
  exact key m (by omega) (by omega)

theorem drawOf_ok {k : Nat} (hk : 5000 ≤ k) (s : Src) (n c : Int) (h : okS s) (hn : 1 ≤ n ∧ n ≤ 17) : ∃ x s', spec_l01DrawOf k s n c = some (x, s') ∧ okS s' ∧ x.p = n ∧ x.k = c := by
  unfold spec_l01DrawOf
  obtain ⟨v, s1, e, hs, _⟩ := next_ok s c h
  rw [e]
  simp only [Option.bind_some]
  have hE := half_ok n hn
  have := loopI (f := fun k' i (t : Src × Col) => spec_l01DrawOf_l0 n c (v, s1) k' i t.1 t.2) (w64 ((w64 (n * (w64 (n - 1)))).tdiv 2)) 0 (fun i t => okS t.1 ∧ t.2.p = n ∧ t.2.k = c) (fun t => okS t.1 ∧ t.2.p = n ∧ t.2.k = c) ?_ ?_ k 0 (s1, ⟨n, c, B136.zero⟩) (by omega) (by omega) ⟨hs, rfl, rfl⟩
  · obtain ⟨⟨s', x⟩, e, h1, h2, h3⟩ := this
    simp only at e
    exact ⟨x, s', by rw [e]; rfl, h1, h2, h3⟩
  · rintro k' i ⟨t, x⟩ h0 h1 ⟨q1, q2, q3⟩
    left
    obtain ⟨a, t1, e1, ht1, _⟩ := next_ok t c q1
    obtain ⟨b, t2, e2, ht2, _⟩ := next_ok t1 5 ht1
    have hi : i < 136 := by omega
    by_cases hb : b = 0
    · refine ⟨(t2, x.set i.toNat (toByte v)), ?_, ht2, q2, q3⟩
      show spec_l01DrawOf_l0 n c (v, s1) (k' + 1) i t x = _
      rw [spec_l01DrawOf_l0, w64_succ h0 h1 (by omega), e1]
      simp only [Option.bind_some, e2, h1, decide_true, if_true, hb, h0, hi, and_self]
    · refine ⟨(t2, x.set i.toNat (toByte a)), ?_, ht2, q2, q3⟩
      show spec_l01DrawOf_l0 n c (v, s1) (k' + 1) i t x = _
      rw [spec_l01DrawOf_l0, w64_succ h0 h1 (by omega), e1]
      simp only [Option.bind_some, e2, h1, decide_true, if_true, hb, decide_false, Bool.false_eq_true, if_false, h0, hi, and_self]
  · rintro k' i ⟨t, x⟩ h0 h1 q
    refine ⟨(t, x), ?_, q⟩
    show spec_l01DrawOf_l0 n c (v, s1) (k' + 1) i t x = _
    rw [spec_l01DrawOf_l0]
    have : ¬ i < w64 ((w64 (n * (w64 (n - 1)))).tdiv 2) := by omega
    simp [this]

theorem circle_ok {k : Nat} (hk : 5000 ≤ k) (n : Int) (hn : 1 ≤ n ∧ n ≤ 17) (l : List Int) (hl : l.length ≤ 100) : ∃ x, spec_l01Circle k n l = some x ∧ x.p = n ∧ x.k = 2 := by
  unfold spec_l01Circle
  have := loopI (f := fun k' j (y : Col) => spec_l01Circle_l0 k n l k' j y) n 1 (fun j y => y.p = n ∧ y.k = 2) (fun y => y.p = n ∧ y.k = 2) ?_ ?_ k 1 ⟨n, 2, B136.zero⟩ (by omega) (by omega) ⟨rfl, rfl⟩
  · obtain ⟨y, e, h⟩ := this
    exact ⟨y, by rw [e]; rfl, h⟩
  · rintro k' j y h0 h1 ⟨q1, q2⟩
    left
    have := loopI (f := fun k' i (y : Col) => spec_l01Circle_l1 k l j k' i y) j 0 (fun i y => y.p = n ∧ y.k = 2) (fun y => y.p = n ∧ y.k = 2) ?_ ?_ k 0 y (by omega) (by omega) ⟨q1, q2⟩
    · obtain ⟨y', e, h⟩ := this
      refine ⟨y', ?_, h⟩
      show spec_l01Circle_l0 k n l (k' + 1) j y = _
      rw [spec_l01Circle_l0, w64_succ (by omega) h1 (by omega), e]
      simp [h1]
    · rintro k'' i z g0 g1 ⟨p1, p2⟩
      left
      have := loopI (f := fun k' t (b : UInt8) => spec_l01Circle_l2 l j i k' b t) (l.length : Int) 0 (fun _ _ => True) (fun _ => True) ?_ ?_ k 0 (1 : UInt8) (by omega) (by omega) trivial
      · obtain ⟨b, e, _⟩ := this
        have he := edge_ok (a := i) (b := j) (by omega) (by omega) (by omega)
        refine ⟨z.set (spec_l01Edge i j).toNat b, ?_, p1, p2⟩
        show spec_l01Circle_l1 k l j (k'' + 1) i z = _
        rw [spec_l01Circle_l1, w64_succ g0 g1 (by omega), e]
        simp only [g1, decide_true, if_true, Option.bind_some, he.1, he.2, and_self]
      · intro k3 t b t0 t1 _
        left
        by_cases hc : l.getD t.toNat 0 = w64 (j - i)
        · refine ⟨0, ?_, trivial⟩
          show spec_l01Circle_l2 l j i (k3 + 1) b t = _
          rw [spec_l01Circle_l2, w64_succ t0 t1 (by omega)]
          simp only [t1, t0, decide_true, if_true, and_self, hc, Option.bind_some]
        · refine ⟨b, ?_, trivial⟩
          show spec_l01Circle_l2 l j i (k3 + 1) b t = _
          rw [spec_l01Circle_l2, w64_succ t0 t1 (by omega)]
          simp only [t1, t0, decide_true, if_true, and_self, hc, decide_false, Bool.false_eq_true, if_false, Option.bind_some]
      · intro k3 t b t0 t1 _
        refine ⟨b, ?_, trivial⟩
        show spec_l01Circle_l2 l j i (k3 + 1) b t = _
        rw [spec_l01Circle_l2]
        have : ¬ t < (l.length : Int) := by omega
        simp [this]
    · rintro k'' i z g0 g1 q
      refine ⟨z, ?_, q⟩
      show spec_l01Circle_l1 k l j (k'' + 1) i z = _
      rw [spec_l01Circle_l1]
      have : ¬ i < j := by omega
      simp [this]
  · rintro k' j y h0 h1 q
    refine ⟨y, ?_, q⟩
    show spec_l01Circle_l0 k n l (k' + 1) j y = _
    rw [spec_l01Circle_l0]
    have : ¬ j < n := by omega
    simp [this]

theorem renamed_ok {k : Nat} (hk : 5000 ≤ k) (x : Col) (l : List Int) (hp : 1 ≤ x.p ∧ x.p ≤ 17) (hl : isOrdD x.p.toNat l) : ∃ y, spec_l01Renamed k x l = some y ∧ y.p = x.p ∧ y.k = x.k := by
  unfold spec_l01Renamed
  have hll := hl.1
  have := loopI (f := fun k' j (y : Col) => spec_l01Renamed_l0 k x l k' j y) x.p 1 (fun j y => y.p = x.p ∧ y.k = x.k) (fun y => y.p = x.p ∧ y.k = x.k) ?_ ?_ k 1 ⟨x.p, x.k, B136.zero⟩ (by omega) (by omega) ⟨rfl, rfl⟩
  · obtain ⟨y, e, h⟩ := this
    exact ⟨y, by rw [e]; rfl, h⟩
  · rintro k' j y h0 h1 ⟨q1, q2⟩
    left
    have := loopI (f := fun k' i (y : Col) => spec_l01Renamed_l1 x l j k' i y) j 0 (fun i y => y.p = x.p ∧ y.k = x.k) (fun y => y.p = x.p ∧ y.k = x.k) ?_ ?_ k 0 y (by omega) (by omega) ⟨q1, q2⟩
    · obtain ⟨y', e, h⟩ := this
      refine ⟨y', ?_, h⟩
      show spec_l01Renamed_l0 k x l (k' + 1) j y = _
      rw [spec_l01Renamed_l0, w64_succ (by omega) h1 (by omega), e]
      simp [h1]
    · rintro k'' i z g0 g1 ⟨p1, p2⟩
      left
      have hne := hl.ne (i := i.toNat) (j := j.toNat) (by omega) (by omega) (by omega)
      have hi := hl.get (i := i.toNat) (by omega)
      have hj := hl.get (i := j.toNat) (by omega)
      have he := edge_ok (a := l.getD i.toNat 0) (b := l.getD j.toNat 0) (by omega) (by omega) hne
      refine ⟨z.set (spec_l01Edge (l.getD i.toNat 0) (l.getD j.toNat 0)).toNat (toByte (x.cc i j)), ?_, p1, p2⟩
      show spec_l01Renamed_l1 x l j (k'' + 1) i z = _
      rw [spec_l01Renamed_l1, w64_succ g0 g1 (by omega), specAt_eq x i j g0 g1 (by omega) (by omega)]
      have a1 : i < (l.length : Int) := by omega
      have a2 : j < (l.length : Int) := by omega
      have a3 : 0 ≤ j := by omega
      simp only [g1, decide_true, if_true, g0, a1, a2, a3, and_self, Option.bind_some, he.1, he.2]
    · rintro k'' i z g0 g1 q
      refine ⟨z, ?_, q⟩
      show spec_l01Renamed_l1 x l j (k'' + 1) i z = _
      rw [spec_l01Renamed_l1]
      have : ¬ i < j := by omega
      simp [this]
  · rintro k' j y h0 h1 q
    refine ⟨y, ?_, q⟩
    show spec_l01Renamed_l0 k x l (k' + 1) j y = _
    rw [spec_l01Renamed_l0]
    have : ¬ j < x.p := by omega
    simp [this]

theorem with_ok (x : Col) (a b c : Int) (ha : 0 ≤ a ∧ a < 17) (hb : 0 ≤ b ∧ b < 17) (h : a ≠ b) : ∃ y, spec_l01With x a b c = some y ∧ y.p = x.p ∧ y.k = x.k := by
  unfold spec_l01With
  rw [if_pos (edge_ok ha hb h)]
  exact ⟨_, rfl, rfl, rfl⟩

theorem bad_ok (s : Src) (x : Col) (h : okS s) : ∃ y s', spec_l01Bad s x = some (y, s') ∧ okS s' := by
  unfold spec_l01Bad
  obtain ⟨v, s1, e1, hs1, _⟩ := next_ok s 50 h
  rw [e1]
  simp only [Option.bind_some]
  by_cases h0 : v = 0
  · obtain ⟨a, s2, e2, hs2, _⟩ := pick_ok s1 [0, 18, -1, w64 (x.p - 1)] hs1 (by simp)
    exact ⟨⟨a, x.k, x.e⟩, s2, by simp only [h0, decide_true, if_true, e2, Option.bind_some], hs2⟩
  · by_cases h1 : v = 1
    · obtain ⟨a, s2, e2, hs2, _⟩ := pick_ok s1 [0, 5, -1] hs1 (by simp)
      have h10 : ¬ ((1 : Int) = 0) := by omega
      exact ⟨⟨x.p, a, x.e⟩, s2, by simp only [h1, h10, decide_true, if_true, decide_false, Bool.false_eq_true, if_false, e2, Option.bind_some], hs2⟩
    · by_cases h2 : v = 2
      · obtain ⟨a, s2, e2, hs2, ha, _⟩ := next_ok s1 136 hs1
        have ha' := ha (by omega)
        obtain ⟨b, s3, e3, hs3, _⟩ := pick_ok s2 [1, 4, 200] hs2 (by simp)
        have h20 : ¬ ((2 : Int) = 0) := by omega
        have h21 : ¬ ((2 : Int) = 1) := by omega
        exact ⟨x.set a.toNat (toByte b), s3, by simp only [h2, h20, h21, decide_true, if_true, decide_false, Bool.false_eq_true, if_false, e2, e3, ha'.1, ha'.2, and_self, Option.bind_some], hs3⟩
      · exact ⟨x, s1, by simp only [h0, h1, h2, decide_false, Bool.false_eq_true, if_false, Option.bind_some], hs1⟩

def sixL : List UInt8 := [0, 0, 1, 1, 2, 2, 2, 1, 0, 2, 0, 1, 0, 1, 2, 0]

def sixG (a b : Nat) : Int := ((sixL.getD (bXor .i64 (a : Int) b).toNat 0).toNat : Int)

theorem six_spec {k : Nat} (hk : 5000 ≤ k) : spec_l01Named_l0 k k 1 ⟨16, 3, B136.zero⟩ = some (mkC 16 3 sixG) := by
  have hx : ∀ j : Nat, j < 16 → ∀ i : Nat, i < 16 → 0 ≤ bXor .i64 (i : Int) (j : Int) ∧ bXor .i64 (i : Int) (j : Int) < 16 := by decide +kernel
  exact nest (fun k' j s => spec_l01Named_l0 k k' j s) 16 (by omega) sixG 3
    (fun k' j s hj q1 q2 q3 => by
      obtain ⟨y, e, r⟩ := nest1 (fun K i s => spec_l01Named_l1 j K i s) 16 (by omega) sixG j hj 3
        (fun k' i s hi _ _ => by
          have he := edge_eq (i : Int) (j : Int) (by omega) (by omega)
          simp only [Int.toNat_natCast] at he
          have h136 := eN_136 (i := i) (j := j) (by omega) (by omega) (by omega)
          have c1 : (i : Int) < (j : Int) := by omega
          have c4 : ((eN i j : Nat) : Int) < 136 := by omega
          have c5 := hx j hj i (by omega)
          show spec_l01Named_l1 j (k' + 1) i s = spec_l01Named_l1 j k' ((i + 1 : Nat) : Int) _
          rw [spec_l01Named_l1, he, w64_id (n := (i : Int) + 1) (by omega), decide_eq_true c1, if_pos rfl, if_pos ⟨c5.1, c5.2⟩, if_pos ⟨Int.natCast_nonneg _, c4⟩]
          unfold sixG
          rw [tb, Int.toNat_natCast]
          rfl)
        (fun k' s => by
          show spec_l01Named_l1 j (k' + 1) j s = _
          rw [spec_l01Named_l1]; simp) j 0 k s (by omega) (by omega) q1 q2 q3
      refine ⟨y, r, ?_⟩
      have c1 : (j : Int) < 16 := by omega
      show spec_l01Named_l0 k (k' + 1) j s = spec_l01Named_l0 k k' ((j + 1 : Nat) : Int) y
      have e' : spec_l01Named_l1 j k 0 s = some y := e
      rw [spec_l01Named_l0, e', w64_id (n := (j : Int) + 1) (by omega)]
      simp only [c1, decide_true, if_true, Option.bind_some]
      rfl)
    (fun k' s q1 => by
      show spec_l01Named_l0 k (k' + 1) ((16 : Nat) : Int) s = _
      rw [spec_l01Named_l0]; rfl) k 1 (by omega) (by omega) (by omega)

/-! ### Colourings that are drawn have points and colours -/
def goodC (x : Col) : Prop := (1 ≤ x.p ∧ x.p ≤ 17) ∧ 1 ≤ x.k ∧ x.k ≤ 4
theorem few2 {k : Nat} (hk : 5000 ≤ k) : ∀ (m : Nat) (k' : Nat), m < k' → m ≤ 10 → ∀ (s : Src) (x : Col), okS s → 5 ≤ x.p ∧ x.p ≤ 17 → ∃ s' y, spec_l01Draw_l0 k k' m s x = some (s', y) ∧ okS s' ∧ y.p = x.p ∧ y.k = x.k := by
  intro m
  induction m with
  | zero =>
    intro k' hk' _ s x h hp
    obtain ⟨k', rfl⟩ : ∃ q, k' = q + 1 := ⟨k' - 1, by omega⟩
    exact ⟨s, x, by rw [spec_l01Draw_l0]; simp, h, rfl, rfl⟩
  | succ m ih =>
    intro k' hk' hm s x h hp
    obtain ⟨k', rfl⟩ : ∃ q, k' = q + 1 := ⟨k' - 1, by omega⟩
    obtain ⟨n, hn⟩ := nat_of (show 0 ≤ x.p by omega)
    obtain ⟨l, s1, e1, hs1, hl⟩ := order_ok hk s n h (by omega)
    obtain ⟨a, b, ea, eb, hab, ha, hb⟩ := hl.two (by omega)
    obtain ⟨v, s2, e2, hs2, _⟩ := next_ok s1 x.k hs1
    obtain ⟨y, e3, hy, hyk⟩ := with_ok x a b v (by omega) (by omega) hab
    obtain ⟨s', z, e4, h4, h5, h6⟩ := ih k' (by omega) (by omega) s2 y hs2 (by omega)
    refine ⟨s', z, ?_, h4, by rw [h5, hy], by rw [h6, hyk]⟩
    have hpos : (0 : Int) < ((m + 1 : Nat) : Int) := by omega
    have hl1 := hl.1
    have c0 : (0 : Int) < (l.length : Int) := by omega
    have c1 : (1 : Int) < (l.length : Int) := by omega
    rw [spec_l01Draw_l0, hn, e1]
    have g0 : l.getD (0 : Int).toNat 0 = a := ea
    have g1 : l.getD (1 : Int).toNat 0 = b := eb
    have ew : w64 (((m + 1 : Nat) : Int) - 1) = (m : Int) := by rw [w64_id (by omega)]; omega
    simp only [hpos, decide_true, if_true, Option.bind_some, c0, c1, g0, g1, e2, e3, ew, e4, Int.le_refl, and_self, show (0 : Int) ≤ 1 by omega]
theorem named2 {k : Nat} (hk : 5000 ≤ k) (j : Nat) (hj : j < 5) : ∃ x, spec_l01Named k (spec_l01Names.getD j ByteArray.empty) = some (x, true) ∧ (5 ≤ x.p ∧ x.p ≤ 17) ∧ 1 ≤ x.k ∧ x.k ≤ 4 := by
  have hc : j = 0 ∨ j = 1 ∨ j = 2 ∨ j = 3 ∨ j = 4 := by omega
  unfold spec_l01Named
  rcases hc with rfl | rfl | rfl | rfl | rfl
  · obtain ⟨x, e, hx, hk2⟩ := circle_ok hk 5 (by omega) [1, 4] (by simp)
    refine ⟨x, ?_, by omega, by omega⟩
    rw [if_pos (by decide), e]; rfl
  · obtain ⟨x, e, hx, hk2⟩ := circle_ok hk 8 (by omega) [1, 4, 7] (by simp)
    refine ⟨x, ?_, by omega, by omega⟩
    rw [if_neg (by decide), if_pos (by decide), e]; rfl
  · obtain ⟨x, e, hx, hk2⟩ := circle_ok hk 13 (by omega) [1, 5, 8, 12] (by simp)
    refine ⟨x, ?_, by omega, by omega⟩
    rw [if_neg (by decide), if_neg (by decide), if_pos (by decide), e]; rfl
  · obtain ⟨x, e, hx, hk2⟩ := circle_ok hk 17 (by omega) [1, 2, 4, 8, 9, 13, 15, 16] (by simp)
    refine ⟨x, ?_, by omega, by omega⟩
    rw [if_neg (by decide), if_neg (by decide), if_neg (by decide), if_pos (by decide), e]; rfl
  · refine ⟨mkC 16 3 sixG, ?_, by show (5 : Int) ≤ ((16 : Nat) : Int) ∧ ((16 : Nat) : Int) ≤ 17; omega, by show (1 : Int) ≤ 3 ∧ (3 : Int) ≤ 4; omega⟩
    rw [if_neg (by decide), if_neg (by decide), if_neg (by decide), if_neg (by decide), if_pos (by decide), six_spec hk]; rfl
theorem small2 {k : Nat} (hk : 5000 ≤ k) (s : Src) (h : okS s) : ∃ x s', spec_l01Small k s = some (x, s') ∧ okS s' ∧ goodC x := by
  unfold spec_l01Small
  obtain ⟨v, s1, e1, hs1, _⟩ := next_ok s 5 h
  rw [e1]
  simp only [Option.bind_some]
  by_cases hv : v = 0
  · obtain ⟨x, e2', hx5, hx2⟩ : ∃ x, spec_l01Named k (⟨#[112, 101, 110, 116, 97, 103, 111, 110]⟩ : ByteArray) = some (x, true) ∧ x.p = 5 ∧ x.k = 2 := by
      obtain ⟨x, e, hx, hk2⟩ := circle_ok hk 5 (by omega) [1, 4] (by simp)
      refine ⟨x, ?_, hx, hk2⟩
      unfold spec_l01Named
      rw [if_pos (by decide), e]
      rfl
    obtain ⟨l, s2, e3, hs2, hl⟩ := order_ok hk s1 5 hs1 (by omega)
    obtain ⟨y, e4, hy, hyk⟩ := renamed_ok hk x l (by omega) (by rw [hx5]; exact hl)
    refine ⟨y, s2, ?_, hs2, by omega, by omega⟩
    have e3' : spec_l01DrawOrder k s1 5 = some (l, s2) := e3
    simp only [hv, decide_true, if_true, e2', e3', e4, Option.bind_some]
  · obtain ⟨a, s2, e2, hs2, ha, _⟩ := next_ok s1 6 hs1
    obtain ⟨b, s3, e3, hs3, hb⟩ := pick_ok s2 [1, 2, 2, 2, 3, 4] hs2 (by simp)
    have := ha (by omega)
    have hb' : 1 ≤ b ∧ b ≤ 4 := by simp at hb; omega
    obtain ⟨x, s4, e4, hs4, hx, hxk⟩ := drawOf_ok hk s3 (w64 (1 + a)) b hs3 (by rw [w64_id (by omega)]; omega)
    rw [w64_id (by omega)] at hx
    exact ⟨x, s4, by simp only [hv, decide_false, Bool.false_eq_true, if_false, e2, e3, e4, Option.bind_some], hs4, by omega, by omega⟩
theorem draw2 {k : Nat} (hk : 5000 ≤ k) (s : Src) (h : okS s) : ∃ x s', spec_l01Draw k s = some (x, s') ∧ okS s' ∧ goodC x := by
  unfold spec_l01Draw
  obtain ⟨v, s1, e1, hs1, _⟩ := next_ok s 4 h
  rw [e1]
  simp only [Option.bind_some]
  by_cases h0 : v = 0
  · have hlen : (spec_l01Names.length : Int) = 5 := rfl
    obtain ⟨a, s2, e2, hs2, ha, _⟩ := next_ok s1 5 hs1
    have ha' := ha (by omega)
    obtain ⟨x, e3, hx, hxk⟩ := named2 hk a.toNat (by omega)
    obtain ⟨n, hn⟩ := nat_of (show 0 ≤ x.p by omega)
    obtain ⟨l, s3, e4, hs3, hl⟩ := order_ok hk s2 n hs2 (by omega)
    obtain ⟨y, e5, hy, hyk⟩ := renamed_ok hk x l (by omega) (by rw [hn]; exact hl)
    obtain ⟨b, s4, e6, hs4, _⟩ := next_ok s3 2 hs3
    by_cases hb : b = 0
    · obtain ⟨m, s5, e7, hs5, hm, _⟩ := next_ok s4 3 hs4
      have hm' := hm (by omega)
      obtain ⟨q, hq⟩ := nat_of hm'.1
      obtain ⟨s6, z, e8, hs6, hz, hzk⟩ := few2 hk q k (by omega) (by omega) s5 y hs5 (by omega)
      exact ⟨z, s6, by simp only [h0, hb, hn, hq, decide_true, if_true, hlen, e2, ha'.1, ha'.2, and_self, e3, e4, e5, e6, e7, e8, Option.bind_some], hs6, by omega, by omega⟩
    · exact ⟨y, s4, by simp only [h0, hb, hn, decide_true, if_true, decide_false, Bool.false_eq_true, if_false, hlen, e2, ha'.1, ha'.2, and_self, e3, e4, e5, e6, Option.bind_some], hs4, by omega, by omega⟩
  · by_cases h1 : v = 1
    · obtain ⟨a, s2, e2, hs2, ha, _⟩ := next_ok s1 17 hs1
      have ha' := ha (by omega)
      obtain ⟨b, s3, e3, hs3, hb⟩ := pick_ok s2 [2, 2, 3, 4] hs2 (by simp)
      have hb' : 1 ≤ b ∧ b ≤ 4 := by simp at hb; omega
      obtain ⟨x, s4, e4, hs4, hx, hxk⟩ := drawOf_ok hk s3 (w64 (1 + a)) b hs3 (by rw [w64_id (by omega)]; omega)
      rw [w64_id (by omega)] at hx
      refine ⟨x, s4, ?_, hs4, by omega, by omega⟩
      have h10 : ¬ ((1 : Int) = 0) := by omega
      simp only [h1, h10, decide_true, if_true, decide_false, Bool.false_eq_true, if_false, e2, e3, e4, Option.bind_some]
    · obtain ⟨x, s2, e2, hs2, hx⟩ := small2 hk s1 hs1
      exact ⟨x, s2, by simp only [h0, h1, decide_false, Bool.false_eq_true, if_false, e2, Option.bind_some], hs2, hx⟩

theorem ordD_ord {n : Nat} {l : List Int} (h : isOrdD n l) : isOrd l n := by
  obtain ⟨h1, h2, h3⟩ := h
  exact ⟨by omega, fun a ha => h3 _ (mem_getD.2 ⟨a, ha, rfl⟩), (distL_nodup l).2 h2⟩
theorem orderI_ok {k : Nat} (hk : 5000 ≤ k) (s : Src) (n : Int) (h : okS s) (hn : 1 ≤ n ∧ n ≤ 1000) : ∃ l s', spec_l01DrawOrder k s n = some (l, s') ∧ okS s' ∧ isOrdD n.toNat l ∧ isOrd l n := by
  obtain ⟨l, s', e, hs, ho⟩ := order_ok hk s n.toNat h (by omega)
  have hc : ((n.toNat : Nat) : Int) = n := by omega
  rw [hc] at e
  have := ordD_ord ho
  rw [hc] at this
  exact ⟨l, s', e, hs, ho, this⟩
theorem spoil_ok {k : Nat} (hk : 5000 ≤ k) (s : Src) (h : okS s) : ∃ x s', spec_l01Spoil k s = some (x, s') ∧ okS s' := by
  unfold spec_l01Spoil
  obtain ⟨x, s1, e1, hs1, _⟩ := draw2 hk s h
  obtain ⟨y, s2, e2, hs2⟩ := bad_ok s1 x hs1
  exact ⟨y, s2, by rw [e1]; simp only [Option.bind_some, e2], hs2⟩
theorem draw6_ok {k : Nat} (hk : 5000 ≤ k) (s : Src) (h : okS s) : ∃ x s', spec_l06Draw k s = some (x, s') ∧ okS s' := by
  unfold spec_l06Draw
  obtain ⟨v, s1, e1, hs1, _⟩ := next_ok s 4 h
  rw [e1, Option.bind_some]
  by_cases h0 : v = 0
  · obtain ⟨x, s2, e2, hs2⟩ := spoil_ok hk s1 hs1
    exact ⟨x, s2, by rw [if_pos (decide_eq_true h0), e2]; rfl, hs2⟩
  · by_cases h1 : v = 1
    · obtain ⟨j, s2, e2, hs2, hj, _⟩ := next_ok s1 ((spec_l01Names).length : Int) hs1
      have hlen : ((spec_l01Names).length : Int) = 5 := rfl
      have hj' := hj (by rw [hlen]; omega)
      rw [hlen] at hj'
      obtain ⟨x, e3, hx, hxk⟩ := named2 hk j.toNat (by omega)
      obtain ⟨l, s3, e4, hs3, ho, _⟩ := orderI_ok hk s2 x.p hs2 (by omega)
      obtain ⟨y, e5, hy, hyk⟩ := renamed_ok hk x l (by omega) ho
      refine ⟨y, s3, ?_, hs3⟩
      rw [if_neg (by simpa using h0), if_pos (decide_eq_true h1), e2, Option.bind_some, if_pos (by rw [hlen]; exact hj'), e3, Option.bind_some, e4, Option.bind_some, e5]; rfl
    · obtain ⟨x, s2, e2, hs2, _⟩ := small2 hk s1 hs1
      exact ⟨x, s2, by rw [if_neg (by simpa using h0), if_neg (by simpa using h1), e2]; rfl, hs2⟩
theorem two6_ok {k : Nat} (hk : 5000 ≤ k) (c : List UInt8) (hc : c.length ≤ 4096) : ∃ x y, spec_DrawFindRenumbering k c = some (x, y) := by
  classical
  unfold spec_DrawFindRenumbering spec_l06Two
  obtain ⟨s0, e0, hs0⟩ := from_ok hk c hc
  obtain ⟨x, s1, e1, hs1⟩ := draw6_ok hk s0 hs0
  rw [e0, Option.bind_some, e1, Option.bind_some, specIs_eq k (by omega), Option.bind_some]
  by_cases hx : x.is
  · have hp := hx.1
    have hkk := hx.2.1
    rw [decide_eq_true hx, if_neg (by simp)]
    obtain ⟨l, s2, e2, hs2, ho, ho'⟩ := orderI_ok hk s1 x.p hs1 (by omega)
    have e3 := specRen_eq x l hp ho' k (by omega)
    have hri := ren_is hx ho'
    have hrp := ren_p x hx ho'
    have hrk := ren_k x hx ho'
    obtain ⟨v, s3, e4, hs3, _⟩ := next_ok s2 6 hs2
    dsimp only
    rw [e2, Option.bind_some]
    dsimp only
    rw [e3, Option.bind_some, e4, Option.bind_some]
    dsimp only
    have key : ∃ z s4, ((if decide (v = 0) then (spec_l01DrawOrder k s3 x.k).bind fun r10 => (spec_l01Turned k (ren x l) r10.1).bind fun r11 => some (r10.2, r11) else (if decide (v = 1) then (spec_l06Draw k s3).bind fun r13 => some (r13.2, r13.1) else (if decide (v = 2) then (if decide (1 < x.p) then (spec_l01DrawOrder k s3 x.p).bind fun r16 => (if 0 ≤ (0 : Int) ∧ (0 : Int) < (r16.1.length : Int) then (if 0 ≤ (1 : Int) ∧ (1 : Int) < (r16.1.length : Int) then (spec_l01Next r16.2 x.k).bind fun r19 => (spec_l01With (ren x l) (r16.1.getD (0 : Int).toNat 0) (r16.1.getD (1 : Int).toNat 0) r19.1).bind fun r20 => some (r19.2, r20) else none) else none) else some (s3, (ren x l))) else some (s3, (ren x l))))) : Option (Src × Col)) = some (s4, z) ∧ okS s4 := by
      by_cases h0 : v = 0
      · obtain ⟨q, s4, e5, hs4, hq, hq'⟩ := orderI_ok hk s3 x.k hs3 (by omega)
        have e6 := turned_val hri q (by rw [hrk]; exact hq'.1) (k := k) (by omega)
        exact ⟨_, s4, by rw [if_pos (decide_eq_true h0), e5, Option.bind_some]; dsimp only; rw [e6]; rfl, hs4⟩
      · rw [if_neg (by simpa using h0)]
        by_cases h1 : v = 1
        · obtain ⟨z, s4, e5, hs4⟩ := draw6_ok hk s3 hs3
          exact ⟨z, s4, by rw [if_pos (decide_eq_true h1), e5]; rfl, hs4⟩
        · rw [if_neg (by simpa using h1)]
          by_cases h2 : v = 2
          · rw [if_pos (decide_eq_true h2)]
            by_cases h3 : 1 < x.p
            · obtain ⟨q, s4, e5, hs4, hq, hq'⟩ := orderI_ok hk s3 x.p hs3 (by omega)
              obtain ⟨a, b, ea, eb, hab, ha, hb⟩ := hq.two (by omega)
              obtain ⟨w, s5, e6, hs5, _⟩ := next_ok s4 x.k hs4
              obtain ⟨z, e7, _⟩ := with_ok (ren x l) a b w (by omega) (by omega) hab
              have hl := hq'.1
              refine ⟨z, s5, ?_, hs5⟩
              rw [if_pos (decide_eq_true h3), e5, Option.bind_some]
              dsimp only
              rw [if_pos (by omega), if_pos (by omega), e6, Option.bind_some]
              dsimp only
              rw [show (0 : Int).toNat = 0 from rfl, show (1 : Int).toNat = 1 from rfl, ea, eb, e7]; rfl
            · exact ⟨_, s3, by rw [if_neg (by simpa using h3)], hs3⟩
          · exact ⟨_, s3, by rw [if_neg (by simpa using h2)], hs3⟩
    obtain ⟨z, s4, e5, hs4⟩ := key
    obtain ⟨y, s5, e6, hs5⟩ := bad_ok s4 z hs4
    refine ⟨x, y, ?_⟩
    rw [e5, Option.bind_some]
    dsimp only
    rw [e6]; rfl
  · rw [decide_eq_false hx, Bool.not_false, if_pos rfl]
    obtain ⟨y, s2, e2, _⟩ := small2 hk s1 hs1
    refine ⟨x, y, ?_⟩
    dsimp only
    rw [e2]; rfl
theorem leads6_ok {k : Nat} (hk : 5000 ≤ k) (c : List UInt8) (hc : c.length ≤ 4096) : ∃ u w p, spec_DrawLeadsTo k c = some (u, w, p) ∧ p.length ≤ 100 := by
  classical
  unfold spec_DrawLeadsTo
  obtain ⟨s0, e0, hs0⟩ := from_ok hk c hc
  obtain ⟨x, s1, e1, hs1⟩ := draw6_ok hk s0 hs0
  rw [e0, Option.bind_some, e1, Option.bind_some]
  dsimp only
  obtain ⟨n, hn⟩ : ∃ n, n = (if 17 < (if x.p < 1 then 1 else x.p) then 17 else (if x.p < 1 then 1 else x.p)) := ⟨_, rfl⟩
  have hn2 : 1 ≤ n ∧ n ≤ 17 := by
    rw [hn]
    split <;> split <;> omega
  rw [← hn]
  obtain ⟨l, s2, e2, hs2, ho, ho'⟩ := orderI_ok hk s1 n hs1 (by omega)
  rw [e2, Option.bind_some]
  dsimp only
  have hll := ho'.1
  have key : ∃ z s3, ((((spec_l01Is k x).bind fun r4 => (if r4 then (spec_l01Next s2 2).bind fun r6 => some (decide (r6.1 = 0), r6.2) else some (false, s2)) : Option (Bool × Src)).bind fun s7 => (if s7.1 then (spec_l01Renamed k x l).bind fun r9 => some (s7.2, r9) else some (s7.2, x)) : Option (Src × Col))) = some (s3, z) ∧ okS s3 := by
    rw [specIs_eq k (by omega), Option.bind_some]
    by_cases hx : x.is
    · have hp := hx.1
      have hnx : n = x.p := by rw [hn]; split <;> split <;> omega
      obtain ⟨v, s3, e3, hs3, _⟩ := next_ok s2 2 hs2
      rw [decide_eq_true hx, if_pos rfl, e3, Option.bind_some, Option.bind_some]
      dsimp only
      by_cases h0 : v = 0
      · have e4 := specRen_eq x l hp (by rw [← hnx]; exact ho') k (by omega)
        exact ⟨_, s3, by rw [if_pos (decide_eq_true h0), e4]; rfl, hs3⟩
      · exact ⟨_, s3, by rw [if_neg (by simpa using h0)], hs3⟩
    · rw [decide_eq_false hx, if_neg (by simp)]
      exact ⟨x, s2, rfl, hs2⟩
  obtain ⟨z, s3, e3, hs3⟩ := key
  rw [e3, Option.bind_some]
  dsimp only
  obtain ⟨v, s4, e4, hs4, _⟩ := next_ok s3 24 hs3
  rw [e4, Option.bind_some]
  dsimp only
  by_cases h0 : v = 0
  · rw [if_pos (decide_eq_true h0), if_pos (by simp only [List.length_singleton]; omega)]
    exact ⟨x, z, _, rfl, by simp; omega⟩
  · rw [if_neg (by simpa using h0)]
    by_cases h1 : v = 1
    · obtain ⟨a, s5, e5, hs5, _⟩ := pick_ok s4 [(-1), 17, 1] hs4 (by simp)
      rw [if_pos (decide_eq_true h1), e5, Option.bind_some, if_pos (by omega)]
      exact ⟨x, z, _, rfl, by simp; omega⟩
    · rw [if_neg (by simpa using h1)]
      exact ⟨x, z, _, rfl, by omega⟩
end Go.Proofs.YtfnbhfobgimnjaaGreat
