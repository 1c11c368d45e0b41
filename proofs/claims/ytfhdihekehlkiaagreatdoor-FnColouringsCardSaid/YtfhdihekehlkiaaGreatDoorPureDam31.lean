/- Plain laws, collected out of own texts. No conditions beyond those that each lemma states. -/
import Derived.Test.YtfhdihekehlkiaaGreatDoorPKit
import Derived.Test.YtfhdihekehlkiaaGreatDoorPBits
import Derived.Test.YtfhdihekehlkiaaGreatDoorPureColImpl31
import Derived.Test.YtfhdihekehlkiaaGreatDoorLcg
set_option linter.unusedVariables false
set_option linter.unusedSimpArgs false
namespace Go.Proofs.YtfhdihekehlkiaaGreatDoor
open Go Go.RowKit Ab

def okS (s : Src) : Prop := 0 ≤ s.i ∧ s.c.length ≤ 4096

theorem mask_range (a : Int) : 0 ≤ bAnd .u64 a 16777215 ∧ bAnd .u64 a 16777215 ≤ 16777215 := by
  unfold bAnd
  have e : (BitVec.ofInt IntKind.u64.bits a &&& BitVec.ofInt IntKind.u64.bits 16777215).toNat ≤ 16777215 := by
    show (BitVec.ofInt 64 a &&& BitVec.ofInt 64 16777215).toNat ≤ 16777215
    rw [BitVec.toNat_and]
    have : (BitVec.ofInt 64 16777215).toNat = 16777215 := by decide
    rw [this]
    exact Nat.and_le_right
  generalize (BitVec.ofInt IntKind.u64.bits a &&& BitVec.ofInt IntKind.u64.bits 16777215).toNat = m at e
  rw [u64_id (by omega)]
  omega

theorem next_ok (s : Src) (n : Int) (h : okS s) : ∃ v s', spec_l01Next s n = some (v, s') ∧ okS s' ∧ (1 ≤ n → 0 ≤ v ∧ v < n) ∧ (n < 1 → v = 0) := by
  unfold spec_l01Next
  obtain ⟨h0, h1⟩ := h
  by_cases hn : n < 1
  · exact ⟨0, s, by simp [hn], ⟨h0, h1⟩, fun h => by omega, fun _ => rfl⟩
  · generalize IntKind.u64.wrap ((IntKind.u64.wrap (s.h * 6364136223846793005)) + 1442695040888963407) = hh
    have hm := mask_range (bShr .u64 hh 33)
    generalize bAnd .u64 (bShr .u64 hh 33) 16777215 = v at hm
    have hn0 : n ≠ 0 := by omega
    have key : ∀ w : Int, 0 ≤ w → (1 ≤ n → 0 ≤ w.tmod n ∧ w.tmod n < n) := fun w hw hn => ⟨Int.tmod_nonneg n hw, Int.tmod_lt_of_pos w (by omega)⟩
    by_cases hi : s.i < (s.c.length : Int)
    · have hb : ((s.c.getD s.i.toNat 0).toNat : Int) < 256 := by have := (s.c.getD s.i.toNat 0).toNat_lt; omega
      refine ⟨(w64 (w64 v + ((s.c.getD s.i.toNat 0).toNat : Int))).tmod n, ⟨s.c, w64 (s.i + 1), hh⟩, ?_, ⟨?_, h1⟩, key _ ?_, fun h => by omega⟩
      · simp only [hn, decide_false, Bool.false_eq_true, if_false, hi, decide_true, if_true, h0, and_self, Option.bind_some, hn0, ne_eq, not_false_eq_true]
      · rw [w64_id (by omega)]; show 0 ≤ s.i + 1; omega
      · rw [w64_id (n := v) (by omega), w64_id (by omega)]; omega
    · refine ⟨(w64 v).tmod n, ⟨s.c, s.i, hh⟩, ?_, ⟨h0, h1⟩, key _ ?_, fun h => by omega⟩
      · simp only [hn, decide_false, Bool.false_eq_true, if_false, hi, Option.bind_some, hn0, ne_eq, not_false_eq_true, if_true]
      · rw [w64_id (by omega)]; omega

theorem pick_ok (s : Src) (l : List Int) (h : okS s) (hl : 1 ≤ l.length) : ∃ v s', spec_l01Pick s l = some (v, s') ∧ okS s' ∧ v ∈ l := by
  unfold spec_l01Pick
  obtain ⟨v, s', e, hs, hv, _⟩ := next_ok s l.length h
  obtain ⟨v0, v1⟩ := hv (by omega)
  have hlt : v.toNat < l.length := by omega
  refine ⟨l.getD v.toNat 0, s', ?_, hs, by simp [List.getD, hlt]⟩
  rw [e]
  simp [v0, v1]

theorem from_ok {k : Nat} (hk : 5000 ≤ k) (c : List UInt8) (hc : c.length ≤ 4096) : ∃ s, spec_l01From k c = some s ∧ okS s := by
  unfold spec_l01From
  have := loopI (f := fun k' i (s : Src) => spec_l01From_l0 c k' i s) (c.length : Int) 0 (fun i s => s.i = 0 ∧ s.c = c) (fun s => okS s) ?_ ?_ k 0 ⟨c, 0, IntKind.u64.wrap (13621 + (IntKind.u64.wrap (c.length : Int)))⟩ (by omega) (by omega) ⟨rfl, rfl⟩
  · obtain ⟨s, e, h⟩ := this
    exact ⟨s, by rw [e]; rfl, h⟩
  · rintro k' i s h0 h1 ⟨q1, q2⟩
    left
    refine ⟨⟨s.c, s.i, IntKind.u64.wrap ((IntKind.u64.wrap ((IntKind.u64.wrap (s.h * 1099511628211)) + ((c.getD i.toNat 0).toNat : Int))) + 193)⟩, ?_, q1, q2⟩
    show spec_l01From_l0 c (k' + 1) i s = _
    rw [spec_l01From_l0, w64_succ h0 h1 (by omega)]
    have h2 : i < 4096 := by omega
    simp only [letO, h1, h2, decide_true, if_true, Option.bind_some, h0, and_self]
  · rintro k' i s h0 h1 ⟨q1, q2⟩
    have hn : ¬ i < (c.length : Int) := by omega
    refine ⟨s, ?_, by rw [q1]; exact Int.le_refl _, by rw [q2]; exact hc⟩
    show spec_l01From_l0 c (k' + 1) i s = _
    rw [spec_l01From_l0]
    simp [letO, hn]

def isOrdD (n : Nat) (l : List Int) : Prop := l.length = n ∧ l.Nodup ∧ ∀ z ∈ l, 0 ≤ z ∧ z < n

theorem order_ok {k : Nat} (hk : 5000 ≤ k) (s : Src) (n : Nat) (h : okS s) (hn : n ≤ 1000) : ∃ l s', spec_l01DrawOrder k s n = some (l, s') ∧ okS s' ∧ isOrdD n l := by
  unfold spec_l01DrawOrder
  have := loopI (f := fun k' i (t : Src × List Int) => spec_l01DrawOrder_l0 n k' i t.1 t.2) (n : Int) 0 (fun i t => i ≤ n ∧ okS t.1 ∧ isOrdD i.toNat t.2) (fun t => okS t.1 ∧ isOrdD n t.2) ?_ ?_ k 0 (s, []) (by omega) (by omega) ⟨by omega, h, rfl, by simp, by simp⟩
  · obtain ⟨⟨s', l⟩, e, h1, h2⟩ := this
    simp only at e
    exact ⟨l, s', by rw [e]; rfl, h1, h2⟩
  · rintro k' i ⟨t, l⟩ h0 h1 ⟨_, q1, q2, q3, q4⟩
    left
    obtain ⟨m, rfl⟩ := nat_of h0
    simp only [Int.toNat_natCast] at q1 q2 q3 q4
    obtain ⟨v, t', e, ht, hv, _⟩ := next_ok t ((m : Int) + 1) q1
    obtain ⟨v0, v1⟩ := hv (by omega)
    have hperm : ((l.take v.toNat ++ [(m : Int)]) ++ l.drop v.toNat).Perm ((m : Int) :: l) := by
      rw [List.append_assoc]
      refine List.perm_middle.trans (List.Perm.cons _ ?_)
      show (l.take v.toNat ++ l.drop v.toNat).Perm l
      rw [List.take_append_drop]
    refine ⟨(t', (l.take v.toNat ++ [(m : Int)]) ++ l.drop v.toNat), ?_, by omega, ht, ?_, ?_, ?_⟩
    · show spec_l01DrawOrder_l0 n (k' + 1) m t l = _
      rw [spec_l01DrawOrder_l0, w64_succ h0 h1 (by omega), e]
      have e1 : v ≤ ((l.length : Nat) : Int) := by omega
      have e2 : ((l.drop 0).take (v.toNat - 0)) = l.take v.toNat := by simp
      have e3 : (l.drop v.toNat).take (l.length - v.toNat) = l.drop v.toNat := by rw [List.take_of_length_le (by simp)]
      have e4 : spec_l01Own (l.take v.toNat) = some (l.take v.toNat) := by
        unfold spec_l01Own
        rw [if_pos (by simp; omega)]; rfl
      simp only [h1, decide_true, if_true, Option.bind_some, v0, e1, Int.le_refl, Nat.le_refl, and_self, e2, e3, e4]
      have f1 : (l.take v.toNat).length + ([(m : Int)]).length ≤ 1099511627776 := by simp; omega
      have f2 : (l.take v.toNat ++ [(m : Int)]).length + (l.drop v.toNat).length ≤ 1099511627776 := by simp; omega
      first
        | rw [if_pos f1, if_pos f2]
        | rw [if_pos f2]
    · simp only
      rw [hperm.length_eq]
      simp only [List.length_cons, q2]; omega
    · simp only
      rw [hperm.nodup_iff, List.nodup_cons]
      exact ⟨fun hm => by have := q4 _ hm; omega, q3⟩
    · intro z hz
      simp only at hz
      rw [hperm.mem_iff, List.mem_cons] at hz
      have e1 : ((m : Int) + 1).toNat = m + 1 := by omega
      rw [e1]
      rcases hz with rfl | hz
      · omega
      · have := q4 z hz; omega
  · rintro k' i ⟨t, l⟩ h0 h1 ⟨q0, q1, q2⟩
    have : i = n := by omega
    subst this
    refine ⟨(t, l), ?_, q1, by simpa using q2⟩
    show spec_l01DrawOrder_l0 n (k' + 1) n t l = _
    rw [spec_l01DrawOrder_l0]; simp

theorem isOrdD.two {n : Nat} {l : List Int} (h : isOrdD n l) (hn : 2 ≤ n) : ∃ a b, l.getD 0 0 = a ∧ l.getD 1 0 = b ∧ a ≠ b ∧ (0 ≤ a ∧ a < n) ∧ (0 ≤ b ∧ b < n) := by
  obtain ⟨h1, h2, h3⟩ := h
  match l, h1 with
  | a :: b :: t, _ =>
    refine ⟨a, b, rfl, rfl, fun e => ?_, h3 a (by simp), h3 b (by simp)⟩
    rw [List.nodup_cons] at h2
    exact h2.1 (by simp [e])
  | [a], h1 => simp at h1; omega
  | [], h1 => simp at h1; omega

theorem isOrdD.ne {n : Nat} {l : List Int} (h : isOrdD n l) {i j : Nat} (hi : i < n) (hj : j < n) (hij : i ≠ j) : l.getD i 0 ≠ l.getD j 0 := by
  obtain ⟨h1, h2, h3⟩ := h
  have e1 : l.getD i 0 = l[i]'(by omega) := by simp [List.getD, show i < l.length by omega]
  have e2 : l.getD j 0 = l[j]'(by omega) := by simp [List.getD, show j < l.length by omega]
  rw [e1, e2]
  exact fun e => hij ((List.getElem_inj h2).1 e)

theorem isOrdD.get {n : Nat} {l : List Int} (h : isOrdD n l) {i : Nat} (hi : i < n) : 0 ≤ l.getD i 0 ∧ l.getD i 0 < n := by
  obtain ⟨h1, h2, h3⟩ := h
  have e1 : l.getD i 0 = l[i]'(by omega) := by simp [List.getD, show i < l.length by omega]
  rw [e1]
  exact h3 _ (List.getElem_mem _)

theorem edge_ok {a b : Int} (ha : 0 ≤ a ∧ a < 17) (hb : 0 ≤ b ∧ b < 17) (h : a ≠ b) : 0 ≤ spec_l01Edge a b ∧ spec_l01Edge a b < 136 := by
  rw [edge_eq a b ha hb]
  have := eN_136 (i := a.toNat) (j := b.toNat) (by omega) (by omega) (by omega)
  omega

theorem half_ok (n : Int) (h : 1 ≤ n ∧ n ≤ 17) : 0 ≤ w64 ((w64 (n * (w64 (n - 1)))).tdiv 2) ∧ w64 ((w64 (n * (w64 (n - 1)))).tdiv 2) ≤ 136 := by
  have key : ∀ m : Nat, m ≤ 17 → 1 ≤ m → 0 ≤ w64 ((w64 ((m : Int) * (w64 ((m : Int) - 1)))).tdiv 2) ∧ w64 ((w64 ((m : Int) * (w64 ((m : Int) - 1)))).tdiv 2) ≤ 136 := by decide +kernel
  obtain ⟨m, rfl⟩ := nat_of (show 0 ≤ n by omega)
  exact key m (by omega) (by omega)

theorem drawOf_ok {k : Nat} (hk : 5000 ≤ k) (s : Src) (n c : Int) (h : okS s) (hn : 1 ≤ n ∧ n ≤ 17) : ∃ x s', spec_l01DrawOf k s n c = some (x, s') ∧ okS s' ∧ x.p = n ∧ x.k = c := by
  unfold spec_l01DrawOf
  obtain ⟨v, s1, e, hs, _⟩ := next_ok s c h
  rw [e]
  simp only [Option.bind_some]
  have hE := half_ok n hn
  have := loopI (f := fun k' i (t : Src × Col) => spec_l01DrawOf_l0 n c (v, s1) k' i t.1 t.2) (w64 ((w64 (n * (w64 (n - 1)))).tdiv 2)) 0 (fun i t => okS t.1 ∧ t.2.p = n ∧ t.2.k = c) (fun t => okS t.1 ∧ t.2.p = n ∧ t.2.k = c) ?_ ?_ k 0 (s1, ⟨n, c, B136.zero⟩) (by omega) (by omega) ⟨hs, rfl, rfl⟩
  · obtain ⟨⟨s', x⟩, e, h1, h2, h3⟩ := this
    simp only at e
    exact ⟨x, s', by rw [e]; rfl, h1, h2, h3⟩
  · rintro k' i ⟨t, x⟩ h0 h1 ⟨q1, q2, q3⟩
    left
    obtain ⟨a, t1, e1, ht1, _⟩ := next_ok t c q1
    obtain ⟨b, t2, e2, ht2, _⟩ := next_ok t1 5 ht1
    have hi : i < 136 := by omega
    by_cases hb : b = 0
    · refine ⟨(t2, x.set i.toNat (toByte v)), ?_, ht2, q2, q3⟩
      show spec_l01DrawOf_l0 n c (v, s1) (k' + 1) i t x = _
      rw [spec_l01DrawOf_l0, w64_succ h0 h1 (by omega), e1]
      simp only [Option.bind_some, e2, h1, decide_true, if_true, hb, h0, hi, and_self]
    · refine ⟨(t2, x.set i.toNat (toByte a)), ?_, ht2, q2, q3⟩
      show spec_l01DrawOf_l0 n c (v, s1) (k' + 1) i t x = _
      rw [spec_l01DrawOf_l0, w64_succ h0 h1 (by omega), e1]
      simp only [Option.bind_some, e2, h1, decide_true, if_true, hb, decide_false, Bool.false_eq_true, if_false, h0, hi, and_self]
  · rintro k' i ⟨t, x⟩ h0 h1 q
    refine ⟨(t, x), ?_, q⟩
    show spec_l01DrawOf_l0 n c (v, s1) (k' + 1) i t x = _
    rw [spec_l01DrawOf_l0]
    have : ¬ i < w64 ((w64 (n * (w64 (n - 1)))).tdiv 2) := by omega
    simp [this]

theorem circle_ok {k : Nat} (hk : 5000 ≤ k) (n : Int) (hn : 1 ≤ n ∧ n ≤ 17) (l : List Int) (hl : l.length ≤ 100) : ∃ x, spec_l01Circle k n l = some x ∧ x.p = n ∧ x.k = 2 := by
  unfold spec_l01Circle
  have := loopI (f := fun k' j (y : Col) => spec_l01Circle_l0 k n l k' j y) n 1 (fun j y => y.p = n ∧ y.k = 2) (fun y => y.p = n ∧ y.k = 2) ?_ ?_ k 1 ⟨n, 2, B136.zero⟩ (by omega) (by omega) ⟨rfl, rfl⟩
  · obtain ⟨y, e, h⟩ := this
    exact ⟨y, by rw [e]; rfl, h⟩
  · rintro k' j y h0 h1 ⟨q1, q2⟩
    left
    have := loopI (f := fun k' i (y : Col) => spec_l01Circle_l1 k l j k' i y) j 0 (fun i y => y.p = n ∧ y.k = 2) (fun y => y.p = n ∧ y.k = 2) ?_ ?_ k 0 y (by omega) (by omega) ⟨q1, q2⟩
    · obtain ⟨y', e, h⟩ := this
      refine ⟨y', ?_, h⟩
      show spec_l01Circle_l0 k n l (k' + 1) j y = _
      rw [spec_l01Circle_l0, w64_succ (by omega) h1 (by omega), e]
      simp [h1]
    · rintro k'' i z g0 g1 ⟨p1, p2⟩
      left
      have := loopI (f := fun k' t (b : UInt8) => spec_l01Circle_l2 l j i k' b t) (l.length : Int) 0 (fun _ _ => True) (fun _ => True) ?_ ?_ k 0 (1 : UInt8) (by omega) (by omega) trivial
      · obtain ⟨b, e, _⟩ := this
        have he := edge_ok (a := i) (b := j) (by omega) (by omega) (by omega)
        refine ⟨z.set (spec_l01Edge i j).toNat b, ?_, p1, p2⟩
        show spec_l01Circle_l1 k l j (k'' + 1) i z = _
        rw [spec_l01Circle_l1, w64_succ g0 g1 (by omega), e]
        simp only [g1, decide_true, if_true, Option.bind_some, he.1, he.2, and_self]
      · intro k3 t b t0 t1 _
        left
        by_cases hc : l.getD t.toNat 0 = w64 (j - i)
        · refine ⟨0, ?_, trivial⟩
          show spec_l01Circle_l2 l j i (k3 + 1) b t = _
          rw [spec_l01Circle_l2, w64_succ t0 t1 (by omega)]
          simp only [t1, t0, decide_true, if_true, and_self, hc, Option.bind_some]
        · refine ⟨b, ?_, trivial⟩
          show spec_l01Circle_l2 l j i (k3 + 1) b t = _
          rw [spec_l01Circle_l2, w64_succ t0 t1 (by omega)]
          simp only [t1, t0, decide_true, if_true, and_self, hc, decide_false, Bool.false_eq_true, if_false, Option.bind_some]
      · intro k3 t b t0 t1 _
        refine ⟨b, ?_, trivial⟩
        show spec_l01Circle_l2 l j i (k3 + 1) b t = _
        rw [spec_l01Circle_l2]
        have : ¬ t < (l.length : Int) := by omega
        simp [this]
    · rintro k'' i z g0 g1 q
      refine ⟨z, ?_, q⟩
      show spec_l01Circle_l1 k l j (k'' + 1) i z = _
      rw [spec_l01Circle_l1]
      have : ¬ i < j := by omega
      simp [this]
  · rintro k' j y h0 h1 q
    refine ⟨y, ?_, q⟩
    show spec_l01Circle_l0 k n l (k' + 1) j y = _
    rw [spec_l01Circle_l0]
    have : ¬ j < n := by omega
    simp [this]

theorem renamed_ok {k : Nat} (hk : 5000 ≤ k) (x : Col) (l : List Int) (hp : 1 ≤ x.p ∧ x.p ≤ 17) (hl : isOrdD x.p.toNat l) : ∃ y, spec_l01Renamed k x l = some y ∧ y.p = x.p ∧ y.k = x.k := by
  unfold spec_l01Renamed
  have hll := hl.1
  have := loopI (f := fun k' j (y : Col) => spec_l01Renamed_l0 k x l k' j y) x.p 1 (fun j y => y.p = x.p ∧ y.k = x.k) (fun y => y.p = x.p ∧ y.k = x.k) ?_ ?_ k 1 ⟨x.p, x.k, B136.zero⟩ (by omega) (by omega) ⟨rfl, rfl⟩
  · obtain ⟨y, e, h⟩ := this
    exact ⟨y, by rw [e]; rfl, h⟩
  · rintro k' j y h0 h1 ⟨q1, q2⟩
    left
    have := loopI (f := fun k' i (y : Col) => spec_l01Renamed_l1 x l j k' i y) j 0 (fun i y => y.p = x.p ∧ y.k = x.k) (fun y => y.p = x.p ∧ y.k = x.k) ?_ ?_ k 0 y (by omega) (by omega) ⟨q1, q2⟩
    · obtain ⟨y', e, h⟩ := this
      refine ⟨y', ?_, h⟩
      show spec_l01Renamed_l0 k x l (k' + 1) j y = _
      rw [spec_l01Renamed_l0, w64_succ (by omega) h1 (by omega), e]
      simp [h1]
    · rintro k'' i z g0 g1 ⟨p1, p2⟩
      left
      have hne := hl.ne (i := i.toNat) (j := j.toNat) (by omega) (by omega) (by omega)
      have hi := hl.get (i := i.toNat) (by omega)
      have hj := hl.get (i := j.toNat) (by omega)
      have he := edge_ok (a := l.getD i.toNat 0) (b := l.getD j.toNat 0) (by omega) (by omega) hne
      refine ⟨z.set (spec_l01Edge (l.getD i.toNat 0) (l.getD j.toNat 0)).toNat (toByte (x.cc i j)), ?_, p1, p2⟩
      show spec_l01Renamed_l1 x l j (k'' + 1) i z = _
      rw [spec_l01Renamed_l1, w64_succ g0 g1 (by omega), specAt_eq x i j g0 g1 (by omega) (by omega)]
      have a1 : i < (l.length : Int) := by omega
      have a2 : j < (l.length : Int) := by omega
      have a3 : 0 ≤ j := by omega
      simp only [g1, decide_true, if_true, g0, a1, a2, a3, and_self, Option.bind_some, he.1, he.2]
    · rintro k'' i z g0 g1 q
      refine ⟨z, ?_, q⟩
      show spec_l01Renamed_l1 x l j (k'' + 1) i z = _
      rw [spec_l01Renamed_l1]
      have : ¬ i < j := by omega
      simp [this]
  · rintro k' j y h0 h1 q
    refine ⟨y, ?_, q⟩
    show spec_l01Renamed_l0 k x l (k' + 1) j y = _
    rw [spec_l01Renamed_l0]
    have : ¬ j < x.p := by omega
    simp [this]

theorem with_ok (x : Col) (a b c : Int) (ha : 0 ≤ a ∧ a < 17) (hb : 0 ≤ b ∧ b < 17) (h : a ≠ b) : ∃ y, spec_l01With x a b c = some y ∧ y.p = x.p ∧ y.k = x.k := by
  unfold spec_l01With
  rw [if_pos (edge_ok ha hb h)]
  exact ⟨_, rfl, rfl, rfl⟩

theorem bad_ok (s : Src) (x : Col) (h : okS s) : ∃ y s', spec_l01Bad s x = some (y, s') ∧ okS s' := by
  unfold spec_l01Bad
  obtain ⟨v, s1, e1, hs1, _⟩ := next_ok s 50 h
  rw [e1]
  simp only [Option.bind_some]
  by_cases h0 : v = 0
  · obtain ⟨a, s2, e2, hs2, _⟩ := pick_ok s1 [0, 18, -1, w64 (x.p - 1)] hs1 (by simp)
    exact ⟨⟨a, x.k, x.e⟩, s2, by simp only [h0, decide_true, if_true, e2, Option.bind_some], hs2⟩
  · by_cases h1 : v = 1
    · obtain ⟨a, s2, e2, hs2, _⟩ := pick_ok s1 [0, 5, -1] hs1 (by simp)
      have h10 : ¬ ((1 : Int) = 0) := by omega
      exact ⟨⟨x.p, a, x.e⟩, s2, by simp only [h1, h10, decide_true, if_true, decide_false, Bool.false_eq_true, if_false, e2, Option.bind_some], hs2⟩
    · by_cases h2 : v = 2
      · obtain ⟨a, s2, e2, hs2, ha, _⟩ := next_ok s1 136 hs1
        have ha' := ha (by omega)
        obtain ⟨b, s3, e3, hs3, _⟩ := pick_ok s2 [1, 4, 200] hs2 (by simp)
        have h20 : ¬ ((2 : Int) = 0) := by omega
        have h21 : ¬ ((2 : Int) = 1) := by omega
        exact ⟨x.set a.toNat (toByte b), s3, by simp only [h2, h20, h21, decide_true, if_true, decide_false, Bool.false_eq_true, if_false, e2, e3, ha'.1, ha'.2, and_self, Option.bind_some], hs3⟩
      · exact ⟨x, s1, by simp only [h0, h1, h2, decide_false, Bool.false_eq_true, if_false, Option.bind_some], hs1⟩

theorem near_ok (s : Src) (m : Int) (h : okS s) : ∃ v s', spec_l01Near s m = some (v, s') ∧ okS s' := by
  unfold spec_l01Near
  obtain ⟨v, s1, e1, hs1, _⟩ := next_ok s 14 h
  rw [e1]
  simp only [Option.bind_some]
  by_cases h0 : v = 0
  · obtain ⟨a, s2, e2, hs2, _⟩ := pick_ok s1 [-1, w64 (m + 1), 1099511627776, -4611686018427387904] hs1 (by simp)
    exact ⟨a, s2, by simp only [h0, decide_true, if_true, e2, Option.bind_some], hs2⟩
  · obtain ⟨a, s2, e2, hs2, _⟩ := next_ok s1 (w64 (m + 1)) hs1
    exact ⟨a, s2, by simp only [h0, decide_false, Bool.false_eq_true, if_false, e2, Option.bind_some], hs2⟩

def sixL : List UInt8 := [0, 0, 1, 1, 2, 2, 2, 1, 0, 2, 0, 1, 0, 1, 2, 0]

def sixG (a b : Nat) : Int := ((sixL.getD (bXor .i64 (a : Int) b).toNat 0).toNat : Int)

theorem six_spec {k : Nat} (hk : 5000 ≤ k) : spec_l01Named_l0 k k 1 ⟨16, 3, B136.zero⟩ = some (mkC 16 3 sixG) := by
  have hx : ∀ j : Nat, j < 16 → ∀ i : Nat, i < 16 → 0 ≤ bXor .i64 (i : Int) (j : Int) ∧ bXor .i64 (i : Int) (j : Int) < 16 := by decide +kernel
  exact nest (fun k' j s => spec_l01Named_l0 k k' j s) 16 (by omega) sixG 3
    (fun k' j s hj q1 q2 q3 => by
      obtain ⟨y, e, r⟩ := nest1 (fun K i s => spec_l01Named_l1 j K i s) 16 (by omega) sixG j hj 3
        (fun k' i s hi _ _ => by
          have he := edge_eq (i : Int) (j : Int) (by omega) (by omega)
          simp only [Int.toNat_natCast] at he
          have h136 := eN_136 (i := i) (j := j) (by omega) (by omega) (by omega)
          have c1 : (i : Int) < (j : Int) := by omega
          have c4 : ((eN i j : Nat) : Int) < 136 := by omega
          have c5 := hx j hj i (by omega)
          show spec_l01Named_l1 j (k' + 1) i s = spec_l01Named_l1 j k' ((i + 1 : Nat) : Int) _
          rw [spec_l01Named_l1, he, w64_id (n := (i : Int) + 1) (by omega), decide_eq_true c1, if_pos rfl, if_pos ⟨c5.1, c5.2⟩, if_pos ⟨Int.natCast_nonneg _, c4⟩]
          unfold sixG
          rw [tb, Int.toNat_natCast]
          rfl)
        (fun k' s => by
          show spec_l01Named_l1 j (k' + 1) j s = _
          rw [spec_l01Named_l1]; simp) j 0 k s (by omega) (by omega) q1 q2 q3
      refine ⟨y, r, ?_⟩
      have c1 : (j : Int) < 16 := by omega
      show spec_l01Named_l0 k (k' + 1) j s = spec_l01Named_l0 k k' ((j + 1 : Nat) : Int) y
      have e' : spec_l01Named_l1 j k 0 s = some y := e
      rw [spec_l01Named_l0, e', w64_id (n := (j : Int) + 1) (by omega)]
      simp only [c1, decide_true, if_true, Option.bind_some]
      rfl)
    (fun k' s q1 => by
      show spec_l01Named_l0 k (k' + 1) ((16 : Nat) : Int) s = _
      rw [spec_l01Named_l0]; rfl) k 1 (by omega) (by omega) (by omega)

/-! ### Colourings that are drawn have points and colours -/
def goodC (x : Col) : Prop := (1 ≤ x.p ∧ x.p ≤ 17) ∧ 1 ≤ x.k ∧ x.k ≤ 4
theorem few2 {k : Nat} (hk : 5000 ≤ k) : ∀ (m : Nat) (k' : Nat), m < k' → m ≤ 10 → ∀ (s : Src) (x : Col), okS s → 5 ≤ x.p ∧ x.p ≤ 17 → ∃ s' y, spec_l01Draw_l0 k k' m s x = some (s', y) ∧ okS s' ∧ y.p = x.p ∧ y.k = x.k := by
  intro m
  induction m with
  | zero =>
    intro k' hk' _ s x h hp
    obtain ⟨k', rfl⟩ : ∃ q, k' = q + 1 := ⟨k' - 1, by omega⟩
    exact ⟨s, x, by rw [spec_l01Draw_l0]; simp, h, rfl, rfl⟩
  | succ m ih =>
    intro k' hk' hm s x h hp
    obtain ⟨k', rfl⟩ : ∃ q, k' = q + 1 := ⟨k' - 1, by omega⟩
    obtain ⟨n, hn⟩ := nat_of (show 0 ≤ x.p by omega)
    obtain ⟨l, s1, e1, hs1, hl⟩ := order_ok hk s n h (by omega)
    obtain ⟨a, b, ea, eb, hab, ha, hb⟩ := hl.two (by omega)
    obtain ⟨v, s2, e2, hs2, _⟩ := next_ok s1 x.k hs1
    obtain ⟨y, e3, hy, hyk⟩ := with_ok x a b v (by omega) (by omega) hab
    obtain ⟨s', z, e4, h4, h5, h6⟩ := ih k' (by omega) (by omega) s2 y hs2 (by omega)
    refine ⟨s', z, ?_, h4, by rw [h5, hy], by rw [h6, hyk]⟩
    have hpos : (0 : Int) < ((m + 1 : Nat) : Int) := by omega
    have hl1 := hl.1
    have c0 : (0 : Int) < (l.length : Int) := by omega
    have c1 : (1 : Int) < (l.length : Int) := by omega
    rw [spec_l01Draw_l0, hn, e1]
    have g0 : l.getD (0 : Int).toNat 0 = a := ea
    have g1 : l.getD (1 : Int).toNat 0 = b := eb
    have ew : w64 (((m + 1 : Nat) : Int) - 1) = (m : Int) := by rw [w64_id (by omega)]; omega
    simp only [hpos, decide_true, if_true, Option.bind_some, c0, c1, g0, g1, e2, e3, ew, e4, Int.le_refl, and_self, show (0 : Int) ≤ 1 by omega]
theorem named2 {k : Nat} (hk : 5000 ≤ k) (j : Nat) (hj : j < 5) : ∃ x, spec_l01Named k (spec_l01Names.getD j ByteArray.empty) = some (x, true) ∧ (5 ≤ x.p ∧ x.p ≤ 17) ∧ 1 ≤ x.k ∧ x.k ≤ 4 := by
  have hc : j = 0 ∨ j = 1 ∨ j = 2 ∨ j = 3 ∨ j = 4 := by omega
  unfold spec_l01Named
  rcases hc with rfl | rfl | rfl | rfl | rfl
  · obtain ⟨x, e, hx, hk2⟩ := circle_ok hk 5 (by omega) [1, 4] (by simp)
    refine ⟨x, ?_, by omega, by omega⟩
    rw [if_pos (by decide), e]; rfl
  · obtain ⟨x, e, hx, hk2⟩ := circle_ok hk 8 (by omega) [1, 4, 7] (by simp)
    refine ⟨x, ?_, by omega, by omega⟩
    rw [if_neg (by decide), if_pos (by decide), e]; rfl
  · obtain ⟨x, e, hx, hk2⟩ := circle_ok hk 13 (by omega) [1, 5, 8, 12] (by simp)
    refine ⟨x, ?_, by omega, by omega⟩
    rw [if_neg (by decide), if_neg (by decide), if_pos (by decide), e]; rfl
  · obtain ⟨x, e, hx, hk2⟩ := circle_ok hk 17 (by omega) [1, 2, 4, 8, 9, 13, 15, 16] (by simp)
    refine ⟨x, ?_, by omega, by omega⟩
    rw [if_neg (by decide), if_neg (by decide), if_neg (by decide), if_pos (by decide), e]; rfl
  · refine ⟨mkC 16 3 sixG, ?_, by show (5 : Int) ≤ ((16 : Nat) : Int) ∧ ((16 : Nat) : Int) ≤ 17; omega, by show (1 : Int) ≤ 3 ∧ (3 : Int) ≤ 4; omega⟩
    rw [if_neg (by decide), if_neg (by decide), if_neg (by decide), if_neg (by decide), if_pos (by decide), six_spec hk]; rfl
theorem small2 {k : Nat} (hk : 5000 ≤ k) (s : Src) (h : okS s) : ∃ x s', spec_l01Small k s = some (x, s') ∧ okS s' ∧ goodC x := by
  unfold spec_l01Small
  obtain ⟨v, s1, e1, hs1, _⟩ := next_ok s 5 h
  rw [e1]
  simp only [Option.bind_some]
  by_cases hv : v = 0
  · obtain ⟨x, e2', hx5, hx2⟩ : ∃ x, spec_l01Named k (⟨#[112, 101, 110, 116, 97, 103, 111, 110]⟩ : ByteArray) = some (x, true) ∧ x.p = 5 ∧ x.k = 2 := by
      obtain ⟨x, e, hx, hk2⟩ := circle_ok hk 5 (by omega) [1, 4] (by simp)
      refine ⟨x, ?_, hx, hk2⟩
      unfold spec_l01Named
      rw [if_pos (by decide), e]
      rfl
    obtain ⟨l, s2, e3, hs2, hl⟩ := order_ok hk s1 5 hs1 (by omega)
    obtain ⟨y, e4, hy, hyk⟩ := renamed_ok hk x l (by omega) (by rw [hx5]; exact hl)
    refine ⟨y, s2, ?_, hs2, by omega, by omega⟩
    have e3' : spec_l01DrawOrder k s1 5 = some (l, s2) := e3
    simp only [hv, decide_true, if_true, e2', e3', e4, Option.bind_some]
  · obtain ⟨a, s2, e2, hs2, ha, _⟩ := next_ok s1 6 hs1
    obtain ⟨b, s3, e3, hs3, hb⟩ := pick_ok s2 [1, 2, 2, 2, 3, 4] hs2 (by simp)
    have := ha (by omega)
    have hb' : 1 ≤ b ∧ b ≤ 4 := by simp at hb; omega
    obtain ⟨x, s4, e4, hs4, hx, hxk⟩ := drawOf_ok hk s3 (w64 (1 + a)) b hs3 (by rw [w64_id (by omega)]; omega)
    rw [w64_id (by omega)] at hx
    exact ⟨x, s4, by simp only [hv, decide_false, Bool.false_eq_true, if_false, e2, e3, e4, Option.bind_some], hs4, by omega, by omega⟩
theorem draw2 {k : Nat} (hk : 5000 ≤ k) (s : Src) (h : okS s) : ∃ x s', spec_l01Draw k s = some (x, s') ∧ okS s' ∧ goodC x := by
  unfold spec_l01Draw
  obtain ⟨v, s1, e1, hs1, _⟩ := next_ok s 4 h
  rw [e1]
  simp only [Option.bind_some]
  by_cases h0 : v = 0
  · have hlen : (spec_l01Names.length : Int) = 5 := rfl
    obtain ⟨a, s2, e2, hs2, ha, _⟩ := next_ok s1 5 hs1
    have ha' := ha (by omega)
    obtain ⟨x, e3, hx, hxk⟩ := named2 hk a.toNat (by omega)
    obtain ⟨n, hn⟩ := nat_of (show 0 ≤ x.p by omega)
    obtain ⟨l, s3, e4, hs3, hl⟩ := order_ok hk s2 n hs2 (by omega)
    obtain ⟨y, e5, hy, hyk⟩ := renamed_ok hk x l (by omega) (by rw [hn]; exact hl)
    obtain ⟨b, s4, e6, hs4, _⟩ := next_ok s3 2 hs3
    by_cases hb : b = 0
    · obtain ⟨m, s5, e7, hs5, hm, _⟩ := next_ok s4 3 hs4
      have hm' := hm (by omega)
      obtain ⟨q, hq⟩ := nat_of hm'.1
      obtain ⟨s6, z, e8, hs6, hz, hzk⟩ := few2 hk q k (by omega) (by omega) s5 y hs5 (by omega)
      exact ⟨z, s6, by simp only [h0, hb, hn, hq, decide_true, if_true, hlen, e2, ha'.1, ha'.2, and_self, e3, e4, e5, e6, e7, e8, Option.bind_some], hs6, by omega, by omega⟩
    · exact ⟨y, s4, by simp only [h0, hb, hn, decide_true, if_true, decide_false, Bool.false_eq_true, if_false, hlen, e2, ha'.1, ha'.2, and_self, e3, e4, e5, e6, Option.bind_some], hs4, by omega, by omega⟩
  · by_cases h1 : v = 1
    · obtain ⟨a, s2, e2, hs2, ha, _⟩ := next_ok s1 17 hs1
      have ha' := ha (by omega)
      obtain ⟨b, s3, e3, hs3, hb⟩ := pick_ok s2 [2, 2, 3, 4] hs2 (by simp)
      have hb' : 1 ≤ b ∧ b ≤ 4 := by simp at hb; omega
      obtain ⟨x, s4, e4, hs4, hx, hxk⟩ := drawOf_ok hk s3 (w64 (1 + a)) b hs3 (by rw [w64_id (by omega)]; omega)
      rw [w64_id (by omega)] at hx
      refine ⟨x, s4, ?_, hs4, by omega, by omega⟩
      have h10 : ¬ ((1 : Int) = 0) := by omega
      simp only [h1, h10, decide_true, if_true, decide_false, Bool.false_eq_true, if_false, e2, e3, e4, Option.bind_some]
    · obtain ⟨x, s2, e2, hs2, hx⟩ := small2 hk s1 hs1
      exact ⟨x, s2, by simp only [h0, h1, decide_false, Bool.false_eq_true, if_false, e2, Option.bind_some], hs2, hx⟩

def hs (s : Src) : Nat := (s.h % 18446744073709551616).toNat

theorem vl_bits (h : Nat) (hh : h < 18446744073709551616) : bAnd .u64 (bShr .u64 (h : Int) 33) 16777215 = (vl h : Int) := by
  have e1 : bShr .u64 (h : Int) 33 = ((h / 8589934592 : Nat) : Int) := by
    unfold bShr
    show (h : Int).fdiv (2 ^ 33) = _
    rw [Int.fdiv_eq_ediv_of_nonneg _ (by decide)]
    rfl
  rw [e1]
  unfold bAnd
  have e2 : (BitVec.ofInt IntKind.u64.bits ((h / 8589934592 : Nat) : Int) &&& BitVec.ofInt IntKind.u64.bits 16777215).toNat = vl h := by
    show (BitVec.ofInt 64 ((h / 8589934592 : Nat) : Int) &&& BitVec.ofInt 64 16777215).toNat = vl h
    rw [BitVec.toNat_and]
    have h1 : (BitVec.ofInt 64 16777215).toNat = 2 ^ 24 - 1 := by decide
    have h2 : (BitVec.ofInt 64 ((h / 8589934592 : Nat) : Int)).toNat = h / 8589934592 := by
      rw [BitVec.ofInt_natCast, BitVec.toNat_ofNat]
      exact Nat.mod_eq_of_lt (Nat.lt_of_le_of_lt (Nat.div_le_self _ _) hh)
    rw [h1, h2, Nat.and_two_pow_sub_one_eq_mod]
    rfl
  rw [e2, u64_id (by have := vl_lt h; omega)]

theorem hash_step (s : Src) : IntKind.u64.wrap ((IntKind.u64.wrap (s.h * 6364136223846793005)) + 1442695040888963407) = (nx (hs s) : Int) := by
  rw [IntKind.wrap_u64, IntKind.wrap_u64]
  unfold nx hs
  have h0 : 0 ≤ s.h % 18446744073709551616 := Int.emod_nonneg _ (by decide)
  have e : (((s.h % 18446744073709551616).toNat : Nat) : Int) = s.h % 18446744073709551616 := Int.toNat_of_nonneg h0
  rw [Int.natCast_emod, Int.natCast_add, Int.natCast_mul, e, Int.emod_add_emod]
  rw [Int.add_emod, Int.mul_emod, Int.add_emod (s.h % 18446744073709551616 * _), Int.mul_emod (s.h % 18446744073709551616)]
  simp only [Int.emod_emod]
  rfl

theorem nx_lt (h : Nat) : nx h < 18446744073709551616 := by unfold nx; exact Nat.mod_lt _ (by decide)
theorem hs_nx (c : List UInt8) (i : Int) (h : Nat) : hs ⟨c, i, (nx h : Int)⟩ = nx h := by
  unfold hs
  have := nx_lt h
  show ((nx h : Int) % 18446744073709551616).toNat = nx h
  generalize nx h = m at *
  omega

theorem next_x (s : Src) (n : Int) (h : okS s) (hn : 1 ≤ n) : ∃ v s', spec_l01Next s n = some (v, s') ∧ okS s' ∧ s'.c = s.c ∧ (0 ≤ v ∧ v < n) ∧ hs s' = nx (hs s) ∧ s.i ≤ s'.i ∧ (s.i < s.c.length → s'.i = s.i + 1) ∧ ((s.c.length : Int) ≤ s.i → s'.i = s.i ∧ v = (vl (hs s') : Int) % n) := by
  obtain ⟨v, s', e, hs', hv, _⟩ := next_ok s n h
  obtain ⟨h0, h1⟩ := h
  have e' := e
  unfold spec_l01Next at e'
  rw [hash_step s] at e'
  rw [if_neg (by simp; omega)] at e'
  have hb := vl_bits (nx (hs s)) (nx_lt _)
  have hvl := vl_lt (nx (hs s))
  simp only [hb] at e'
  rw [w64_id (n := (vl (nx (hs s)) : Int)) (by omega)] at e'
  by_cases hi : s.i < (s.c.length : Int)
  · rw [if_pos (by simpa using hi), if_pos ⟨h0, hi⟩, Option.bind_some, if_pos (by omega)] at e'
    cases e'
    refine ⟨_, _, e, hs', rfl, hv hn, hs_nx _ _ _, ?_, fun _ => ?_, fun h => by omega⟩
    · show s.i ≤ w64 (s.i + 1)
      rw [w64_id (by omega)]; omega
    · show w64 (s.i + 1) = s.i + 1
      rw [w64_id (by omega)]
  · rw [if_neg (by simpa using hi), Option.bind_some, if_pos (by omega)] at e'
    cases e'
    refine ⟨_, _, e, hs', rfl, hv hn, hs_nx _ _ _, Int.le_refl _, fun h => by omega, fun _ => ⟨rfl, ?_⟩⟩
    rw [hs_nx, Int.tmod_eq_emod_of_nonneg (by omega)]

theorem sign_size : ∀ i : Nat, i < 10 → (([(⟨#[48]⟩ : ByteArray), (⟨#[49]⟩ : ByteArray), (⟨#[50]⟩ : ByteArray), (⟨#[51]⟩ : ByteArray), (⟨#[55]⟩ : ByteArray), (⟨#[44]⟩ : ByteArray), (⟨#[58]⟩ : ByteArray), (⟨#[32]⟩ : ByteArray), (⟨#[120]⟩ : ByteArray), (⟨#[10]⟩ : ByteArray)]).getD i ByteArray.empty).size = 1
  | 0, _ | 1, _ | 2, _ | 3, _ | 4, _ | 5, _ | 6, _ | 7, _ | 8, _ | 9, _ => rfl
  | i + 10, h => by omega

theorem dam_x (s : Src) (t : ByteArray) (h : okS s) (ht : t.size ≤ 68719476736) : ∃ t' s', spec_l01Damage s t = some (t', s') ∧ okS s' ∧ s'.c = s.c ∧ s.i ≤ s'.i ∧ t'.size ≤ t.size + 1 ∧ ((s.c.length : Int) ≤ s.i → s'.i = s.i) ∧ (t.size = 0 → hs s' = nx (hs s)) ∧ (t.size ≠ 0 → hs s' = it 3 (hs s)) := by
  obtain ⟨v, s1, e1, k1, c1, ⟨v0, v1⟩, g1, m1, _, x1⟩ := next_x s 10 h (by omega)
  unfold spec_l01Damage
  have hl : (([(⟨#[48]⟩ : ByteArray), (⟨#[49]⟩ : ByteArray), (⟨#[50]⟩ : ByteArray), (⟨#[51]⟩ : ByteArray), (⟨#[55]⟩ : ByteArray), (⟨#[44]⟩ : ByteArray), (⟨#[58]⟩ : ByteArray), (⟨#[32]⟩ : ByteArray), (⟨#[120]⟩ : ByteArray), (⟨#[10]⟩ : ByteArray)]).length : Int) = 10 := rfl
  rw [hl, e1, Option.bind_some]
  dsimp only
  rw [if_pos ⟨v0, v1⟩]
  have hc := sign_size v.toNat (by omega)
  generalize (([(⟨#[48]⟩ : ByteArray), (⟨#[49]⟩ : ByteArray), (⟨#[50]⟩ : ByteArray), (⟨#[51]⟩ : ByteArray), (⟨#[55]⟩ : ByteArray), (⟨#[44]⟩ : ByteArray), (⟨#[58]⟩ : ByteArray), (⟨#[32]⟩ : ByteArray), (⟨#[120]⟩ : ByteArray), (⟨#[10]⟩ : ByteArray)]).getD v.toNat ByteArray.empty) = c at hc ⊢
  by_cases hz : t.size = 0
  · rw [if_pos (decide_eq_true (by omega))]
    exact ⟨c, s1, rfl, k1, c1, m1, by omega, fun h => (x1 h).1, fun _ => g1, fun h => absurd hz h⟩
  rw [if_neg (fun h => hz (by have := of_decide_eq_true h; omega))]
  obtain ⟨p, s2, e2, k2, c2, ⟨p0, p1⟩, g2, m2, _, x2⟩ := next_x s1 t.size k1 (by omega)
  obtain ⟨q, s3, e3, k3, c3, ⟨q0, q1⟩, g3, m3, _, x3⟩ := next_x s2 3 k2 (by omega)
  rw [e2, Option.bind_some]
  dsimp only
  rw [e3, Option.bind_some]
  have hw : w64 (p + 1) = p + 1 := w64_id (by omega)
  have z1 : (t.extract 0 p.toNat).size = p.toNat := by rw [ByteArray.size_extract]; omega
  have z2 : (t.extract (p + 1).toNat t.size).size = t.size - (p + 1).toNat := by rw [ByteArray.size_extract]; omega
  have z3 : (t.extract p.toNat t.size).size = t.size - p.toNat := by rw [ByteArray.size_extract]; omega
  have fin : ∀ t' : ByteArray, t'.size ≤ t.size + 1 → ∃ t'' s'', some (t', s3) = some (t'', s'') ∧ okS s'' ∧ s''.c = s.c ∧ s.i ≤ s''.i ∧ t''.size ≤ t.size + 1 ∧ ((s.c.length : Int) ≤ s.i → s''.i = s.i) ∧ (t.size = 0 → hs s'' = nx (hs s)) ∧ (t.size ≠ 0 → hs s'' = it 3 (hs s)) := fun t' h' =>
    ⟨t', s3, rfl, k3, by rw [c3, c2, c1], by omega, h', fun h => by
      have a1 := (x1 h).1
      have a2 := (x2 (by rw [c1, a1]; exact h)).1
      have a3 := (x3 (by rw [c2, c1, a2, a1]; exact h)).1
      omega, fun h => absurd h hz, fun _ => by rw [g3, g2, g1, it_succ, it_succ, it_one]⟩
  dsimp only
  rw [hw]
  by_cases hq0 : q = 0
  · rw [if_pos (by simpa using hq0), if_pos ⟨by omega, p0, by omega⟩, if_pos (by rw [z1, hc]; omega), if_pos ⟨by omega, by omega, by omega⟩, if_pos (by rw [ByteArray.size_append, z1, z2, hc]; omega)]
    exact fin _ (by rw [ByteArray.size_append, ByteArray.size_append, z1, z2, hc]; omega)
  rw [if_neg (by simpa using hq0)]
  by_cases hq1 : q = 1
  · rw [if_pos (by simpa using hq1), if_pos ⟨by omega, p0, by omega⟩, if_pos ⟨by omega, by omega, by omega⟩, if_pos (by rw [z1, z2]; omega)]
    exact fin _ (by rw [ByteArray.size_append, z1, z2]; omega)
  rw [if_neg (by simpa using hq1), if_pos ⟨by omega, p0, by omega⟩, if_pos (by rw [z1, hc]; omega), if_pos ⟨by omega, by omega, by omega⟩, if_pos (by rw [ByteArray.size_append, z1, z3, hc]; omega)]
  exact fin _ (by rw [ByteArray.size_append, ByteArray.size_append, z1, z3, hc]; omega)

theorem hist_lt (z : Nat) (l : Nat) (h : ∀ i, i < l → gd (it (4 * i + 1) z)) : l ≤ 2148270080 := by
  apply Classical.byContradiction
  intro hn
  refine run4 (nx z) fun k hk => ⟨?_, ?_⟩
  · have := h (k * 262144) (by omega)
    rw [it_succ, show 4 * (k * 262144) = k * 1048576 by omega] at this
    exact this
  · have := h (k * 262144 + 2147483648) (by omega)
    rw [it_succ, show 4 * (k * 262144 + 2147483648) = k * 1048576 + 8589934592 by omega] at this
    exact this

section
variable {L : Nat → ByteArray → Src → Option ByteArray} (hL : ∀ k t s, L (k + 1) t s = (spec_l01Next s 3).bind fun r6 => (if decide (r6.1 = 0) then (spec_l01Damage r6.2 t).bind fun r8 => L k r8.1 r8.2 else some t))
include hL
theorem dam_loop : ∀ (K : Nat) (t : ByteArray) (s : Src) (l z : Nat), okS s → (s.c.length : Int) ≤ s.i → hs s = it (4 * l) z → (∀ i, i < l → gd (it (4 * i + 1) z)) → t.size ≤ 5000 + l → (¬ ∃ t', L K t s = some t' ∧ t'.size ≤ 4294967280) → ∃ p, Way (nx (hs s)) p K := by
  intro K
  induction K with
  | zero => intro t s l z _ _ _ _ _ _; exact ⟨fun i => 2 * i, rfl, fun i hi => by omega⟩
  | succ K ih =>
    intro t s l z ho hx hz hg ht hn
    have hl := hist_lt z l hg
    obtain ⟨v, s1, e1, k1, c1, ⟨v0, v1⟩, g1, _, _, x1⟩ := next_x s 3 ho (by omega)
    obtain ⟨i1, hv⟩ := x1 hx
    rw [hL, e1, Option.bind_some] at hn
    by_cases h0 : v = 0
    · have hgd : gd (nx (hs s)) := by
        unfold gd
        rw [← g1]
        omega
      obtain ⟨t', s', e2, k2, c2, _, hts, x2, y1, y2⟩ := dam_x s1 t k1 (by omega)
      rw [if_pos (by simpa using h0), e2, Option.bind_some] at hn
      have hx' : (s'.c.length : Int) ≤ s'.i := by
        have := x2 (by rw [c1, i1]; exact hx)
        rw [c2, c1, this, i1]; exact hx
      have mk : ∀ d, (d = 2 ∨ d = 4) → hs s' = it d (hs s) → (∃ p, Way (nx (hs s')) p K) → ∃ p, Way (nx (hs s)) p (K + 1) := by
        rintro d hd he ⟨p, hp⟩
        have hcom : nx (hs s') = it d (nx (hs s)) := by
          rw [he, ← it_succ, ← it_one (it d (hs s)), ← it_add]
        refine ⟨fun i => match i with | 0 => 0 | i + 1 => d + p i, rfl, fun i hi => ?_⟩
        cases i with
        | zero => exact ⟨by show gd (it 0 _); rw [it_zero]; exact hgd, by show d + p 0 = 0 + 2 ∨ d + p 0 = 0 + 4; rw [hp.1]; omega⟩
        | succ i =>
          obtain ⟨a, b⟩ := hp.2 i (by omega)
          rw [hcom, ← it_add] at a
          exact ⟨a, by show d + p (i + 1) = d + p i + 2 ∨ d + p (i + 1) = d + p i + 4; omega⟩
      by_cases hz0 : t.size = 0
      · refine mk 2 (.inl rfl) (by rw [y1 hz0, g1, it_succ, it_one]) (ih t' s' 0 (hs s') k2 hx' (by rw [Nat.mul_zero, it_zero]) (fun i hi => by omega) (by omega) hn)
      · have he : hs s' = it 4 (hs s) := by rw [y2 hz0, g1, ← it_succ]
        refine mk 4 (.inr rfl) he (ih t' s' (l + 1) z k2 hx' (by rw [he, hz, ← it_add, Nat.mul_succ]) (fun i hi => ?_) (by omega) hn)
        by_cases hi' : i < l
        · exact hg i hi'
        · have : i = l := by omega
          subst this
          rw [it_add, it_one, ← hz]
          exact hgd
    · rw [if_neg (by simpa using h0)] at hn
      exact absurd ⟨t, rfl, by omega⟩ hn

theorem dam_pre : ∀ (r K : Nat) (t : ByteArray) (s : Src), okS s → (s.c.length : Int) ≤ s.i + r → t.size + r ≤ 5000 → (¬ ∃ t', L K t s = some t' ∧ t'.size ≤ 4294967280) → ∃ z p, Way z p (K - r) := by
  intro r
  induction r with
  | zero =>
    intro K t s ho hx ht hn
    obtain ⟨p, hp⟩ := dam_loop hL K t s 0 (hs s) ho (by omega) (by rw [Nat.mul_zero, it_zero]) (fun i hi => by omega) (by omega) hn
    exact ⟨_, p, hp⟩
  | succ r ih =>
    intro K t s ho hx ht hn
    by_cases hxx : (s.c.length : Int) ≤ s.i
    · obtain ⟨p, hp⟩ := dam_loop hL K t s 0 (hs s) ho hxx (by rw [Nat.mul_zero, it_zero]) (fun i hi => by omega) (by omega) hn
      exact ⟨_, p, hp.1, fun i hi => hp.2 i (by omega)⟩
    · cases K with
      | zero => exact ⟨0, fun i => 2 * i, rfl, fun i hi => by omega⟩
      | succ K =>
        obtain ⟨v, s1, e1, k1, c1, ⟨v0, v1⟩, g1, _, x0, x1⟩ := next_x s 3 ho (by omega)
        have i1 := x0 (by omega)
        rw [hL, e1, Option.bind_some] at hn
        by_cases h0 : v = 0
        · obtain ⟨t', s', e2, k2, c2, m2, hts, x2, y1, y2⟩ := dam_x s1 t k1 (by omega)
          rw [if_pos (by simpa using h0), e2, Option.bind_some] at hn
          rw [Nat.succ_sub_succ]
          exact ih K t' s' k2 (by rw [c2, c1]; omega) (by omega) hn
        · rw [if_neg (by simpa using h0)] at hn
          exact absurd ⟨t, rfl, by omega⟩ hn

theorem dam_end (k : Nat) (hk : 144115188075860000 ≤ k) (t : ByteArray) (s : Src) (ho : okS s) (ht : t.size ≤ 900) : ∃ t', L k t s = some t' ∧ t'.size ≤ 4294967280 := by
  apply Classical.byContradiction
  intro hn
  obtain ⟨h0, h1⟩ := ho
  obtain ⟨z, p, hp⟩ := dam_pre hL 4096 k t s ⟨h0, h1⟩ (by omega) (by omega) hn
  exact no_way z p _ (by omega) hp
end
end Go.Proofs.YtfhdihekehlkiaaGreatDoor
