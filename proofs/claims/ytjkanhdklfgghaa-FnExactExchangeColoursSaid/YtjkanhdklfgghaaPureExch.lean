/- The plain law of FnExactExchangeColours: the program's answer is the reference's. No conditions beyond those that each lemma states. -/
import Derived.Test.YtjkanhdklfgghaaPurePerm
set_option linter.unusedVariables false
set_option linter.unusedSimpArgs false
namespace Go.Proofs.Ytjkanhdklfgghaa
open Go Go.RowKit Ab

theorem tE_tri (x : Col) (h : 1 ≤ x.p ∧ x.p ≤ 17) : tE x = (tri x.p.toNat : Int) := by
  obtain ⟨n, hn⟩ := nat_of (show 0 ≤ x.p by omega)
  unfold tE
  rw [hn, Int.toNat_natCast]
  have key : ∀ n : Nat, 1 ≤ n → n ≤ 17 → w64 ((w64 ((n : Int) * (w64 ((n : Int) - 1)))).tdiv 2) = (tri n : Int) := by
    have : ∀ n : Nat, n ≤ 17 → 1 ≤ n → w64 ((w64 ((n : Int) * (w64 ((n : Int) - 1)))).tdiv 2) = (tri n : Int) := by decide +kernel
    exact fun n h1 h2 => this n h2 h1
  exact key n (by omega) (by omega)

theorem edges_tri (n : Nat) (h : n ≤ 17) (k : Int) (e : B136) : w64 ((w64 ((n : Int) * (w64 ((n : Int) - 1)))).tdiv 2) = (tri n : Int) := by
  have : ∀ n : Nat, n ≤ 17 → w64 ((w64 ((n : Int) * (w64 ((n : Int) - 1)))).tdiv 2) = (tri n : Int) := by decide +kernel
  exact this n h

theorem is_lt {x : Col} (h : x.is) {e : Nat} (he : e < tri x.p.toNat) : ((x.e.get e).toNat : Int) < x.k := by
  have := tri_le (n := x.p.toNat) (by have := h.1; omega)
  have h1 := (h.2.2 e (by omega) (by omega)).1 (by rw [tE_tri x h.1]; omega)
  rw [Int.toNat_natCast] at h1
  exact h1
theorem is_zero {x : Col} (h : x.is) {e : Nat} (he : tri x.p.toNat ≤ e) (h1 : e < 136) : x.e.get e = 0 := by
  have h2 := (h.2.2 e (by omega) (by omega)).2 (by rw [tE_tri x h.1]; omega)
  rw [← u8_zero]
  rw [Int.toNat_natCast] at h2
  exact h2

theorem specTurned_eq (x : Col) (h : x.is) (q : List Int) (hq : (q.length : Int) = x.k) (k : Nat) (hk : 140 ≤ k) :
    ∃ y, spec_l01Turned k x q = some y ∧ Made y x.p x.k (fun a b => toByte (q.getD (x.e.get (eN a b)).toNat 0)) := by
  unfold spec_l01Turned
  obtain ⟨n, hn⟩ := nat_of (show 0 ≤ x.p by have := h.1; omega)
  have hn17 : n ≤ 17 := by have := h.1; omega
  have htl := tri_le hn17
  have hnt : x.p.toNat = n := by omega
  have := loopI (f := fun k' i (s : Col) => spec_l01Turned_l0 q k' i s) (tri n : Int) 0
    (fun i (s : Col) => s.p = x.p ∧ s.k = x.k ∧ i ≤ tri n ∧ (∀ e : Nat, (e : Int) < i → s.e.get e = toByte (q.getD (x.e.get e).toNat 0)) ∧ ∀ e : Nat, i ≤ e → s.e.get e = x.e.get e)
    (fun r => Made r x.p x.k (fun a b => toByte (q.getD (x.e.get (eN a b)).toNat 0))) ?_ ?_ k 0 x (by omega) (by omega) ⟨rfl, rfl, by omega, fun e h => by omega, fun e _ => rfl⟩
  · obtain ⟨y, e, hm⟩ := this
    rw [e]
    exact ⟨y, rfl, hm⟩
  · intro k' i s h0 h1 ⟨q1, q2, _, q4, q5⟩
    left
    obtain ⟨m, rfl⟩ := nat_of h0
    refine ⟨s.set m (toByte (q.getD (x.e.get m).toNat 0)), ?_, q1, q2, by omega, ?_, ?_⟩
    · show spec_l01Turned_l0 q (k' + 1) m s = _
      have hm := q5 m (Int.le_refl _)
      have hlt := is_lt h (e := m) (by rw [hnt]; omega)
      have e1 : (m : Int) < 136 := by omega
      have e2 : ((x.e.get m).toNat : Int) < (q.length : Int) := by omega
      have e3 : s.get m = x.e.get m := hm
      rw [spec_l01Turned_l0, q1, hn, edges_tri n hn17 s.k s.e, w64_succ h0 h1 (by omega)]
      simp only [Int.toNat_natCast, e3, h1, e1, e2, decide_true, if_true, Int.natCast_nonneg, and_self, h0]
    · intro e he
      rw [show (s.set m (toByte (q.getD (x.e.get m).toNat 0))).e.get e = _ from B136.get_set s.e m e _ (by omega)]
      split
      · next h => rw [h]
      · exact q4 e (by omega)
    · intro e he
      rw [show (s.set m (toByte (q.getD (x.e.get m).toNat 0))).e.get e = _ from B136.get_set s.e m e _ (by omega), if_neg (by omega)]
      exact q5 e (by omega)
  · intro k' i s h0 h1 ⟨q1, q2, q3, q4, q5⟩
    have : i = tri n := by omega
    subst this
    refine ⟨s, ?_, q1, q2, fun a b hab hb => ?_, fun e he h136 => ?_⟩
    · show spec_l01Turned_l0 q (k' + 1) (tri n : Nat) s = _
      rw [spec_l01Turned_l0, q1, hn, edges_tri n hn17 s.k s.e]
      simp
    · have := eN_lt hab (show b < n by omega) hn17
      exact q4 _ (by omega)
    · rw [q5 e (by rw [hnt] at he; omega)]
      exact is_zero h he h136

theorem implTurned_eq (x : Col) (h : x.is) (q : List Int) (hq : (q.length : Int) = x.k) (k : Nat) (hk : 140 ≤ k) :
    ∃ y, impl_Colouring_recoloured k x x.k (fun a0 => impl_ExchangeColours_c2 a0 q) = some y ∧ Made y x.p x.k (fun a b => toByte (q.getD (x.e.get (eN a b)).toNat 0)) := by
  unfold impl_Colouring_recoloured
  obtain ⟨y, e, hm⟩ := made_eq (fun a0 a1 => impl_Colouring_recoloured_c1 a0 a1 (fun a0 => impl_ExchangeColours_c2 a0 q) x) x.p (by have := h.1; omega) h.1.2 (fun a b => q.getD (x.e.get (eN a b)).toNat 0)
    (fun i j hij hj => by
      have hp := h.1
      unfold impl_Colouring_recoloured_c1 impl_ExchangeColours_c2
      rw [implAt_eq x i j (by omega) (by omega) (by omega) (by omega)]
      unfold Col.cc
      simp only [Int.toNat_natCast, Option.bind_some]
      have hlt := is_lt h (e := eN i j) (eN_lt hij (by omega) (by omega))
      have e2 : ((x.e.get (eN i j)).toNat : Int) < (q.length : Int) := by omega
      simp only [e2, Int.natCast_nonneg, and_self, if_true, Option.bind_some]) x.k k (by omega)
  exact ⟨y, by rw [e]; rfl, hm⟩

open Classical in
theorem exch_same (x : Col) (l : List Int) (k : Nat) (hk : l.length + 200 ≤ k) (hl : (l.length : Int) ≤ 1099511627776) : ∃ r, spec_ExchangeColours k x l = some r ∧ impl_ExchangeColours k x l = some r := by
  unfold spec_ExchangeColours impl_ExchangeColours impl_Colouring_code impl_ExchangeColours_c1
  rw [specIs_eq k (by omega), isColouring_eq k (by omega)]
  by_cases hx : x.is
  · have hk4 := hx.2.1
    rw [specOrder_eq k l x.k (by omega) hl (by omega), implOrder_eq k l x.k (by omega) hl]
    by_cases ho : isOrd l x.k
    · obtain ⟨y, e1, m1⟩ := specTurned_eq x hx l ho.1 k (by omega)
      obtain ⟨z, e2, m2⟩ := implTurned_eq x hx l ho.1 k (by omega)
      have : y = z := Made.eq (by have := hx.1; omega) hx.1.2 m1 m2 (fun _ _ _ _ => rfl)
      subst this
      rw [e1, e2]
      exact ⟨(y, 0), by simp [hx, ho], by simp [hx, ho]⟩
    · exact ⟨(⟨0, 0, B136.zero⟩, 2), by simp [hx, ho], by simp [hx, ho]⟩
  · exact ⟨(⟨0, 0, B136.zero⟩, 1), by simp [hx], by simp [hx]⟩

theorem exch_pure (x : Col) (l : List Int) : laws_FnExactExchangeColours (l.length + 200) x l = some true := by
  unfold laws_FnExactExchangeColours
  by_cases hb : (1048576 : Int) < (l.length : Int)
  · simp [hb]
  · obtain ⟨r, e1, e2⟩ := exch_same x l (l.length + 200) (Nat.le_refl _) (by omega)
    simp only [hb, decide_false, Bool.false_eq_true, if_false]
    rw [toColouring_eq _ (by omega), toInt64S_eq _ l (by omega) (by omega)]
    simp only [Option.bind_some, e1, e2]
    rw [eqCol_refl _ (by omega)]
    simp only [Option.bind_some, Bool.not_true, Bool.false_eq_true, if_false, decide_true]
    rw [eqInts_refl _ l (by omega) (by omega)]
    simp
end Go.Proofs.Ytjkanhdklfgghaa
