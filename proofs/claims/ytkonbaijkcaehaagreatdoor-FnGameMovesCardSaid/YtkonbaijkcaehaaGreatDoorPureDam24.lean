/- Texts that are damaged by draws: that the loop comes to an end, and that the texts stay short. No conditions beyond those that each lemma states. -/
import Derived.Test.YtkonbaijkcaehaaGreatDoorPureDraw24
import Derived.Test.YtkonbaijkcaehaaGreatDoorLcg
set_option linter.unusedVariables false
set_option linter.unusedSimpArgs false
namespace Go.Proofs.YtkonbaijkcaehaaGreatDoor
open Go Go.RowKit Ab

def hs (s : Src) : Nat := (s.h % 18446744073709551616).toNat

theorem vl_bits (h : Nat) (hh : h < 18446744073709551616) : bAnd .u64 (bShr .u64 (h : Int) 33) 16777215 = (vl h : Int) := by
  have e1 : bShr .u64 (h : Int) 33 = ((h / 8589934592 : Nat) : Int) := by
    unfold bShr
    show (h : Int).fdiv (2 ^ 33) = _
    rw [Int.fdiv_eq_ediv_of_nonneg _ (by decide)]
    rfl
  rw [e1]
  unfold bAnd
  have e2 : (BitVec.ofInt IntKind.u64.bits ((h / 8589934592 : Nat) : Int) &&& BitVec.ofInt IntKind.u64.bits 16777215).toNat = vl h := by
    show (BitVec.ofInt 64 ((h / 8589934592 : Nat) : Int) &&& BitVec.ofInt 64 16777215).toNat = vl h
    rw [BitVec.toNat_and]
    have h1 : (BitVec.ofInt 64 16777215).toNat = 2 ^ 24 - 1 := by decide
    have h2 : (BitVec.ofInt 64 ((h / 8589934592 : Nat) : Int)).toNat = h / 8589934592 := by
      rw [BitVec.ofInt_natCast, BitVec.toNat_ofNat]
      exact Nat.mod_eq_of_lt (Nat.lt_of_le_of_lt (Nat.div_le_self _ _) hh)
    rw [h1, h2, Nat.and_two_pow_sub_one_eq_mod]
    rfl
  rw [e2, u64_id (by have := vl_lt h; omega)]

theorem hash_step (s : Src) : IntKind.u64.wrap ((IntKind.u64.wrap (s.h * 6364136223846793005)) + 1442695040888963407) = (nx (hs s) : Int) := by
  rw [IntKind.wrap_u64, IntKind.wrap_u64]
  unfold nx hs
  have h0 : 0 ≤ s.h % 18446744073709551616 := Int.emod_nonneg _ (by decide)
  have e : (((s.h % 18446744073709551616).toNat : Nat) : Int) = s.h % 18446744073709551616 := Int.toNat_of_nonneg h0
  rw [Int.natCast_emod, Int.natCast_add, Int.natCast_mul, e, Int.emod_add_emod]
  rw [Int.add_emod, Int.mul_emod, Int.add_emod (s.h % 18446744073709551616 * _), Int.mul_emod (s.h % 18446744073709551616)]
  simp only [Int.emod_emod]
  rfl

theorem nx_lt (h : Nat) : nx h < 18446744073709551616 := by unfold nx; exact Nat.mod_lt _ (by decide)
theorem hs_nx (c : List UInt8) (i : Int) (h : Nat) : hs ⟨c, i, (nx h : Int)⟩ = nx h := by
  unfold hs
  have := nx_lt h
  show ((nx h : Int) % 18446744073709551616).toNat = nx h
  generalize nx h = m at *
  omega

theorem next_x (s : Src) (n : Int) (h : okS s) (hn : 1 ≤ n) : ∃ v s', spec_l01Next s n = some (v, s') ∧ okS s' ∧ s'.c = s.c ∧ (0 ≤ v ∧ v < n) ∧ hs s' = nx (hs s) ∧ s.i ≤ s'.i ∧ (s.i < s.c.length → s'.i = s.i + 1) ∧ ((s.c.length : Int) ≤ s.i → s'.i = s.i ∧ v = (vl (hs s') : Int) % n) := by
  obtain ⟨v, s', e, hs', hv, _⟩ := next_ok s n h
  obtain ⟨h0, h1⟩ := h
  have e' := e
  unfold spec_l01Next at e'
  rw [hash_step s] at e'
  rw [if_neg (by simp; omega)] at e'
  have hb := vl_bits (nx (hs s)) (nx_lt _)
  have hvl := vl_lt (nx (hs s))
  simp only [hb] at e'
  rw [w64_id (n := (vl (nx (hs s)) : Int)) (by omega)] at e'
  by_cases hi : s.i < (s.c.length : Int)
  · rw [if_pos (by simpa using hi), if_pos ⟨h0, hi⟩, Option.bind_some, if_pos (by omega)] at e'
    cases e'
    refine ⟨_, _, e, hs', rfl, hv hn, hs_nx _ _ _, ?_, fun _ => ?_, fun h => by omega⟩
    · show s.i ≤ w64 (s.i + 1)
      rw [w64_id (by omega)]; omega
    · show w64 (s.i + 1) = s.i + 1
      rw [w64_id (by omega)]
  · rw [if_neg (by simpa using hi), Option.bind_some, if_pos (by omega)] at e'
    cases e'
    refine ⟨_, _, e, hs', rfl, hv hn, hs_nx _ _ _, Int.le_refl _, fun h => by omega, fun _ => ⟨rfl, ?_⟩⟩
    rw [hs_nx, Int.tmod_eq_emod_of_nonneg (by omega)]

theorem sign_size : ∀ i : Nat, i < 10 → (([(⟨#[48]⟩ : ByteArray), (⟨#[49]⟩ : ByteArray), (⟨#[50]⟩ : ByteArray), (⟨#[51]⟩ : ByteArray), (⟨#[55]⟩ : ByteArray), (⟨#[44]⟩ : ByteArray), (⟨#[58]⟩ : ByteArray), (⟨#[32]⟩ : ByteArray), (⟨#[120]⟩ : ByteArray), (⟨#[10]⟩ : ByteArray)]).getD i ByteArray.empty).size = 1
  | 0, _ | 1, _ | 2, _ | 3, _ | 4, _ | 5, _ | 6, _ | 7, _ | 8, _ | 9, _ => rfl
  | i + 10, h => by omega

theorem dam_x (s : Src) (t : ByteArray) (h : okS s) (ht : t.size ≤ 68719476736) : ∃ t' s', spec_l01Damage s t = some (t', s') ∧ okS s' ∧ s'.c = s.c ∧ s.i ≤ s'.i ∧ t'.size ≤ t.size + 1 ∧ ((s.c.length : Int) ≤ s.i → s'.i = s.i) ∧ (t.size = 0 → hs s' = nx (hs s)) ∧ (t.size ≠ 0 → hs s' = it 3 (hs s)) := by
  obtain ⟨v, s1, e1, k1, c1, ⟨v0, v1⟩, g1, m1, _, x1⟩ := next_x s 10 h (by omega)
  unfold spec_l01Damage
  have hl : (([(⟨#[48]⟩ : ByteArray), (⟨#[49]⟩ : ByteArray), (⟨#[50]⟩ : ByteArray), (⟨#[51]⟩ : ByteArray), (⟨#[55]⟩ : ByteArray), (⟨#[44]⟩ : ByteArray), (⟨#[58]⟩ : ByteArray), (⟨#[32]⟩ : ByteArray), (⟨#[120]⟩ : ByteArray), (⟨#[10]⟩ : ByteArray)]).length : Int) = 10 := rfl
  rw [hl, e1, Option.bind_some]
  dsimp only
  rw [if_pos ⟨v0, v1⟩]
  have hc := sign_size v.toNat (by omega)
  generalize (([(⟨#[48]⟩ : ByteArray), (⟨#[49]⟩ : ByteArray), (⟨#[50]⟩ : ByteArray), (⟨#[51]⟩ : ByteArray), (⟨#[55]⟩ : ByteArray), (⟨#[44]⟩ : ByteArray), (⟨#[58]⟩ : ByteArray), (⟨#[32]⟩ : ByteArray), (⟨#[120]⟩ : ByteArray), (⟨#[10]⟩ : ByteArray)]).getD v.toNat ByteArray.empty) = c at hc ⊢
  by_cases hz : t.size = 0
  · rw [if_pos (decide_eq_true (by omega))]
    exact ⟨c, s1, rfl, k1, c1, m1, by omega, fun h => (x1 h).1, fun _ => g1, fun h => absurd hz h⟩
  rw [if_neg (fun h => hz (by have := of_decide_eq_true h; omega))]
  obtain ⟨p, s2, e2, k2, c2, ⟨p0, p1⟩, g2, m2, _, x2⟩ := next_x s1 t.size k1 (by omega)
  obtain ⟨q, s3, e3, k3, c3, ⟨q0, q1⟩, g3, m3, _, x3⟩ := next_x s2 3 k2 (by omega)
  rw [e2, Option.bind_some]
  dsimp only
  rw [e3, Option.bind_some]
  have hw : w64 (p + 1) = p + 1 := w64_id (by omega)
  have z1 : (t.extract 0 p.toNat).size = p.toNat := by rw [ByteArray.size_extract]; omega
  have z2 : (t.extract (p + 1).toNat t.size).size = t.size - (p + 1).toNat := by rw [ByteArray.size_extract]; omega
  have z3 : (t.extract p.toNat t.size).size = t.size - p.toNat := by rw [ByteArray.size_extract]; omega
  have fin : ∀ t' : ByteArray, t'.size ≤ t.size + 1 → ∃ t'' s'', some (t', s3) = some (t'', s'') ∧ okS s'' ∧ s''.c = s.c ∧ s.i ≤ s''.i ∧ t''.size ≤ t.size + 1 ∧ ((s.c.length : Int) ≤ s.i → s''.i = s.i) ∧ (t.size = 0 → hs s'' = nx (hs s)) ∧ (t.size ≠ 0 → hs s'' = it 3 (hs s)) := fun t' h' =>
    ⟨t', s3, rfl, k3, by rw [c3, c2, c1], by omega, h', fun h => by
      have a1 := (x1 h).1
      have a2 := (x2 (by rw [c1, a1]; exact h)).1
      have a3 := (x3 (by rw [c2, c1, a2, a1]; exact h)).1
      omega, fun h => absurd h hz, fun _ => by rw [g3, g2, g1, it_succ, it_succ, it_one]⟩
  dsimp only
  rw [hw]
  by_cases hq0 : q = 0
  · rw [if_pos (by simpa using hq0), if_pos ⟨by omega, p0, by omega⟩, if_pos (by rw [z1, hc]; omega), if_pos ⟨by omega, by omega, by omega⟩, if_pos (by rw [ByteArray.size_append, z1, z2, hc]; omega)]
    exact fin _ (by rw [ByteArray.size_append, ByteArray.size_append, z1, z2, hc]; omega)
  rw [if_neg (by simpa using hq0)]
  by_cases hq1 : q = 1
  · rw [if_pos (by simpa using hq1), if_pos ⟨by omega, p0, by omega⟩, if_pos ⟨by omega, by omega, by omega⟩, if_pos (by rw [z1, z2]; omega)]
    exact fin _ (by rw [ByteArray.size_append, z1, z2]; omega)
  rw [if_neg (by simpa using hq1), if_pos ⟨by omega, p0, by omega⟩, if_pos (by rw [z1, hc]; omega), if_pos ⟨by omega, by omega, by omega⟩, if_pos (by rw [ByteArray.size_append, z1, z3, hc]; omega)]
  exact fin _ (by rw [ByteArray.size_append, ByteArray.size_append, z1, z3, hc]; omega)

theorem hist_lt (z : Nat) (l : Nat) (h : ∀ i, i < l → gd (it (4 * i + 1) z)) : l ≤ 2148270080 := by
  apply Classical.byContradiction
  intro hn
  refine run4 (nx z) fun k hk => ⟨?_, ?_⟩
  · have := h (k * 262144) (by omega)
    rw [it_succ, show 4 * (k * 262144) = k * 1048576 by omega] at this
    exact this
  · have := h (k * 262144 + 2147483648) (by omega)
    rw [it_succ, show 4 * (k * 262144 + 2147483648) = k * 1048576 + 8589934592 by omega] at this
    exact this

section
variable {L : Nat → ByteArray → Src → Option ByteArray} (hL : ∀ k t s, L (k + 1) t s = (spec_l01Next s 3).bind fun r6 => (if decide (r6.1 = 0) then (spec_l01Damage r6.2 t).bind fun r8 => L k r8.1 r8.2 else some t))
include hL
theorem dam_loop : ∀ (K : Nat) (t : ByteArray) (s : Src) (l z : Nat), okS s → (s.c.length : Int) ≤ s.i → hs s = it (4 * l) z → (∀ i, i < l → gd (it (4 * i + 1) z)) → t.size ≤ 5000 + l → (¬ ∃ t', L K t s = some t' ∧ t'.size ≤ 4294967296) → ∃ p, Way (nx (hs s)) p K := by
  intro K
  induction K with
  | zero => intro t s l z _ _ _ _ _ _; exact ⟨fun i => 2 * i, rfl, fun i hi => by omega⟩
  | succ K ih =>
    intro t s l z ho hx hz hg ht hn
    have hl := hist_lt z l hg
    obtain ⟨v, s1, e1, k1, c1, ⟨v0, v1⟩, g1, _, _, x1⟩ := next_x s 3 ho (by omega)
    obtain ⟨i1, hv⟩ := x1 hx
    rw [hL, e1, Option.bind_some] at hn
    by_cases h0 : v = 0
    · have hgd : gd (nx (hs s)) := by
        unfold gd
        rw [← g1]
        omega
      obtain ⟨t', s', e2, k2, c2, _, hts, x2, y1, y2⟩ := dam_x s1 t k1 (by omega)
      rw [if_pos (by simpa using h0), e2, Option.bind_some] at hn
      have hx' : (s'.c.length : Int) ≤ s'.i := by
        have := x2 (by rw [c1, i1]; exact hx)
        rw [c2, c1, this, i1]; exact hx
      have mk : ∀ d, (d = 2 ∨ d = 4) → hs s' = it d (hs s) → (∃ p, Way (nx (hs s')) p K) → ∃ p, Way (nx (hs s)) p (K + 1) := by
        rintro d hd he ⟨p, hp⟩
        have hcom : nx (hs s') = it d (nx (hs s)) := by
          rw [he, ← it_succ, ← it_one (it d (hs s)), ← it_add]
        refine ⟨fun i => match i with | 0 => 0 | i + 1 => d + p i, rfl, fun i hi => ?_⟩
        cases i with
        | zero => exact ⟨by show gd (it 0 _); rw [it_zero]; exact hgd, by show d + p 0 = 0 + 2 ∨ d + p 0 = 0 + 4; rw [hp.1]; omega⟩
        | succ i =>
          obtain ⟨a, b⟩ := hp.2 i (by omega)
          rw [hcom, ← it_add] at a
          exact ⟨a, by show d + p (i + 1) = d + p i + 2 ∨ d + p (i + 1) = d + p i + 4; omega⟩
      by_cases hz0 : t.size = 0
      · refine mk 2 (.inl rfl) (by rw [y1 hz0, g1, it_succ, it_one]) (ih t' s' 0 (hs s') k2 hx' (by rw [Nat.mul_zero, it_zero]) (fun i hi => by omega) (by omega) hn)
      · have he : hs s' = it 4 (hs s) := by rw [y2 hz0, g1, ← it_succ]
        refine mk 4 (.inr rfl) he (ih t' s' (l + 1) z k2 hx' (by rw [he, hz, ← it_add, Nat.mul_succ]) (fun i hi => ?_) (by omega) hn)
        by_cases hi' : i < l
        · exact hg i hi'
        · have : i = l := by omega
          subst this
          rw [it_add, it_one, ← hz]
          exact hgd
    · rw [if_neg (by simpa using h0)] at hn
      exact absurd ⟨t, rfl, by omega⟩ hn

theorem dam_pre : ∀ (r K : Nat) (t : ByteArray) (s : Src), okS s → (s.c.length : Int) ≤ s.i + r → t.size + r ≤ 5000 → (¬ ∃ t', L K t s = some t' ∧ t'.size ≤ 4294967296) → ∃ z p, Way z p (K - r) := by
  intro r
  induction r with
  | zero =>
    intro K t s ho hx ht hn
    obtain ⟨p, hp⟩ := dam_loop hL K t s 0 (hs s) ho (by omega) (by rw [Nat.mul_zero, it_zero]) (fun i hi => by omega) (by omega) hn
    exact ⟨_, p, hp⟩
  | succ r ih =>
    intro K t s ho hx ht hn
    by_cases hxx : (s.c.length : Int) ≤ s.i
    · obtain ⟨p, hp⟩ := dam_loop hL K t s 0 (hs s) ho hxx (by rw [Nat.mul_zero, it_zero]) (fun i hi => by omega) (by omega) hn
      exact ⟨_, p, hp.1, fun i hi => hp.2 i (by omega)⟩
    · cases K with
      | zero => exact ⟨0, fun i => 2 * i, rfl, fun i hi => by omega⟩
      | succ K =>
        obtain ⟨v, s1, e1, k1, c1, ⟨v0, v1⟩, g1, _, x0, x1⟩ := next_x s 3 ho (by omega)
        have i1 := x0 (by omega)
        rw [hL, e1, Option.bind_some] at hn
        by_cases h0 : v = 0
        · obtain ⟨t', s', e2, k2, c2, m2, hts, x2, y1, y2⟩ := dam_x s1 t k1 (by omega)
          rw [if_pos (by simpa using h0), e2, Option.bind_some] at hn
          rw [Nat.succ_sub_succ]
          exact ih K t' s' k2 (by rw [c2, c1]; omega) (by omega) hn
        · rw [if_neg (by simpa using h0)] at hn
          exact absurd ⟨t, rfl, by omega⟩ hn

theorem dam_end (k : Nat) (hk : 144115188075860000 ≤ k) (t : ByteArray) (s : Src) (ho : okS s) (ht : t.size ≤ 100) : ∃ t', L k t s = some t' ∧ t'.size ≤ 4294967296 := by
  apply Classical.byContradiction
  intro hn
  obtain ⟨h0, h1⟩ := ho
  obtain ⟨z, p, hp⟩ := dam_pre hL 4096 k t s ⟨h0, h1⟩ (by omega) (by omega) hn
  exact no_way z p _ (by omega) hp
end
end Go.Proofs.YtkonbaijkcaehaaGreatDoor
