/- Plain laws: the first longest path, as the reference finds it. No conditions beyond those that each lemma states. -/
import Derived.Test.YtghhnpdhehjlaaaPureMatS32
import Derived.Test.YtghhnpdhehjlaaaPurePathI32
set_option linter.unusedVariables false
set_option linter.unusedSimpArgs false
namespace Go.Proofs.Ytghhnpdhehjlaaa
open Go Go.RowKit Ab

/-! ### The points with which paths through just a set begin, as bits -/
def enB (A : Int → Int → Bool) (n S : Nat) : Nat := bitsN (fun p => en A n S p) n
def enP (A : Int → Int → Bool) (n S i : Nat) : Nat := bitsN (fun p => decide (p < i) && en A n S p) n
section
variable {A : Int → Int → Bool} {n : Nat}
theorem enB_test (S p : Nat) : (enB A n S).testBit p = (decide (p < n) && en A n S p) := bitsN_test _ _ _
theorem enP_test (S i p : Nat) : (enP A n S i).testBit p = (decide (p < n) && (decide (p < i) && en A n S p)) := bitsN_test _ _ _
theorem enB_lt (S : Nat) : enB A n S < 2 ^ n := bitsN_lt _ _
theorem enP_lt (S i : Nat) : enP A n S i < 2 ^ n := bitsN_lt _ _
theorem enP_zero (S : Nat) : enP A n S 0 = 0 := bits_eq fun j => by rw [enP_test]; simp
theorem enP_full (S : Nat) : enP A n S n = enB A n S := bits_eq fun j => by
  rw [enP_test, enB_test]
  by_cases h : j < n <;> simp [h]
theorem enB_zero : enB A n 0 = 0 := bits_eq fun j => by
  rw [enB_test]
  have : en A n 0 j = false := Bool.eq_false_iff.2 fun h => by have := en_bit h; simp at this
  simp [this]
theorem enP_no {S i : Nat} (h : en A n S i = false) : enP A n S (i + 1) = enP A n S i := bits_eq fun j => by
  rw [enP_test, enP_test]
  by_cases e : j = i
  · subst e; simp [h]
  · by_cases h2 : j < i
    · simp [h2, show j < i + 1 by omega]
    · simp [h2, show ¬ j < i + 1 by omega]
theorem enP_yes {S i : Nat} (hi : i < n) (h : en A n S i = true) : enP A n S (i + 1) = add (enP A n S i) i := bits_eq fun j => by
  rw [add_test, enP_test, enP_test]
  by_cases e : i = j
  · subst e; simp [h, hi]
  · by_cases h2 : j < i
    · simp [h2, show j < i + 1 by omega, e]
    · simp [h2, show ¬ j < i + 1 by omega, e]
theorem enB_ne (S : Nat) : enB A n S ≠ 0 ↔ ∃ p, p < n ∧ en A n S p = true := by
  constructor
  · intro h
    refine Classical.byContradiction fun hn => h (bits_eq fun j => ?_)
    rw [enB_test, Nat.zero_testBit]
    by_cases hj : j < n
    · have : en A n S j = false := Bool.eq_false_iff.2 fun he => hn ⟨j, hj, he⟩
      simp [this]
    · simp [hj]
  · rintro ⟨p, hp, he⟩ h
    have := enB_test (A := A) (n := n) S p
    rw [h, he] at this
    simp [hp] at this
end

section
variable {x : Col} {c : Int} (hp : 1 ≤ x.p ∧ x.p ≤ 11)

def ET (x : Col) (c : Int) (S i : Nat) (T : List Int) : Prop := T.length = 2 ^ x.p.toNat ∧ (∀ t, t < S → T.getD t 0 = (enB (aB x c) x.p.toNat t : Int)) ∧ (∀ t, S < t → t < 2 ^ x.p.toNat → T.getD t 0 = 0) ∧ T.getD S 0 = (enP (aB x c) x.p.toNat S i : Int)

include hp
theorem ends_in {S k : Nat} {T : List Int} (hk : 200 ≤ k) (hS : S < 2 ^ x.p.toNat) (hT : ET x c S 0 T) : ∃ T', spec_l04Ends_l1 (rws x c x.p.toNat) (S : Int) k 0 T = some T' ∧ ET x c S x.p.toNat T' := by
  have hn : x.p.toNat ≤ 17 := by omega
  have hS63 := p63 hn hS
  have hrl : (rws x c x.p.toNat).length = x.p.toNat := rws_length ..
  obtain ⟨r, h1, h2⟩ := loopI (fun k' i (T : List Int) => spec_l04Ends_l1 (rws x c x.p.toNat) (S : Int) k' i T) x.p 0
    (fun i T => ∃ im : Nat, i = im ∧ im ≤ x.p.toNat ∧ ET x c S im T) (fun T' => ET x c S x.p.toNat T')
    (fun k' i T h0 h1 hI => by
      obtain ⟨im, rfl, him, hT⟩ := hI
      obtain ⟨hl, hlo, hhi, hat⟩ := hT
      left
      have hi : im < x.p.toNat := by omega
      have hwi : w64 ((im : Int) + 1) = ((im : Int) + 1) := w64_id (by omega)
      have hx0 : decide (bAnd .i64 (S : Int) (bShl .i64 1 (im : Int)) = 0) = !S.testBit im := by
        rw [bShl_one (by omega), bAnd_nat hS63 (p2_63 (by omega)), and_bit]
        cases S.testBit im with
        | false => rfl
        | true =>
          have : 0 < 2 ^ im := Nat.pow_pos (by decide)
          rw [cond_true, decide_eq_false (by omega)]; rfl
      rw [spec_l04Ends_l1, decide_eq_true (show (im : Int) < ((rws x c x.p.toNat).length : Int) by omega), if_pos rfl, u64n (by omega), if_pos (by omega), hx0]
      cases hb : S.testBit im with
      | false =>
        refine ⟨T, ?_, im + 1, by omega, by omega, hl, hlo, hhi, ?_⟩
        · simp [hwi]
        · have : en (aB x c) x.p.toNat S im = false := Bool.eq_false_iff.2 fun h => by have := en_bit h; rw [hb] at this; cases this
          rw [enP_no this]; exact hat
      | true =>
        have hoff : off S im < S := off_self hb
        rw [xor_off hS63 (by omega), Bool.not_true, if_neg (by simp)]
        have hval : (if decide (((off S im : Nat) : Int) = 0) then some true else (if 0 ≤ ((off S im : Nat) : Int) ∧ ((off S im : Nat) : Int) < (T.length : Int) then (if 0 ≤ (im : Int) ∧ (im : Int) < ((rws x c x.p.toNat).length : Int) then some (!decide (bAnd .i64 (T.getD ((off S im : Nat) : Int).toNat 0) ((rws x c x.p.toNat).getD (im : Int).toNat 0) = 0)) else none) else none) : Option Bool) = some (en (aB x c) x.p.toNat S im) := by
          by_cases h0 : off S im = 0
          · rw [decide_eq_true (by omega), if_pos rfl, (en_iff hb).2 (.inl h0)]
          · rw [decide_eq_false (by omega), if_neg (by simp), if_pos (by omega), if_pos (by omega), Int.toNat_natCast, Int.toNat_natCast, hlo _ hoff, rws_get x c _ _ hi, bAnd_nat (p63 hn (enB_lt _)) (nb_lt x (by omega) c im)]
            congr 1
            rw [Bool.eq_iff_iff]
            rw [en_iff hb]
            simp only [Bool.not_eq_true', decide_eq_false_iff_not]
            constructor
            · intro h
              right
              refine Classical.byContradiction fun hno => h ?_
              have : enB (aB x c) x.p.toNat (off S im) &&& nb x c im = 0 := bits_eq fun j => by
                rw [Nat.testBit_and, enB_test, nb_test, Nat.zero_testBit]
                by_cases hj : j < x.p.toNat
                · cases h1 : en (aB x c) x.p.toNat (off S im) j with
                  | false => simp
                  | true =>
                    cases h2 : aB x c (im : Int) (j : Int) with
                    | false => simp
                    | true => exact absurd ⟨j, hj, h2, h1⟩ hno
                · simp [hj]
              rw [this]; rfl
            · rintro (h | ⟨q, hq, ha, he⟩) hz
              · exact h0 h
              · have h3 : (enB (aB x c) x.p.toNat (off S im) &&& nb x c im).testBit q = true := by
                  rw [Nat.testBit_and, enB_test, nb_test, he, ha]; simp [hq]
                have h4 : enB (aB x c) x.p.toNat (off S im) &&& nb x c im = 0 := by omega
                rw [h4] at h3; simp at h3
        rw [hval, Option.bind_some]
        cases he : en (aB x c) x.p.toNat S im with
        | false =>
          refine ⟨T, ?_, im + 1, by omega, by omega, hl, hlo, hhi, ?_⟩
          · simp [hwi]
          · rw [enP_no he]; exact hat
        | true =>
          rw [if_pos rfl, if_pos (by omega), if_pos (by omega), Int.toNat_natCast, hat, or_add hn (enP_lt _ _) hi]
          refine ⟨T.set S ((add (enP (aB x c) x.p.toNat S im) im : Nat) : Int), by simp [hwi], im + 1, by omega, by omega, by rw [List.length_set]; exact hl, fun t ht => ?_, fun t ht ht2 => ?_, ?_⟩
          · rw [List.getD_eq_getElem?_getD, List.getElem?_set_ne (by omega), ← List.getD_eq_getElem?_getD]; exact hlo t ht
          · rw [List.getD_eq_getElem?_getD, List.getElem?_set_ne (by omega), ← List.getD_eq_getElem?_getD]; exact hhi t ht ht2
          · rw [List.getD_eq_getElem?_getD, List.getElem?_set_self (by omega), enP_yes hi he]; rfl)
    (fun k' i T h0 h1 hI => by
      obtain ⟨im, rfl, him, hT⟩ := hI
      have : im = x.p.toNat := by omega
      subst this
      rw [spec_l04Ends_l1, decide_eq_false (by omega), if_neg (by simp)]
      exact ⟨_, rfl, hT⟩)
    k 0 T (by omega) (by omega) ⟨0, rfl, by omega, hT⟩
  exact ⟨r, h1, h2⟩

theorem ends_val {k : Nat} (hk : 200000 ≤ k) : ∃ T, spec_l04Ends k (rws x c x.p.toNat) = some T ∧ T.length = 2 ^ x.p.toNat ∧ ∀ t, t < 2 ^ x.p.toNat → T.getD t 0 = (enB (aB x c) x.p.toNat t : Int) := by
  have hn : x.p.toNat ≤ 17 := by omega
  have h17 : 2 ^ x.p.toNat ≤ 2048 := (Nat.pow_le_pow_right (by decide) (show x.p.toNat ≤ 11 by omega) : 2 ^ x.p.toNat ≤ 2 ^ 11)
  have hpos : 0 < 2 ^ x.p.toNat := Nat.pow_pos (by decide)
  have hrl : (rws x c x.p.toNat).length = x.p.toNat := rws_length ..
  unfold spec_l04Ends
  rw [hrl, u64n (by omega), if_pos (by omega), bShl_one (by omega), if_pos (by omega)]
  have hrep : (List.replicate ((2 ^ x.p.toNat : Nat) : Int).toNat (0 : Int)).length = 2 ^ x.p.toNat := by rw [List.length_replicate, Int.toNat_natCast]
  have hrep0 : ∀ t, (List.replicate ((2 ^ x.p.toNat : Nat) : Int).toNat (0 : Int)).getD t 0 = 0 := fun t => by
    rw [List.getD_eq_getElem?_getD]
    by_cases h : t < ((2 ^ x.p.toNat : Nat) : Int).toNat
    · rw [List.getElem?_replicate, if_pos h]; rfl
    · rw [List.getElem?_eq_none (by rw [List.length_replicate]; omega)]; rfl
  obtain ⟨T, h1, h2, h3⟩ := loopI (fun k' S (T : List Int) => spec_l04Ends_l0 k (rws x c x.p.toNat) k' S T) ((2 ^ x.p.toNat : Nat) : Int) 1
    (fun S T => ∃ Sn : Nat, S = Sn ∧ Sn ≤ 2 ^ x.p.toNat ∧ T.length = 2 ^ x.p.toNat ∧ (∀ t, t < Sn → T.getD t 0 = (enB (aB x c) x.p.toNat t : Int)) ∧ (∀ t, Sn ≤ t → t < 2 ^ x.p.toNat → T.getD t 0 = 0))
    (fun T => T.length = 2 ^ x.p.toNat ∧ ∀ t, t < 2 ^ x.p.toNat → T.getD t 0 = (enB (aB x c) x.p.toNat t : Int))
    (fun k' S T h0 h1 hI => by
      obtain ⟨Sn, rfl, hSn, hl, hlo, hhi⟩ := hI
      left
      obtain ⟨T', e, hl', hlo', hhi', hat'⟩ := ends_in hp (c := c) (S := Sn) (k := k) (T := T) (by omega) (by omega) ⟨hl, hlo, fun t ht ht2 => hhi t (by omega) ht2, by rw [hhi Sn (Nat.le_refl _) (by omega), enP_zero]; rfl⟩
      rw [spec_l04Ends_l0, decide_eq_true (by omega), if_pos rfl, e, Option.bind_some, w64_id (by omega)]
      refine ⟨T', rfl, Sn + 1, by omega, by omega, hl', fun t ht => ?_, fun t ht ht2 => hhi' t (by omega) ht2⟩
      by_cases e2 : t = Sn
      · subst e2; rw [hat', enP_full]
      · exact hlo' t (by omega))
    (fun k' S T h0 h1 hI => by
      obtain ⟨Sn, rfl, hSn, hl, hlo, hhi⟩ := hI
      rw [spec_l04Ends_l0, decide_eq_false (by omega), if_neg (by simp)]
      exact ⟨T, rfl, hl, fun t ht => hlo t (by omega)⟩)
    k 1 (List.replicate ((2 ^ x.p.toNat : Nat) : Int).toNat (0 : Int)) (by omega) (by omega)
    ⟨1, rfl, hpos, hrep, fun t ht => by
      have : t = 0 := by omega
      subst this
      rw [hrep0, enB_zero]; rfl, fun t _ _ => hrep0 t⟩
  exact ⟨T, by rw [h1]; rfl, h2, h3⟩

/-! ### The greatest number of points -/
omit hp in
def hasP (x : Col) (c : Int) (S : Nat) : Prop := ∃ p, p < x.p.toNat ∧ en (aB x c) x.p.toNat S p = true
theorem best_val {k : Nat} (hk : 200000 ≤ k) {T : List Int} (hl : T.length = 2 ^ x.p.toNat) (hT : ∀ t, t < 2 ^ x.p.toNat → T.getD t 0 = (enB (aB x c) x.p.toNat t : Int)) :
    ∃ b : Nat, spec_l04Path_l0 k T k 0 0 = some (b : Int) ∧ (∀ S, S < 2 ^ x.p.toNat → hasP x c S → cnt x.p.toNat S ≤ b) ∧ (b = 0 ∨ ∃ S, S < 2 ^ x.p.toNat ∧ hasP x c S ∧ cnt x.p.toNat S = b) := by
  have hn : x.p.toNat ≤ 60 := by omega
  have h17 : 2 ^ x.p.toNat ≤ 2048 := (Nat.pow_le_pow_right (by decide) (show x.p.toNat ≤ 11 by omega) : 2 ^ x.p.toNat ≤ 2 ^ 11)
  obtain ⟨r, h1, b, rfl, h2, h3⟩ := loopI (fun k' S (b : Int) => spec_l04Path_l0 k T k' b S) ((2 ^ x.p.toNat : Nat) : Int) 0
    (fun S b => ∃ Sn bn : Nat, S = Sn ∧ Sn ≤ 2 ^ x.p.toNat ∧ b = bn ∧ (∀ S, S < Sn → hasP x c S → cnt x.p.toNat S ≤ bn) ∧ (bn = 0 ∨ ∃ S, S < Sn ∧ hasP x c S ∧ cnt x.p.toNat S = bn))
    (fun r => ∃ b : Nat, r = (b : Int) ∧ (∀ S, S < 2 ^ x.p.toNat → hasP x c S → cnt x.p.toNat S ≤ b) ∧ (b = 0 ∨ ∃ S, S < 2 ^ x.p.toNat ∧ hasP x c S ∧ cnt x.p.toNat S = b))
    (fun k' S b h0 h1 hI => by
      obtain ⟨Sn, bn, rfl, hSn, rfl, ha, hb⟩ := hI
      left
      have hlt : Sn < 2 ^ x.p.toNat := by omega
      rw [spec_l04Path_l0, hl, decide_eq_true (by omega), if_pos rfl, if_pos (by omega), Int.toNat_natCast, hT Sn hlt, ones_val (by omega) hn hlt, w64_id (by omega)]
      by_cases h : enB (aB x c) x.p.toNat Sn = 0
      · rw [decide_eq_true (by omega)]
        have hno : ¬ hasP x c Sn := fun hh => (enB_ne Sn).2 hh h
        refine ⟨(bn : Int), by simp, Sn + 1, bn, by omega, by omega, rfl, fun S hS hh => ?_, ?_⟩
        · by_cases e : S = Sn
          · subst e; exact absurd hh hno
          · exact ha S (by omega) hh
        · rcases hb with hb | ⟨S, hS, hh, e⟩
          · exact .inl hb
          · exact .inr ⟨S, by omega, hh, e⟩
      · rw [decide_eq_false (by omega)]
        have hyes : hasP x c Sn := (enB_ne Sn).1 h
        refine ⟨((max bn (cnt x.p.toNat Sn) : Nat) : Int), ?_, Sn + 1, max bn (cnt x.p.toNat Sn), by omega, by omega, rfl, fun S hS hh => ?_, ?_⟩
        · have e5 : (if (bn : Int) < ((mem Sn 0 x.p.toNat).length : Int) then ((mem Sn 0 x.p.toNat).length : Int) else (bn : Int)) = ((max bn (cnt x.p.toNat Sn) : Nat) : Int) := by
            unfold cnt; split <;> omega
          simp only [Bool.not_false, if_true, Option.bind_some]
          rw [e5]
        · by_cases e : S = Sn
          · subst e; exact Nat.le_max_right ..
          · exact Nat.le_trans (ha S (by omega) hh) (Nat.le_max_left ..)
        · rcases Nat.le_total (cnt x.p.toNat Sn) bn with hle | hle
          · rw [Nat.max_eq_left hle]
            rcases hb with hb | ⟨S, hS, hh, e⟩
            · exact .inl hb
            · exact .inr ⟨S, by omega, hh, e⟩
          · rw [Nat.max_eq_right hle]
            exact .inr ⟨Sn, by omega, hyes, rfl⟩)
    (fun k' S b h0 h1 hI => by
      obtain ⟨Sn, bn, rfl, hSn, rfl, ha, hb⟩ := hI
      rw [spec_l04Path_l0, hl, decide_eq_false (by omega), if_neg (by simp)]
      have : Sn = 2 ^ x.p.toNat := by omega
      subst this
      exact ⟨_, rfl, bn, rfl, ha, hb⟩)
    k 0 0 (by omega) (by omega) ⟨0, 0, rfl, by omega, rfl, fun S hS => by omega, .inl rfl⟩
  exact ⟨b, h1, h2, h3⟩

omit hp in
theorem best_eq {b f m : Nat} (e : lpF (aB x c) x.p.toNat x.p.toNat = ((f : Int), (m : Int))) (hf : f < x.p.toNat) (hm : m = eX (aB x c) x.p.toNat (add 0 f) f) (hmax : ∀ j, j < x.p.toNat → eX (aB x c) x.p.toNat (add 0 j) j ≤ m)
    (h2 : ∀ S, S < 2 ^ x.p.toNat → hasP x c S → cnt x.p.toNat S ≤ b) (h3 : b = 0 ∨ ∃ S, S < 2 ^ x.p.toNat ∧ hasP x c S ∧ cnt x.p.toNat S = b) : b = m + 1 := by
  obtain ⟨S, hS, hc, hd, he⟩ := (en_eX (A := aB x c) m 0 f hf (by simp)).2 (by omega)
  have h4 := h2 S hS ⟨f, hf, he⟩
  rcases h3 with h3 | ⟨S', hS', ⟨p, hp', he'⟩, hc'⟩
  · omega
  · have h5 := (en_eX (A := aB x c) (b - 1) 0 p hp' (by simp)).1 ⟨S', hS', by omega, fun j _ => by simp, he'⟩
    have h6 := hmax p hp'
    omega

theorem sets_val {k : Nat} (hk : 200000 ≤ k) {T : List Int} (hl : T.length = 2 ^ x.p.toNat) (hT : ∀ t, t < 2 ^ x.p.toNat → T.getD t 0 = (enB (aB x c) x.p.toNat t : Int)) (b : Nat) :
    ∃ sl : List Nat, spec_l04Path_l1 k T (b : Int) k 0 [] = some (sl.map fun s : Nat => (s : Int)) ∧ sl.length ≤ 2048 ∧ ∀ S, S ∈ sl ↔ S < 2 ^ x.p.toNat ∧ hasP x c S ∧ cnt x.p.toNat S = b := by
  have hn : x.p.toNat ≤ 60 := by omega
  have h17 : 2 ^ x.p.toNat ≤ 2048 := (Nat.pow_le_pow_right (by decide) (show x.p.toNat ≤ 11 by omega) : 2 ^ x.p.toNat ≤ 2 ^ 11)
  obtain ⟨r, h1, sl, rfl, h2, h3⟩ := loopI (fun k' S (L : List Int) => spec_l04Path_l1 k T (b : Int) k' S L) ((2 ^ x.p.toNat : Nat) : Int) 0
    (fun S L => ∃ (Sn : Nat) (sl : List Nat), S = Sn ∧ Sn ≤ 2 ^ x.p.toNat ∧ L = (sl.map fun s : Nat => (s : Int)) ∧ sl.length ≤ Sn ∧ ∀ S, S ∈ sl ↔ S < Sn ∧ hasP x c S ∧ cnt x.p.toNat S = b)
    (fun r => ∃ sl : List Nat, r = (sl.map fun s : Nat => (s : Int)) ∧ sl.length ≤ 2048 ∧ ∀ S, S ∈ sl ↔ S < 2 ^ x.p.toNat ∧ hasP x c S ∧ cnt x.p.toNat S = b)
    (fun k' S L h0 h1 hI => by
      obtain ⟨Sn, sl, rfl, hSn, rfl, hlen, ha⟩ := hI
      left
      have hlt : Sn < 2 ^ x.p.toNat := by omega
      rw [spec_l04Path_l1, hl, decide_eq_true (by omega), if_pos rfl, if_pos (by omega), Int.toNat_natCast, hT Sn hlt, ones_val (by omega) hn hlt, w64_id (by omega)]
      have keep : ¬ (hasP x c Sn ∧ cnt x.p.toNat Sn = b) → ∀ S, S ∈ sl ↔ S < Sn + 1 ∧ hasP x c S ∧ cnt x.p.toNat S = b := fun hno S => by
        rw [ha S]
        constructor
        · rintro ⟨h1, h2⟩; exact ⟨by omega, h2⟩
        · rintro ⟨h1, h2⟩
          refine ⟨?_, h2⟩
          by_cases e : S = Sn
          · subst e; exact absurd h2 hno
          · omega
      by_cases h : enB (aB x c) x.p.toNat Sn = 0
      · rw [decide_eq_true (by omega)]
        have hno : ¬ hasP x c Sn := fun hh => (enB_ne Sn).2 hh h
        exact ⟨_, by simp, Sn + 1, sl, by omega, by omega, rfl, by omega, keep fun hh => hno hh.1⟩
      · rw [decide_eq_false (by omega)]
        have hyes : hasP x c Sn := (enB_ne Sn).1 h
        by_cases hc : cnt x.p.toNat Sn = b
        · refine ⟨(sl ++ [Sn]).map fun s : Nat => (s : Int), ?_, Sn + 1, sl ++ [Sn], by omega, by omega, rfl, by simp; omega, fun S => ?_⟩
          · have e1 : decide (((mem Sn 0 x.p.toNat).length : Int) = (b : Int)) = true := by
              unfold cnt at hc; exact decide_eq_true (by omega)
            simp only [Bool.not_false, if_true, Option.bind_some, e1]
            rw [if_pos (by simp; omega)]
            simp
          · rw [List.mem_append, ha S, List.mem_singleton]
            constructor
            · rintro (⟨h1, h2⟩ | rfl)
              · exact ⟨by omega, h2⟩
              · exact ⟨by omega, hyes, hc⟩
            · rintro ⟨h1, h2⟩
              by_cases e : S = Sn
              · exact .inr e
              · exact .inl ⟨by omega, h2⟩
        · have e1 : decide (((mem Sn 0 x.p.toNat).length : Int) = (b : Int)) = false := by
            unfold cnt at hc; exact decide_eq_false (by omega)
          refine ⟨_, ?_, Sn + 1, sl, by omega, by omega, rfl, by omega, keep fun hh => hc hh.2⟩
          simp [e1])
    (fun k' S L h0 h1 hI => by
      obtain ⟨Sn, sl, rfl, hSn, rfl, hlen, ha⟩ := hI
      rw [spec_l04Path_l1, hl, decide_eq_false (by omega), if_neg (by simp)]
      have : Sn = 2 ^ x.p.toNat := by omega
      subst this
      exact ⟨_, rfl, sl, rfl, by omega, ha⟩)
    k 0 [] (by omega) (by omega) ⟨0, [], rfl, by omega, rfl, by simp, fun S => by simp⟩
  exact ⟨sl, h1, h2, h3⟩

/-! ### The next point -/
omit hp in
theorem find_congr {f g : Int → Bool} : ∀ {l : List Int}, (∀ a ∈ l, f a = g a) → l.find? f = l.find? g
  | [], _ => rfl
  | a :: l, h => by
    rw [List.find?_cons, List.find?_cons, h a (List.mem_cons_self ..), find_congr fun b hb => h b (List.mem_cons_of_mem _ hb)]
omit hp in
theorem find_first {P : Int → Bool} {f n : Nat} (h : ∀ j, j < f → P (j : Int) = false) (hf : P (f : Int) = true) (hn : f < n) : (ir 0 n).find? P = some (f : Int) := by
  have : ∀ d j, j + d = f → (ir j n).find? P = some (f : Int) := by
    intro d
    induction d with
    | zero =>
      intro j hj
      have : j = f := by omega
      subst this
      rw [ir_next hn, List.find?_cons, hf]
    | succ d ih =>
      intro j hj
      rw [ir_next (by omega), List.find?_cons, h j (by omega)]
      exact ih (j + 1) (by omega)
  exact this f 0 (by omega)
omit hp in
def nxP (x : Col) (c : Int) (a : Nat) (sl : List Nat) (p : Int) : Bool := a.testBit p.toNat && sl.any fun S => en (aB x c) x.p.toNat S p.toNat

theorem next4 {T : List Int} (hl : T.length = 2 ^ x.p.toNat) (hT : ∀ t, t < 2 ^ x.p.toNat → T.getD t 0 = (enB (aB x c) x.p.toNat t : Int)) {a p : Nat} (ha : a < 2 ^ 63) (hpn : p < x.p.toNat) {sl : List Nat} (hsl : ∀ S ∈ sl, S < 2 ^ x.p.toNat) (hsz : sl.length ≤ 2048) :
    ∀ (j i k : Nat), sl.length = i + j → j + 1 < k → spec_l04Path_l4 T (a : Int) (sl.map fun s : Nat => (s : Int)) (p : Int) k (-1) (i : Int) = some (if (a.testBit p && (sl.drop i).any fun S => en (aB x c) x.p.toNat S p) = true then (p : Int) else -1) := by
  have hn : x.p.toNat ≤ 17 := by omega
  intro j
  induction j with
  | zero =>
    intro i k hi hk
    obtain ⟨k, rfl⟩ : ∃ q, k = q + 1 := ⟨k - 1, by omega⟩
    rw [spec_l04Path_l4, List.length_map, decide_eq_false (by omega), List.drop_eq_nil_of_le (by omega)]
    simp
  | succ j ih =>
    intro i k hi hk
    obtain ⟨k, rfl⟩ : ∃ q, k = q + 1 := ⟨k - 1, by omega⟩
    have hil : i < sl.length := by omega
    rw [spec_l04Path_l4, List.length_map, decide_eq_true (by omega), if_pos rfl, decide_eq_true (by decide), if_pos rfl, u64n (by omega), if_pos (by omega), bit1 ha (by omega)]
    cases hab : a.testBit p with
    | false => simp
    | true =>
      have hg : (sl.map fun s : Nat => (s : Int)).getD (i : Int).toNat 0 = (sl[i] : Int) := by
        rw [Int.toNat_natCast, List.getD_eq_getElem?_getD, List.getElem?_map, List.getElem?_eq_getElem hil]; rfl
      have hlt := hsl sl[i] (List.getElem_mem hil)
      simp only [Option.bind_some, if_true]
      rw [if_pos (by omega), hg, if_pos (by omega), Int.toNat_natCast, hT _ hlt, if_pos (by omega), bit1 (p63 hn (enB_lt _)) (by omega), enB_test, decide_eq_true hpn, Bool.true_and, List.drop_eq_getElem_cons hil, List.any_cons, w64_id (by omega)]
      cases he : en (aB x c) x.p.toNat sl[i] p with
      | false =>
        have := ih (i + 1) k (by omega) (by omega)
        rw [hab] at this
        simp only [Bool.false_eq_true, if_false, Option.bind_some, Bool.false_or]
        exact this
      | true =>
        obtain ⟨k, rfl⟩ : ∃ q, k = q + 1 := ⟨k - 1, by omega⟩
        simp only [if_true, Option.bind_some, Bool.true_or, Bool.true_and]
        rw [spec_l04Path_l4, decide_eq_false (show ¬ (p : Int) < 0 by omega)]
        by_cases hh : (i : Int) + 1 < ((sl.map fun s : Nat => (s : Int)).length : Int)
        · rw [decide_eq_true hh]; simp
        · rw [decide_eq_false hh]; simp

theorem next3 {T : List Int} (hl : T.length = 2 ^ x.p.toNat) (hT : ∀ t, t < 2 ^ x.p.toNat → T.getD t 0 = (enB (aB x c) x.p.toNat t : Int)) {a p k : Nat} (hk : 200000 ≤ k) (ha : a < 2 ^ 63) {sl : List Nat} (hsl : ∀ S ∈ sl, S < 2 ^ x.p.toNat) (hsz : sl.length ≤ 2048) (hpn : p < x.p.toNat) :
    ∀ (d j k' : Nat), x.p.toNat = j + d → d + 2 < k' → (ir j x.p.toNat).find? (nxP x c a sl) = some (p : Int) → spec_l04Path_l3 k x T (a : Int) (sl.map fun s : Nat => (s : Int)) k' (-1) (j : Int) = some (p : Int) := by
  intro d
  induction d with
  | zero =>
    intro j k' hj hk' hf
    rw [ir_end (by omega)] at hf; cases hf
  | succ d ih =>
    intro j k' hj hk' hf
    obtain ⟨k', rfl⟩ : ∃ q, k' = q + 1 := ⟨k' - 1, by omega⟩
    have hjn : j < x.p.toNat := by omega
    rw [ir_next hjn, List.find?_cons] at hf
    have e4 := next4 hp (c := c) hl hT ha hjn hsl hsz sl.length 0 k (by omega) (by omega)
    rw [List.drop_zero] at e4
    have e4' : spec_l04Path_l4 T (a : Int) (sl.map fun s : Nat => (s : Int)) (j : Int) k (-1) 0 = some (if (a.testBit j && sl.any fun S => en (aB x c) x.p.toNat S j) = true then (j : Int) else -1) := e4
    rw [spec_l04Path_l3, decide_eq_true (show (j : Int) < x.p by omega), if_pos rfl, decide_eq_true (by decide)]
    simp only [letO, if_true, Option.bind_some]
    rw [e4', Option.bind_some, w64_id (by omega)]
    have hnx : nxP x c a sl (j : Int) = (a.testBit j && sl.any fun S => en (aB x c) x.p.toNat S j) := by unfold nxP; rw [Int.toNat_natCast]
    rw [← hnx]
    cases hb : nxP x c a sl (j : Int) with
    | false =>
      rw [hb] at hf
      have := ih (j + 1) k' (by omega) (by omega) hf
      rw [if_neg (by simp)]
      exact this
    | true =>
      rw [hb] at hf
      have : (j : Int) = p := by simpa using hf
      rw [if_pos rfl, ← this]
      obtain ⟨k', rfl⟩ : ∃ q, k' = q + 1 := ⟨k' - 1, by omega⟩
      rw [spec_l04Path_l3, decide_eq_false (show ¬ (j : Int) < 0 by omega)]
      by_cases hh : (j : Int) + 1 < x.p
      · rw [decide_eq_true hh]; rfl
      · rw [decide_eq_false hh]; rfl

theorem left5 {T : List Int} (hl : T.length = 2 ^ x.p.toNat) (hT : ∀ t, t < 2 ^ x.p.toNat → T.getD t 0 = (enB (aB x c) x.p.toNat t : Int)) {p : Nat} (hpn : p < x.p.toNat) {sl : List Nat} (hsl : ∀ S ∈ sl, S < 2 ^ x.p.toNat) (hsz : sl.length ≤ 2048) :
    ∀ (j i k : Nat) (out : List Int), sl.length = i + j → j + 1 < k → out.length ≤ i → spec_l04Path_l5 T (sl.map fun s : Nat => (s : Int)) (p : Int) k (i : Int) out = some (out ++ (((sl.drop i).filter fun S => en (aB x c) x.p.toNat S p).map fun S => off S p).map fun s : Nat => (s : Int)) := by
  have hn : x.p.toNat ≤ 17 := by omega
  intro j
  induction j with
  | zero =>
    intro i k out hi hk ho
    obtain ⟨k, rfl⟩ : ∃ q, k = q + 1 := ⟨k - 1, by omega⟩
    rw [spec_l04Path_l5, List.length_map, decide_eq_false (by omega), List.drop_eq_nil_of_le (by omega)]
    simp
  | succ j ih =>
    intro i k out hi hk ho
    obtain ⟨k, rfl⟩ : ∃ q, k = q + 1 := ⟨k - 1, by omega⟩
    have hil : i < sl.length := by omega
    have hg : (sl.map fun s : Nat => (s : Int)).getD (i : Int).toNat 0 = (sl[i] : Int) := by
      rw [Int.toNat_natCast, List.getD_eq_getElem?_getD, List.getElem?_map, List.getElem?_eq_getElem hil]; rfl
    have hlt := hsl sl[i] (List.getElem_mem hil)
    have hw : w64 ((i : Int) + 1) = ((i + 1 : Nat) : Int) := by rw [w64_id (by omega)]; omega
    have hu : IntKind.u64.wrap (p : Int) = p := u64n (by omega)
    have hg1 : (0 : Int) ≤ (i : Int) ∧ (i : Int) < ((sl.map fun s : Nat => (s : Int)).length : Int) := by rw [List.length_map]; omega
    have hg2 : (0 : Int) ≤ (sl[i] : Int) ∧ (sl[i] : Int) < (T.length : Int) := by omega
    have hg3 : (0 : Int) ≤ (p : Int) := by omega
    have hg4 : out.length + ([((off sl[i] p : Nat) : Int)] : List Int).length ≤ 1099511627776 := by simp; omega
    rw [spec_l04Path_l5, decide_eq_true hg1.2, if_pos rfl, if_pos hg1, hg, if_pos hg2, hu, if_pos hg3, Int.toNat_natCast, hT _ hlt, bit1 (p63 hn (enB_lt _)) (by omega), enB_test, decide_eq_true hpn, Bool.true_and, List.drop_eq_getElem_cons hil, List.filter_cons, xor_off (p63 hn hlt) (by omega)]
    cases he : en (aB x c) x.p.toNat sl[i] p with
    | false =>
      have := ih (i + 1) k out (by omega) (by omega) (by omega)
      simp only [Bool.false_eq_true, if_false, Option.bind_some, hw]
      exact this
    | true =>
      have := ih (i + 1) k (out ++ [((off sl[i] p : Nat) : Int)]) (by omega) (by omega) (by simp; omega)
      simp only [if_true]
      rw [if_pos hg1, if_pos hg3, if_pos hg4]
      simp only [Option.bind_some, hw]
      rw [this]
      simp

/-- The sets through which the path can go on behind its last point. -/
def SetsOK (x : Col) (c : Int) (u last m : Nat) (sl : List Nat) : Prop := ∀ S, S ∈ sl ↔ S < 2 ^ x.p.toNat ∧ cnt x.p.toNat S = m ∧ (∀ j, S.testBit j = true → u.testBit j = false) ∧ en (aB x c) x.p.toNat (add S last) last = true

omit hp in
theorem sets_next {u last m p : Nat} {sl : List Nat} (hs : SetsOK x c u last (m + 1) sl) (hlb : u.testBit last = true) (hpn : p < x.p.toNat) (ha : aB x c last p = true) (hpu : u.testBit p = false) :
    SetsOK x c (add u p) p m ((sl.filter fun S => en (aB x c) x.p.toNat S p).map fun S => off S p) := by
  intro S'
  rw [List.mem_map]
  constructor
  · rintro ⟨S, hS, rfl⟩
    obtain ⟨h1, he⟩ := List.mem_filter.1 hS
    obtain ⟨hlt, hc, hd, _⟩ := (hs S).1 h1
    have hb := en_bit he
    have := cnt_off hb hpn
    refine ⟨Nat.lt_trans (off_self hb) hlt, by omega, fun j hj => ?_, by rw [add_off hb]; exact he⟩
    rw [off_test hb] at hj
    simp at hj
    rw [add_test, hd j hj.1]
    have : ¬ p = j := fun h => hj.2 h.symm
    simp [this]
  · rintro ⟨hlt, hc, hd, he⟩
    have hb : S'.testBit p = false := by
      cases hb : S'.testBit p with
      | false => rfl
      | true => have := hd p hb; rw [add_test] at this; simp at this
    refine ⟨add S' p, List.mem_filter.2 ⟨(hs _).2 ⟨add_lt hlt hpn, by rw [cnt_add hb hpn, hc], fun j hj => ?_, ?_⟩, he⟩, off_add hb⟩
    · rw [add_test] at hj
      by_cases e : p = j
      · subst e; exact hpu
      · simp [e] at hj
        have := hd j hj
        rw [add_test] at this
        simp at this
        exact this.1
    · have hne : ¬ p = last := fun e => by subst e; rw [hpu] at hlb; cases hlb
      have hl2 : (add S' p).testBit last = false := by
        cases hb2 : (add S' p).testBit last with
        | false => rfl
        | true =>
          rw [add_test] at hb2
          simp [hne] at hb2
          have := hd last hb2
          rw [add_test, hlb] at this
          simp at this
      rw [en_iff (by rw [add_test]; simp), off_add hl2]
      exact .inr ⟨p, hpn, ha, he⟩

omit hp in
theorem next_eq {u last m : Nat} {sl : List Nat} (hs : SetsOK x c u last (m + 1) sl) (hlb : u.testBit last = true) (hE : eX (aB x c) x.p.toNat u last = m + 1) : (ir 0 x.p.toNat).find? (nxP x c (nb x c last) sl) = (ir 0 x.p.toNat).find? (lpP (aB x c) x.p.toNat m u last) := by
  refine find_congr fun a ha => ?_
  rw [mem_ir] at ha
  obtain ⟨p, rfl⟩ : ∃ p : Nat, a = p := ⟨a.toNat, by omega⟩
  have hpn : p < x.p.toNat := by omega
  unfold nxP lpP
  rw [Int.toNat_natCast, nb_test, decide_eq_true hpn, Bool.true_and]
  cases haa : aB x c (last : Int) (p : Int) with
  | false => rfl
  | true =>
    rw [Bool.true_and, Bool.true_and, Bool.eq_iff_iff, List.any_eq_true, Bool.and_eq_true, decide_eq_true_iff]
    constructor
    · rintro ⟨S, hS, he⟩
      obtain ⟨hlt, hc, hd, _⟩ := (hs S).1 hS
      have hpu := hd p (en_bit he)
      have h1 := (en_eX (A := aB x c) m u p hpn hpu).1 ⟨S, hlt, hc, hd, he⟩
      have h2 := eX_ge (A := aB x c) hpn haa hpu
      exact ⟨by rw [hpu]; rfl, by omega⟩
    · rintro ⟨hpu, he⟩
      have hpu' : u.testBit p = false := by simpa using hpu
      obtain ⟨S, hlt, hc, hd, he2⟩ := (en_eX (A := aB x c) m u p hpn hpu').2 (by omega)
      refine ⟨S, (hs S).2 ⟨hlt, hc, hd, ?_⟩, he2⟩
      have hl2 : S.testBit last = false := by
        cases hb2 : S.testBit last with
        | false => rfl
        | true => have := hd last hb2; rw [hlb] at this; cases this
      rw [en_iff (by rw [add_test]; simp), off_add hl2]
      exact .inr ⟨p, hpn, haa, he2⟩

theorem spath_go {T : List Int} (hl : T.length = 2 ^ x.p.toNat) (hT : ∀ t, t < 2 ^ x.p.toNat → T.getD t 0 = (enB (aB x c) x.p.toNat t : Int)) {k : Nat} (hk : 200000 ≤ k) (b : Nat) (hb : b ≤ 50) :
    ∀ (m k' u last : Nat) (sl : List Nat) (out : List Int), m < k' → out.length + m = b → SetsOK x c u last m sl → sl.length ≤ 2048 → u.testBit last = true → last < x.p.toNat → eX (aB x c) x.p.toNat u last = m →
      spec_l04Path_l2 k x (rws x c x.p.toNat) T (b : Int) k' ((nb x c last : Nat) : Int) (sl.map fun s : Nat => (s : Int)) out = some (out ++ lpN (aB x c) x.p.toNat m u last) := by
  have hrl : (rws x c x.p.toNat).length = x.p.toNat := rws_length ..
  intro m
  induction m with
  | zero =>
    intro k' u last sl out hk' ho hs hsz hlb hln hE
    obtain ⟨k', rfl⟩ : ∃ q, k' = q + 1 := ⟨k' - 1, by omega⟩
    rw [spec_l04Path_l2, decide_eq_false (by omega), if_neg (by simp), lpN, List.append_nil]
  | succ m ih =>
    intro k' u last sl out hk' ho hs hsz hlb hln hE
    obtain ⟨k', rfl⟩ : ∃ q, k' = q + 1 := ⟨k' - 1, by omega⟩
    obtain ⟨p, hpn, hf, ha, hpu, hE'⟩ := lp_find hE
    have hsl : ∀ S ∈ sl, S < 2 ^ x.p.toNat := fun S hS => ((hs S).1 hS).1
    have e3 := next3 hp (c := c) hl hT hk (nb_lt x (by omega) c last) hsl hsz hpn x.p.toNat 0 k (by omega) (by omega) (by rw [next_eq hs hlb hE]; exact hf)
    have e3' : spec_l04Path_l3 k x T ((nb x c last : Nat) : Int) (sl.map fun s : Nat => (s : Int)) k (-1) 0 = some (p : Int) := e3
    have e5 := left5 hp (c := c) hl hT hpn hsl hsz sl.length 0 k [] (by omega) (by omega) (by simp)
    have e5' : spec_l04Path_l5 T (sl.map fun s : Nat => (s : Int)) (p : Int) k 0 [] = some (((sl.filter fun S => en (aB x c) x.p.toNat S p).map fun S => off S p).map fun s : Nat => (s : Int)) := e5
    rw [spec_l04Path_l2, decide_eq_true (by omega), if_pos rfl, e3', Option.bind_some, e5', Option.bind_some, if_pos (by simp; omega), if_pos (by omega), Int.toNat_natCast, rws_get x c _ _ hpn]
    simp only [Option.bind_some]
    rw [ih k' (add u p) p _ _ (by omega) (by simp; omega) (sets_next hs hlb hpn ha hpu) (by rw [List.length_map]; exact Nat.le_trans (List.length_filter_le _ _) hsz) (by rw [add_test]; simp) hpn hE']
    rw [lpN, hf]
    simp

theorem spath_val {k : Nat} (hk : 200000 ≤ k) : spec_l04Path k x c = some (lp (aB x c) x.p.toNat) := by
  have hn : x.p.toNat ≤ 17 := by omega
  have hrl : (rws x c x.p.toNat).length = x.p.toNat := rws_length ..
  have hpos : 0 < 2 ^ x.p.toNat := Nat.pow_pos (by decide)
  have h17 : 2 ^ x.p.toNat ≤ 2048 := (Nat.pow_le_pow_right (by decide) (show x.p.toNat ≤ 11 by omega) : 2 ^ x.p.toNat ≤ 2 ^ 11)
  unfold spec_l04Path
  rw [rows_val (by omega) x (by omega) c, Option.bind_some]
  obtain ⟨T, e1, hl, hT⟩ := ends_val hp (c := c) hk
  rw [e1, Option.bind_some]
  obtain ⟨b, e2, hb1, hb2⟩ := best_val hp (c := c) hk hl hT
  rw [e2, Option.bind_some]
  obtain ⟨f, m, e, hf, hm, hmax, hmin⟩ := lpF_spec (A := aB x c) (n := x.p.toNat) x.p.toNat (by omega)
  have hb := best_eq e hf hm hmax hb1 hb2
  have hm11 : m ≤ 11 := by have := eX_le (A := aB x c) (n := x.p.toNat) _ (add 0 f) f rfl; omega
  obtain ⟨sl, e3, hsz, hsl⟩ := sets_val hp (c := c) hk hl hT b
  rw [e3, Option.bind_some, hl]
  have hw : w64 (((2 ^ x.p.toNat : Nat) : Int) - 1) = ((2 ^ x.p.toNat - 1 : Nat) : Int) := by rw [w64_id (by omega)]; omega
  rw [hw]
  -- the first point
  have hfind : (ir 0 x.p.toNat).find? (nxP x c (2 ^ x.p.toNat - 1) sl) = some (f : Int) := by
    have hP : ∀ p : Nat, p < x.p.toNat → (nxP x c (2 ^ x.p.toNat - 1) sl (p : Int) = true ↔ m ≤ eX (aB x c) x.p.toNat (add 0 p) p) := by
      intro p hpn
      unfold nxP
      rw [Int.toNat_natCast, Nat.testBit_two_pow_sub_one, decide_eq_true hpn, Bool.true_and, List.any_eq_true]
      rw [← en_eX (A := aB x c) m 0 p hpn (by simp)]
      constructor
      · rintro ⟨S, hS, he⟩
        obtain ⟨h1, _, h3⟩ := (hsl S).1 hS
        exact ⟨S, h1, by omega, fun j _ => by simp, he⟩
      · rintro ⟨S, h1, h2, _, he⟩
        exact ⟨S, (hsl S).2 ⟨h1, ⟨p, hpn, he⟩, by omega⟩, he⟩
    exact find_first (fun j hj => Bool.eq_false_iff.2 fun h => by
      have h1 := (hP j (by omega)).1 h
      have h2 := hmin j hj
      omega) ((hP f hf).2 (by omega)) hf
  have hsl1 : ∀ S ∈ sl, S < 2 ^ x.p.toNat := fun S hS => ((hsl S).1 hS).1
  obtain ⟨k', rfl⟩ : ∃ q, k = q + 1 := ⟨k - 1, by omega⟩
  have e4 := next3 hp (c := c) (k := k' + 1) hl hT hk (p63 hn (Nat.sub_lt hpos (by decide) : 2 ^ x.p.toNat - 1 < 2 ^ x.p.toNat)) hsl1 hsz hf x.p.toNat 0 (k' + 1) (by omega) (by omega) hfind
  have e4' : spec_l04Path_l3 (k' + 1) x T ((2 ^ x.p.toNat - 1 : Nat) : Int) (sl.map fun s : Nat => (s : Int)) (k' + 1) (-1) 0 = some (f : Int) := e4
  have e5 := left5 hp (c := c) hl hT hf hsl1 hsz sl.length 0 (k' + 1) [] (by omega) (by omega) (by simp)
  have e5' : spec_l04Path_l5 T (sl.map fun s : Nat => (s : Int)) (f : Int) (k' + 1) 0 [] = some (((sl.filter fun S => en (aB x c) x.p.toNat S f).map fun S => off S f).map fun s : Nat => (s : Int)) := e5
  have hs0 : SetsOK x c (add 0 f) f m ((sl.filter fun S => en (aB x c) x.p.toNat S f).map fun S => off S f) := by
    intro S'
    rw [List.mem_map]
    constructor
    · rintro ⟨S, hS, rfl⟩
      obtain ⟨h1, he⟩ := List.mem_filter.1 hS
      obtain ⟨hlt, _, hc⟩ := (hsl S).1 h1
      have hbt := en_bit he
      have := cnt_off hbt hf
      refine ⟨Nat.lt_trans (off_self hbt) hlt, by omega, fun j hj => ?_, by rw [add_off hbt]; exact he⟩
      rw [off_test hbt] at hj
      simp at hj
      rw [add_test]
      have : ¬ f = j := fun h => hj.2 h.symm
      simp [this]
    · rintro ⟨hlt, hc, hd, he⟩
      have hbt : S'.testBit f = false := by
        cases hbt : S'.testBit f with
        | false => rfl
        | true => have := hd f hbt; rw [add_test] at this; simp at this
      exact ⟨add S' f, List.mem_filter.2 ⟨(hsl _).2 ⟨add_lt hlt hf, ⟨f, hf, he⟩, by rw [cnt_add hbt hf]; omega⟩, he⟩, off_add hbt⟩
  have hgo := spath_go hp (c := c) hl hT hk b (by omega) m k' (add 0 f) f _ [(f : Int)] (by omega) (by simp; omega) hs0 (by rw [List.length_map]; exact Nat.le_trans (List.length_filter_le _ _) hsz) (by rw [add_test]; simp) hf hm.symm
  rw [spec_l04Path_l2, decide_eq_true (by simp; omega), if_pos rfl, e4', Option.bind_some, e5', Option.bind_some, if_pos (by simp), if_pos (by omega), Int.toNat_natCast, rws_get x c _ _ hf]
  simp only [Option.bind_some, List.nil_append]
  rw [hgo]
  unfold lp
  rw [e]
  simp
end
end Go.Proofs.Ytghhnpdhehjlaaa
