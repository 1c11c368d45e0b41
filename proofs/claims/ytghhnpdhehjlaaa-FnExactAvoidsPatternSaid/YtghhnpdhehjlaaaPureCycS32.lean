/- Plain laws: the lengths of cycles, as the reference finds them. No conditions beyond those that each lemma states. -/
import Derived.Test.YtghhnpdhehjlaaaPureMatS32
import Derived.Test.YtghhnpdhehjlaaaPurePathI32
import Derived.Test.YtghhnpdhehjlaaaPureCycI32
set_option linter.unusedVariables false
set_option linter.unusedSimpArgs false
namespace Go.Proofs.Ytghhnpdhehjlaaa
open Go Go.RowKit Ab

section
variable {A : Int → Int → Bool} {n f : Nat}
theorem la_ge {S p : Nat} (h : la A n f S p = true) : f ≤ p := by
  rcases (la_iff (la_bit h)).1 h with ⟨rfl, _⟩ | ⟨h, _⟩ <;> omega
theorem la_first : ∀ {S p : Nat}, la A n f S p = true → S.testBit f = true := by
  intro S
  induction S using Nat.strongRecOn with
  | _ S ih =>
  intro p h
  have hb := la_bit h
  rcases (la_iff hb).1 h with ⟨rfl, _⟩ | ⟨hfp, q, hq, hl, _⟩
  · exact hb
  · have := ih _ (off_self hb) hl
    rw [off_test hb] at this
    simp at this
    exact this.1
theorem la_two {S p : Nat} (h : la A n f S p = true) : 2 ^ f ≤ S := Nat.ge_two_pow_of_testBit (la_first h)

/-- What the table holds in the midst of the rounds. -/
def CV (A : Int → Int → Bool) (n f S i j t q : Nat) : Prop := (la A n f t q = true ∧ (q = f ∨ off t q < S)) ∨ (f < q ∧ q < n ∧ t.testBit q = true ∧ off t q = S ∧ ((∃ p, p < i ∧ la A n f S p = true ∧ A p q = true) ∨ (q < j ∧ la A n f S i = true ∧ A i q = true)))
theorem CV_self {S i j p : Nat} : CV A n f S i j S p ↔ la A n f S p = true := by
  constructor
  · rintro (⟨h, _⟩ | ⟨_, _, hb, e, _⟩)
    · exact h
    · have := off_self hb; omega
  · intro h
    exact .inl ⟨h, .inr (off_self (la_bit h))⟩
theorem CV_row {S i t q : Nat} (hl : la A n f S i = true) : CV A n f S i n t q ↔ CV A n f S (i + 1) (f + 1) t q := by
  constructor
  · rintro (h | ⟨h1, h2, h3, h4, ⟨p, hp, h5⟩ | ⟨h5, h6⟩⟩)
    · exact .inl h
    · exact .inr ⟨h1, h2, h3, h4, .inl ⟨p, by omega, h5⟩⟩
    · exact .inr ⟨h1, h2, h3, h4, .inl ⟨i, by omega, h6⟩⟩
  · rintro (h | ⟨h1, h2, h3, h4, ⟨p, hp, h5⟩ | ⟨h5, h6⟩⟩)
    · exact .inl h
    · by_cases e : p = i
      · subst e; exact .inr ⟨h1, h2, h3, h4, .inr ⟨h2, h5⟩⟩
      · exact .inr ⟨h1, h2, h3, h4, .inl ⟨p, by omega, h5⟩⟩
    · omega
theorem CV_skip {S i t q : Nat} (hl : la A n f S i = false) : CV A n f S i (f + 1) t q ↔ CV A n f S (i + 1) (f + 1) t q := by
  constructor
  · rintro (h | ⟨h1, h2, h3, h4, ⟨p, hp, h5⟩ | ⟨h5, h6, h7⟩⟩)
    · exact .inl h
    · exact .inr ⟨h1, h2, h3, h4, .inl ⟨p, by omega, h5⟩⟩
    · omega
  · rintro (h | ⟨h1, h2, h3, h4, ⟨p, hp, h5⟩ | ⟨h5, h6⟩⟩)
    · exact .inl h
    · by_cases e : p = i
      · subst e; rw [hl] at h5; cases h5.1
      · exact .inr ⟨h1, h2, h3, h4, .inl ⟨p, by omega, h5⟩⟩
    · omega
theorem CV_next {S t q : Nat} : CV A n f S n (f + 1) t q ∧ q < n ↔ CV A n f (S + 1) f (f + 1) t q ∧ q < n := by
  constructor
  · rintro ⟨h, hq⟩
    refine ⟨?_, hq⟩
    rcases h with ⟨h1, h2⟩ | ⟨h1, h2, h3, h4, ⟨p, hp, h5, h6⟩ | ⟨h5, _⟩⟩
    · exact .inl ⟨h1, h2.imp id fun h => by omega⟩
    · refine .inl ⟨(la_iff h3).2 (.inr ⟨h1, p, hp, by rw [h4]; exact h5, h6⟩), .inr (by omega)⟩
    · omega
  · rintro ⟨h, hq⟩
    refine ⟨?_, hq⟩
    rcases h with ⟨h1, h2⟩ | ⟨h1, h2, h3, h4, ⟨p, hp, h5, h6⟩ | ⟨h5, _⟩⟩
    · rcases h2 with h2 | h2
      · exact .inl ⟨h1, .inl h2⟩
      · by_cases e : off t q = S
        · have hb := la_bit h1
          rcases (la_iff hb).1 h1 with ⟨rfl, _⟩ | ⟨hfp, p, hp, hl, ha⟩
          · exact .inl ⟨h1, .inl rfl⟩
          · rw [e] at hl
            exact .inr ⟨hfp, hq, hb, e, .inl ⟨p, hp, hl, ha⟩⟩
        · exact .inl ⟨h1, .inr (by omega)⟩
    · have := la_ge h5; omega
    · omega
theorem CV_none {S i t q : Nat} (h : ∀ p, la A n f S p = false) : CV A n f S i (f + 1) t q ↔ CV A n f S n (f + 1) t q := by
  constructor
  · rintro (h1 | ⟨_, _, _, _, ⟨p, hp, h5, _⟩ | ⟨_, h5, _⟩⟩)
    · exact .inl h1
    · rw [h] at h5; cases h5
    · rw [h] at h5; cases h5
  · rintro (h1 | ⟨_, _, _, _, ⟨p, hp, h5, _⟩ | ⟨_, h5, _⟩⟩)
    · exact .inl h1
    · rw [h] at h5; cases h5
    · rw [h] at h5; cases h5
theorem CV_start {t q : Nat} : CV A n f (2 ^ f) f (f + 1) t q ↔ t = 2 ^ f ∧ q = f := by
  constructor
  · rintro (⟨h1, h2⟩ | ⟨h1, h2, h3, h4, ⟨p, hp, h5, _⟩ | ⟨h5, _⟩⟩)
    · have hb := la_bit h1
      rcases (la_iff hb).1 h1 with ⟨rfl, e⟩ | ⟨hfp, p, hp, hl, ha⟩
      · exact ⟨e, rfl⟩
      · have := la_two hl
        rcases h2 with h2 | h2 <;> omega
    · have := la_ge h5; omega
    · omega
  · rintro ⟨rfl, rfl⟩
    have hb : (2 ^ q).testBit q = true := by rw [Nat.testBit_two_pow]; simp
    exact .inl ⟨(la_iff hb).2 (.inl ⟨rfl, rfl⟩), .inl rfl⟩

/-- A table of rows of bits. -/
def TR (n : Nat) (P : Nat → Nat → Prop) (T : List Int) : Prop := T.length = 2 ^ n ∧ ∀ t, t < 2 ^ n → ∃ w : Nat, T.getD t 0 = (w : Int) ∧ w < 2 ^ n ∧ ∀ q, w.testBit q = true ↔ P t q ∧ q < n
theorem TR.congr {P Q : Nat → Nat → Prop} {T : List Int} (h : TR n P T) (hpq : ∀ t q, P t q ∧ q < n ↔ Q t q ∧ q < n) : TR n Q T := by
  refine ⟨h.1, fun t ht => ?_⟩
  obtain ⟨w, h1, h2, h3⟩ := h.2 t ht
  exact ⟨w, h1, h2, fun q => by rw [h3 q]; exact hpq t q⟩

/-! ### The lengths that are met -/
def CQ1 (A : Int → Int → Bool) (n f j : Nat) : Prop := ∃ S p, S < 2 ^ n ∧ p < n ∧ la A n f S p = true ∧ cnt n S = j ∧ A p f = true
def CQ (A : Int → Int → Bool) (n f S i j : Nat) : Prop := 2 < j ∧ ((∃ f', f' < f ∧ CQ1 A n f' j) ∨ (∃ S' p, S' < S ∧ S' < 2 ^ n ∧ p < n ∧ la A n f S' p = true ∧ cnt n S' = j ∧ A p f = true) ∨ (∃ p, p < i ∧ p < n ∧ la A n f S p = true ∧ cnt n S = j ∧ A p f = true))
def MR (n : Nat) (Q : Nat → Prop) (L : List Bool) : Prop := L.length = n + 1 ∧ ∀ j, j ≤ n → (L.getD j false = true ↔ Q j)
theorem MR.congr {P Q : Nat → Prop} {L : List Bool} (h : MR n P L) (hpq : ∀ j, P j ↔ Q j) : MR n Q L := ⟨h.1, fun j hj => (h.2 j hj).trans (hpq j)⟩
theorem CQ_no {S i j : Nat} (h : ¬ (i < n ∧ la A n f S i = true ∧ cnt n S = j ∧ A i f = true ∧ 2 < j)) : CQ A n f S i j ↔ CQ A n f S (i + 1) j := by
  constructor
  · rintro ⟨h2, h1 | h1 | ⟨p, hp, h3⟩⟩
    · exact ⟨h2, .inl h1⟩
    · exact ⟨h2, .inr (.inl h1)⟩
    · exact ⟨h2, .inr (.inr ⟨p, by omega, h3⟩)⟩
  · rintro ⟨h2, h1 | h1 | ⟨p, hp, h3⟩⟩
    · exact ⟨h2, .inl h1⟩
    · exact ⟨h2, .inr (.inl h1)⟩
    · by_cases e : p = i
      · subst e; exact absurd ⟨h3.1, h3.2.1, h3.2.2.1, h3.2.2.2, h2⟩ h
      · exact ⟨h2, .inr (.inr ⟨p, by omega, h3⟩)⟩
theorem CQ_next {S j : Nat} (hS : S < 2 ^ n) : CQ A n f S n j ↔ CQ A n f (S + 1) f j := by
  constructor
  · rintro ⟨h2, h1 | ⟨S', p, h3, h4⟩ | ⟨p, hp, h3⟩⟩
    · exact ⟨h2, .inl h1⟩
    · exact ⟨h2, .inr (.inl ⟨S', p, by omega, h4⟩)⟩
    · exact ⟨h2, .inr (.inl ⟨S, p, by omega, hS, h3⟩)⟩
  · rintro ⟨h2, h1 | ⟨S', p, h3, h4⟩ | ⟨p, hp, h3⟩⟩
    · exact ⟨h2, .inl h1⟩
    · by_cases e : S' = S
      · subst e; exact ⟨h2, .inr (.inr ⟨p, h4.2.1, h4.2⟩)⟩
      · exact ⟨h2, .inr (.inl ⟨S', p, by omega, h4⟩)⟩
    · have := la_ge h3.2.1; omega
theorem CQ_none {S i j : Nat} (h : ∀ p, la A n f S p = false) : CQ A n f S i j ↔ CQ A n f S n j := by
  constructor
  · rintro ⟨h2, h1 | h1 | ⟨p, hp, _, h3, _⟩⟩
    · exact ⟨h2, .inl h1⟩
    · exact ⟨h2, .inr (.inl h1)⟩
    · rw [h] at h3; cases h3
  · rintro ⟨h2, h1 | h1 | ⟨p, hp, _, h3, _⟩⟩
    · exact ⟨h2, .inl h1⟩
    · exact ⟨h2, .inr (.inl h1)⟩
    · rw [h] at h3; cases h3
theorem CQ_start {j : Nat} : CQ A n f 0 0 j ↔ CQ A n f (2 ^ f) f j := by
  constructor
  · rintro ⟨h2, h1 | ⟨S', p, h3, _⟩ | ⟨p, hp, _⟩⟩
    · exact ⟨h2, .inl h1⟩
    · omega
    · omega
  · rintro ⟨h2, h1 | ⟨S', p, h3, _, _, h4, _⟩ | ⟨p, hp, _, h3, _⟩⟩
    · exact ⟨h2, .inl h1⟩
    · have := la_two h4; omega
    · have := la_ge h3; omega
theorem CQ_end {j : Nat} : CQ A n f (2 ^ n) f j ↔ CQ A n (f + 1) 0 0 j := by
  constructor
  · rintro ⟨h2, ⟨f', h1, h3⟩ | ⟨S', p, h3, h4⟩ | ⟨p, hp, _, h3, _⟩⟩
    · exact ⟨h2, .inl ⟨f', by omega, h3⟩⟩
    · exact ⟨h2, .inl ⟨f, by omega, S', p, h4⟩⟩
    · have := la_ge h3; omega
  · rintro ⟨h2, ⟨f', h1, h3⟩ | ⟨S', p, h3, _⟩ | ⟨p, hp, _⟩⟩
    · by_cases e : f' = f
      · subst e
        obtain ⟨S', p, h4⟩ := h3
        exact ⟨h2, .inr (.inl ⟨S', p, h4.1, h4⟩)⟩
      · exact ⟨h2, .inl ⟨f', by omega, h3⟩⟩
    · omega
    · omega
end

section
variable {x : Col} {c : Int} (hp : 1 ≤ x.p ∧ x.p ≤ 11)
include hp

theorem len_in {f S i k : Nat} {T : List Int} (met : List Bool) (hk : 200 ≤ k) (hf : f < x.p.toNat) (hS : S < 2 ^ x.p.toNat) (hi : i < x.p.toNat) (hl : la (aB x c) x.p.toNat f S i = true) (hT : TR x.p.toNat (CV (aB x c) x.p.toNat f S i (f + 1)) T) :
    ∃ T', spec_l04Lengths_l3 x (rws x c x.p.toNat) (S : Int) (i : Int) met k ((f + 1 : Nat) : Int) T = some (met, T') ∧ TR x.p.toNat (CV (aB x c) x.p.toNat f S (i + 1) (f + 1)) T' := by
  have hn : x.p.toNat ≤ 17 := by omega
  have hS63 := p63 hn hS
  have hrl : (rws x c x.p.toNat).length = x.p.toNat := rws_length ..
  obtain ⟨r, h1, T', rfl, h2⟩ := loopI (fun k' j (T : List Int) => spec_l04Lengths_l3 x (rws x c x.p.toNat) (S : Int) (i : Int) met k' j T) x.p ((f + 1 : Nat) : Int)
    (fun j T => ∃ jn : Nat, j = jn ∧ jn ≤ x.p.toNat ∧ TR x.p.toNat (CV (aB x c) x.p.toNat f S i jn) T)
    (fun r => ∃ T', r = (met, T') ∧ TR x.p.toNat (CV (aB x c) x.p.toNat f S (i + 1) (f + 1)) T')
    (fun k' j T h0 h1 hI => by
      obtain ⟨jn, rfl, hj, hT⟩ := hI
      left
      have hjn : jn < x.p.toNat := by omega
      have hfj : f < jn := by omega
      have hwj : w64 ((jn : Int) + 1) = ((jn : Int) + 1) := w64_id (by omega)
      have hu : IntKind.u64.wrap (jn : Int) = jn := u64n (by omega)
      have hval : (if 0 ≤ (i : Int) ∧ (i : Int) < ((rws x c x.p.toNat).length : Int) then (if 0 ≤ IntKind.u64.wrap (jn : Int) then (if decide (bAnd .i64 (bShr .i64 ((rws x c x.p.toNat).getD (i : Int).toNat 0) (IntKind.u64.wrap (jn : Int))) 1 = 1) then (if 0 ≤ IntKind.u64.wrap (jn : Int) then some (decide (bAnd .i64 (bShr .i64 (S : Int) (IntKind.u64.wrap (jn : Int))) 1 = 0)) else none) else some false) else none) else none : Option Bool) = some (aB x c (i : Int) (jn : Int) && !S.testBit jn) := by
        rw [hu, if_pos (by omega), if_pos (by omega), Int.toNat_natCast, rbit (by omega) hi hjn, bit0 hS63 (by omega)]
        cases aB x c (i : Int) (jn : Int) with
        | false => rfl
        | true => rw [if_pos rfl, if_pos (by omega)]; rfl
      rw [spec_l04Lengths_l3, decide_eq_true (show (jn : Int) < x.p from h1), if_pos rfl, hval, Option.bind_some, hu]
      have hsame : ¬ (aB x c (i : Int) (jn : Int) = true ∧ S.testBit jn = false) → TR x.p.toNat (CV (aB x c) x.p.toNat f S i (jn + 1)) T := fun hno => hT.congr fun t q => by
        refine and_congr_left fun _ => or_congr Iff.rfl ?_
        constructor
        · rintro ⟨a1, a2, a3, a4, a5 | ⟨a5, a6⟩⟩
          · exact ⟨a1, a2, a3, a4, .inl a5⟩
          · exact ⟨a1, a2, a3, a4, .inr ⟨by omega, a6⟩⟩
        · rintro ⟨a1, a2, a3, a4, a5 | ⟨a5, a6, a7⟩⟩
          · exact ⟨a1, a2, a3, a4, .inl a5⟩
          · by_cases e : q = jn
            · subst e
              refine absurd ⟨a7, ?_⟩ hno
              rw [← a4, off_test a3]; simp
            · exact ⟨a1, a2, a3, a4, .inr ⟨by omega, a6, a7⟩⟩
      cases ha : aB x c (i : Int) (jn : Int) with
      | false =>
        refine ⟨T, ?_, jn + 1, by omega, by omega, hsame fun h => by rw [ha] at h; cases h.1⟩
        simp [hwj]
      | true =>
        cases hb : S.testBit jn with
        | true =>
          refine ⟨T, ?_, jn + 1, by omega, by omega, hsame fun h => by rw [hb] at h; cases h.2⟩
          simp [hwj]
        | false =>
          have hlt : add S jn < 2 ^ x.p.toNat := add_lt hS hjn
          obtain ⟨w, hw1, hw2, hw3⟩ := hT.2 _ hlt
          have hTl := hT.1
          rw [Bool.not_false, Bool.and_self, if_pos rfl, if_pos (by omega), or_add hn hS hjn, if_pos (by omega), if_pos (by omega), if_pos (by omega), Int.toNat_natCast, hw1, or_add hn hw2 hjn, Option.bind_some, hwj]
          refine ⟨T.set (add S jn) ((add w jn : Nat) : Int), rfl, jn + 1, by omega, by omega, by rw [List.length_set]; exact hTl, fun t ht => ?_⟩
          by_cases e : add S jn = t
          · subst e
            refine ⟨add w jn, by rw [List.getD_eq_getElem?_getD, List.getElem?_set_self (by omega)]; rfl, add_lt hw2 hjn, fun q => ?_⟩
            rw [add_test, Bool.or_eq_true, hw3 q, decide_eq_true_iff]
            constructor
            · rintro (⟨h, hq⟩ | rfl)
              · refine ⟨?_, hq⟩
                rcases h with h | ⟨a1, a2, a3, a4, a5 | ⟨a5, a6⟩⟩
                · exact .inl h
                · exact .inr ⟨a1, a2, a3, a4, .inl a5⟩
                · exact .inr ⟨a1, a2, a3, a4, .inr ⟨by omega, a6⟩⟩
              · exact ⟨.inr ⟨hfj, hjn, by rw [add_test]; simp, off_add hb, .inr ⟨by omega, hl, ha⟩⟩, hjn⟩
            · rintro ⟨h, hq⟩
              rcases h with h | ⟨a1, a2, a3, a4, a5 | ⟨a5, a6, a7⟩⟩
              · exact .inl ⟨.inl h, hq⟩
              · exact .inl ⟨.inr ⟨a1, a2, a3, a4, .inl a5⟩, hq⟩
              · by_cases e : q = jn
                · exact .inr e.symm
                · exact .inl ⟨.inr ⟨a1, a2, a3, a4, .inr ⟨by omega, a6, a7⟩⟩, hq⟩
          · obtain ⟨w', hw1', hw2', hw3'⟩ := hT.2 t ht
            refine ⟨w', by rw [List.getD_eq_getElem?_getD, List.getElem?_set_ne e, ← List.getD_eq_getElem?_getD]; exact hw1', hw2', fun q => ?_⟩
            rw [hw3' q]
            refine and_congr_left fun _ => or_congr Iff.rfl ?_
            constructor
            · rintro ⟨a1, a2, a3, a4, a5 | ⟨a5, a6⟩⟩
              · exact ⟨a1, a2, a3, a4, .inl a5⟩
              · exact ⟨a1, a2, a3, a4, .inr ⟨by omega, a6⟩⟩
            · rintro ⟨a1, a2, a3, a4, a5 | ⟨a5, a6, a7⟩⟩
              · exact ⟨a1, a2, a3, a4, .inl a5⟩
              · by_cases e2 : q = jn
                · subst e2
                  exact absurd (by rw [← a4, add_off a3]) e
                · exact ⟨a1, a2, a3, a4, .inr ⟨by omega, a6, a7⟩⟩)
    (fun k' j T h0 h1 hI => by
      obtain ⟨jn, rfl, hj, hT⟩ := hI
      have : jn = x.p.toNat := by omega
      subst this
      rw [spec_l04Lengths_l3, decide_eq_false (by omega), if_neg (by simp)]
      exact ⟨_, rfl, T, rfl, hT.congr fun t q => and_congr_left fun _ => CV_row hl⟩)
    k ((f + 1 : Nat) : Int) T (by omega) (by omega) ⟨f + 1, rfl, by omega, hT⟩
  exact ⟨T', h1, h2⟩

theorem len_mid {f S k : Nat} {T : List Int} {met : List Bool} (hk : 200 ≤ k) (hf : f < x.p.toNat) (hS : S < 2 ^ x.p.toNat) (hT : TR x.p.toNat (CV (aB x c) x.p.toNat f S f (f + 1)) T) (hM : MR x.p.toNat (CQ (aB x c) x.p.toNat f S f) met) :
    ∃ met' T', spec_l04Lengths_l2 k x (rws x c x.p.toNat) (f : Int) (S : Int) k (f : Int) met T = some (met', T') ∧ TR x.p.toNat (CV (aB x c) x.p.toNat f S x.p.toNat (f + 1)) T' ∧ MR x.p.toNat (CQ (aB x c) x.p.toNat f S x.p.toNat) met' := by
  have hn : x.p.toNat ≤ 17 := by omega
  have hS63 := p63 hn hS
  have hrl : (rws x c x.p.toNat).length = x.p.toNat := rws_length ..
  obtain ⟨r, h1, met', T', rfl, h2, h3⟩ := loopI (fun k' i (σ : List Bool × List Int) => spec_l04Lengths_l2 k x (rws x c x.p.toNat) (f : Int) (S : Int) k' i σ.1 σ.2) x.p (f : Int)
    (fun i σ => ∃ im : Nat, i = im ∧ im ≤ x.p.toNat ∧ TR x.p.toNat (CV (aB x c) x.p.toNat f S im (f + 1)) σ.2 ∧ MR x.p.toNat (CQ (aB x c) x.p.toNat f S im) σ.1)
    (fun r => ∃ met' T', r = (met', T') ∧ TR x.p.toNat (CV (aB x c) x.p.toNat f S x.p.toNat (f + 1)) T' ∧ MR x.p.toNat (CQ (aB x c) x.p.toNat f S x.p.toNat) met')
    (fun k' i σ h0 h1 hI => by
      obtain ⟨im, rfl, him, hT, hM⟩ := hI
      left
      have hi : im < x.p.toNat := by omega
      have hwi : w64 ((im : Int) + 1) = ((im : Int) + 1) := w64_id (by omega)
      have hwf : w64 ((f : Int) + 1) = ((f + 1 : Nat) : Int) := by rw [w64_id (by omega)]; omega
      have hu : IntKind.u64.wrap (im : Int) = im := u64n (by omega)
      have huf : IntKind.u64.wrap (f : Int) = f := u64n (by omega)
      obtain ⟨w, hw1, hw2, hw3⟩ := hT.2 S hS
      have hTl := hT.1
      have hbit : w.testBit im = la (aB x c) x.p.toNat f S im := by
        rw [Bool.eq_iff_iff, hw3 im, CV_self]
        exact ⟨fun h => h.1, fun h => ⟨h, hi⟩⟩
      rw [spec_l04Lengths_l2, decide_eq_true (show (im : Int) < x.p from h1), if_pos rfl, if_pos (by omega), hu, if_pos (by omega), Int.toNat_natCast, hw1, bit0 (p63 hn hw2) (by omega), hbit]
      cases hl : la (aB x c) x.p.toNat f S im with
      | false =>
        refine ⟨(σ.1, σ.2), ?_, im + 1, by omega, by omega, hT.congr fun t q => and_congr_left fun _ => CV_skip hl, hM.congr fun j => CQ_no fun h => by rw [hl] at h; cases h.2.1⟩
        simp [hwi]
      | true =>
        have hon := ones_val (k := k) (n := x.p.toNat) (by omega) (by omega) hS
        have hsz : (mem S 0 x.p.toNat).length = cnt x.p.toNat S := rfl
        rw [hsz] at hon
        have hcl := cnt_le x.p.toNat S
        rw [Bool.not_true, if_neg (by simp), hon, Option.bind_some]
        have hval : (if decide (2 < (cnt x.p.toNat S : Int)) then (if 0 ≤ (im : Int) ∧ (im : Int) < ((rws x c x.p.toNat).length : Int) then (if 0 ≤ IntKind.u64.wrap (f : Int) then some (decide (bAnd .i64 (bShr .i64 ((rws x c x.p.toNat).getD (im : Int).toNat 0) (IntKind.u64.wrap (f : Int))) 1 = 1)) else none) else none) else some false : Option Bool) = some (decide (2 < cnt x.p.toNat S) && aB x c (im : Int) (f : Int)) := by
          by_cases h : 2 < cnt x.p.toNat S
          · rw [decide_eq_true (by omega), if_pos rfl, if_pos (by omega), huf, if_pos (by omega), Int.toNat_natCast, rbit (by omega) hi hf, decide_eq_true h, Bool.true_and]
          · rw [decide_eq_false (by omega), if_neg (by simp), decide_eq_false h, Bool.false_and]
        rw [hval, Option.bind_some]
        cases hq : decide (2 < cnt x.p.toNat S) && aB x c (im : Int) (f : Int) with
        | false =>
          obtain ⟨T', e, hT'⟩ := len_in hp (c := c) (k := k) σ.1 hk hf hS hi hl hT
          rw [if_neg (by simp), Option.bind_some, hwf, e, Option.bind_some, hwi]
          refine ⟨(σ.1, T'), rfl, im + 1, by omega, by omega, hT', hM.congr fun j => CQ_no fun h => ?_⟩
          obtain ⟨_, _, h3, h4, h5⟩ := h
          rw [h3, h4, decide_eq_true h5] at hq
          cases hq
        | true =>
          simp only [Bool.and_eq_true, decide_eq_true_iff] at hq
          obtain ⟨T', e, hT'⟩ := len_in hp (c := c) (k := k) (σ.1.set (cnt x.p.toNat S) true) hk hf hS hi hl hT
          have hml := hM.1
          rw [if_pos rfl, if_pos (by omega), Option.bind_some, Int.toNat_natCast, hwf, e, Option.bind_some, hwi]
          refine ⟨(σ.1.set (cnt x.p.toNat S) true, T'), rfl, im + 1, by omega, by omega, hT', by rw [List.length_set]; exact hml, fun j hj => ?_⟩
          by_cases e2 : cnt x.p.toNat S = j
          · subst e2
            rw [List.getD_eq_getElem?_getD, List.getElem?_set_self (by omega)]
            exact ⟨fun _ => ⟨hq.1, .inr (.inr ⟨im, by omega, hi, hl, rfl, hq.2⟩)⟩, fun _ => rfl⟩
          · rw [List.getD_eq_getElem?_getD, List.getElem?_set_ne e2, ← List.getD_eq_getElem?_getD, hM.2 j hj]
            exact CQ_no fun h => e2 h.2.2.1)
    (fun k' i σ h0 h1 hI => by
      obtain ⟨im, rfl, him, hT, hM⟩ := hI
      have : im = x.p.toNat := by omega
      subst this
      rw [spec_l04Lengths_l2, decide_eq_false (by omega), if_neg (by simp)]
      exact ⟨_, rfl, σ.1, σ.2, rfl, hT, hM⟩)
    k (f : Int) (met, T) (by omega) (by omega) ⟨f, rfl, by omega, hT, hM⟩
  exact ⟨met', T', h1, h2, h3⟩

theorem len_out {f k : Nat} {T : List Int} {met : List Bool} (hk : 200000 ≤ k) (hf : f < x.p.toNat) (hT : TR x.p.toNat (CV (aB x c) x.p.toNat f (2 ^ f) f (f + 1)) T) (hM : MR x.p.toNat (CQ (aB x c) x.p.toNat f (2 ^ f) f) met) :
    ∃ met', spec_l04Lengths_l1 k x (rws x c x.p.toNat) (f : Int) k ((2 ^ f : Nat) : Int) met T = some met' ∧ MR x.p.toNat (CQ (aB x c) x.p.toNat f (2 ^ x.p.toNat) f) met' := by
  have h17 : 2 ^ x.p.toNat ≤ 2048 := (Nat.pow_le_pow_right (by decide) (show x.p.toNat ≤ 11 by omega) : 2 ^ x.p.toNat ≤ 2 ^ 11)
  have h2f : 2 ^ f ≤ 2 ^ x.p.toNat := Nat.pow_le_pow_right (by decide) (by omega)
  have hk1 : (((2 ^ x.p.toNat : Nat) : Int) - ((2 ^ f : Nat) : Int)).toNat < k := by
    have h3 : ((2 ^ x.p.toNat : Nat) : Int) ≤ 2048 := Int.ofNat_le.2 h17
    have h4 : 0 ≤ ((2 ^ f : Nat) : Int) := Int.natCast_nonneg _
    generalize ((2 ^ x.p.toNat : Nat) : Int) = a at *
    generalize ((2 ^ f : Nat) : Int) = b at *
    omega
  obtain ⟨met', h1, h2⟩ := loopI (fun k' S (σ : List Bool × List Int) => spec_l04Lengths_l1 k x (rws x c x.p.toNat) (f : Int) k' S σ.1 σ.2) ((2 ^ x.p.toNat : Nat) : Int) ((2 ^ f : Nat) : Int)
    (fun S σ => ∃ Sn : Nat, S = Sn ∧ Sn ≤ 2 ^ x.p.toNat ∧ TR x.p.toNat (CV (aB x c) x.p.toNat f Sn f (f + 1)) σ.2 ∧ MR x.p.toNat (CQ (aB x c) x.p.toNat f Sn f) σ.1)
    (fun met' => MR x.p.toNat (CQ (aB x c) x.p.toNat f (2 ^ x.p.toNat) f) met')
    (fun k' S σ h0 h1 hI => by
      obtain ⟨Sn, rfl, hSn, hT, hM⟩ := hI
      left
      have hS : Sn < 2 ^ x.p.toNat := by omega
      have hws : w64 ((Sn : Int) + 1) = ((Sn : Int) + 1) := w64_id (by omega)
      have hTl := hT.1
      obtain ⟨w, hw1, hw2, hw3⟩ := hT.2 Sn hS
      rw [spec_l04Lengths_l1, decide_eq_true (by omega), if_pos rfl, if_pos (by omega), Int.toNat_natCast, hw1]
      by_cases hz : w = 0
      · have hno : ∀ p, la (aB x c) x.p.toNat f Sn p = false := fun p => Bool.eq_false_iff.2 fun h => by
          have hb := la_bit h
          have hpn : p < x.p.toNat := by
            refine Classical.byContradiction fun hh => ?_
            have := Nat.testBit_lt_two_pow (Nat.lt_of_lt_of_le hS (Nat.pow_le_pow_right (by decide) (show x.p.toNat ≤ p by omega)))
            rw [hb] at this; cases this
          have := (hw3 p).2 ⟨CV_self.2 h, hpn⟩
          rw [hz] at this
          simp at this
        rw [decide_eq_true (by omega)]
        refine ⟨(σ.1, σ.2), by simp [hws], Sn + 1, by omega, by omega, hT.congr fun t q => ?_, hM.congr fun j => (CQ_none hno).trans (CQ_next hS)⟩
        rw [← CV_next]
        exact and_congr_left fun _ => CV_none hno
      · rw [decide_eq_false (by omega)]
        obtain ⟨met', T', e, hT', hM'⟩ := len_mid hp (c := c) (k := k) (by omega) hf hS hT hM
        rw [if_neg (by simp), e, Option.bind_some, hws]
        exact ⟨(met', T'), rfl, Sn + 1, by omega, by omega, hT'.congr fun t q => CV_next, hM'.congr fun j => CQ_next hS⟩)
    (fun k' S σ h0 h1 hI => by
      obtain ⟨Sn, rfl, hSn, hT, hM⟩ := hI
      have : Sn = 2 ^ x.p.toNat := by omega
      subst this
      have hTl := hT.1
      rw [spec_l04Lengths_l1, decide_eq_false (by omega), if_neg (by simp)]
      exact ⟨_, rfl, hM⟩)
    k ((2 ^ f : Nat) : Int) (met, T) (Int.le_refl _) hk1 ⟨2 ^ f, rfl, h2f, hT, hM⟩
  exact ⟨met', h1, h2⟩

theorem len_met {k : Nat} (hk : 200000 ≤ k) {met : List Bool} (hM : MR x.p.toNat (CQ (aB x c) x.p.toNat 0 0 0) met) : ∃ met', spec_l04Lengths_l0 k x (rws x c x.p.toNat) k 0 met = some met' ∧ MR x.p.toNat (CQ (aB x c) x.p.toNat x.p.toNat 0 0) met' := by
  have hx : x.p = ((x.p.toNat : Nat) : Int) := by omega
  have h17 : 2 ^ x.p.toNat ≤ 2048 := (Nat.pow_le_pow_right (by decide) (show x.p.toNat ≤ 11 by omega) : 2 ^ x.p.toNat ≤ 2 ^ 11)
  have hup : IntKind.u64.wrap x.p = ((x.p.toNat : Nat) : Int) := by
    have := u64n (j := x.p.toNat) (by omega)
    rw [← hx] at this ⊢
    exact this
  obtain ⟨met', h1, h2⟩ := loopI (fun k' f (met : List Bool) => spec_l04Lengths_l0 k x (rws x c x.p.toNat) k' f met) x.p 0
    (fun f met => ∃ fn : Nat, f = fn ∧ fn ≤ x.p.toNat ∧ MR x.p.toNat (CQ (aB x c) x.p.toNat fn 0 0) met)
    (fun met' => MR x.p.toNat (CQ (aB x c) x.p.toNat x.p.toNat 0 0) met')
    (fun k' f met h0 h1 hI => by
      obtain ⟨fn, rfl, hfn, hM⟩ := hI
      left
      have hf : fn < x.p.toNat := by omega
      have hwf : w64 ((fn : Int) + 1) = ((fn : Int) + 1) := w64_id (by omega)
      have huf : IntKind.u64.wrap (fn : Int) = fn := u64n (by omega)
      have h2f : 2 ^ fn < 2 ^ x.p.toNat := Nat.pow_lt_pow_right (by decide) hf
      have hrep : (List.replicate ((2 ^ x.p.toNat : Nat) : Int).toNat (0 : Int)).length = 2 ^ x.p.toNat := by rw [List.length_replicate, Int.toNat_natCast]
      have hrep0 : ∀ t, (List.replicate ((2 ^ x.p.toNat : Nat) : Int).toNat (0 : Int)).getD t 0 = 0 := fun t => by
        rw [List.getD_eq_getElem?_getD]
        by_cases h : t < ((2 ^ x.p.toNat : Nat) : Int).toNat
        · rw [List.getElem?_replicate, if_pos h]; rfl
        · rw [List.getElem?_eq_none (by rw [List.length_replicate]; omega)]; rfl
      have hT0 : TR x.p.toNat (CV (aB x c) x.p.toNat fn (2 ^ fn) fn (fn + 1)) ((List.replicate ((2 ^ x.p.toNat : Nat) : Int).toNat (0 : Int)).set (2 ^ fn) ((2 ^ fn : Nat) : Int)) := by
        refine ⟨by rw [List.length_set, hrep], fun t ht => ?_⟩
        by_cases e : 2 ^ fn = t
        · subst e
          refine ⟨2 ^ fn, by rw [List.getD_eq_getElem?_getD, List.getElem?_set_self (by rw [hrep]; exact ht)]; rfl, h2f, fun q => ?_⟩
          rw [CV_start, Nat.testBit_two_pow]
          simp
          constructor
          · rintro rfl; exact ⟨rfl, by omega⟩
          · rintro ⟨rfl, _⟩; rfl
        · refine ⟨0, by rw [List.getD_eq_getElem?_getD, List.getElem?_set_ne e, ← List.getD_eq_getElem?_getD, hrep0]; rfl, Nat.pow_pos (by decide), fun q => ?_⟩
          rw [CV_start]
          simp
          intro h; exact absurd h.symm e
      obtain ⟨met', e, hM'⟩ := len_out hp (c := c) hk hf hT0 (hM.congr fun j => CQ_start)
      rw [spec_l04Lengths_l0, decide_eq_true (show (fn : Int) < x.p from h1), if_pos rfl, hup, if_pos (by omega), bShl_one (by omega), if_pos (by omega), huf, if_pos (by omega), if_pos (by omega), bShl_one (by omega), hrep, if_pos ⟨Int.natCast_nonneg _, Int.ofNat_lt.2 h2f⟩, if_pos (by omega), Int.toNat_natCast (2 ^ fn), e, Option.bind_some, hwf]
      exact ⟨met', rfl, fn + 1, by omega, by omega, hM'.congr fun j => CQ_end⟩)
    (fun k' f met h0 h1 hI => by
      obtain ⟨fn, rfl, hfn, hM⟩ := hI
      have : fn = x.p.toNat := by omega
      subst this
      rw [spec_l04Lengths_l0, decide_eq_false (by omega), if_neg (by simp)]
      exact ⟨_, rfl, hM⟩)
    k 0 met (by omega) (by omega) ⟨0, rfl, by omega, hM⟩
  exact ⟨met', h1, h2⟩

/-- .. there is a cycle of so many points. -/
theorem met_cyc {m : Nat} (hm : 3 ≤ m) : CQ (aB x c) x.p.toNat x.p.toNat 0 0 m ↔ (fcyc (aB x c) x.p.toNat m).isSome = true := by
  have hs : ∀ a b, aB x c a b = aB x c b a := fun a b => aB_comm ..
  have hi : ∀ a, aB x c a a = false := fun a => aB_irr ..
  have h1 : (fcyc (aB x c) x.p.toNat m).isSome = true ↔ ∃ f, f < x.p.toNat ∧ ∃ t, Cy (aB x c) x.p.toNat f t ∧ t.length + 1 = m := by
    unfold fcyc
    rw [if_neg (by omega), List.findSome?_isSome_iff]
    constructor
    · rintro ⟨f, hf, h⟩
      rw [List.mem_range] at hf
      rw [Option.isSome_map] at h
      exact ⟨f, by omega, (dfs_has hs hi hm (by omega)).1 h⟩
    · rintro ⟨f, hf, t, hC, hl⟩
      have hlen := hC.1.len hf
      refine ⟨f, List.mem_range.2 (by omega), ?_⟩
      rw [Option.isSome_map]
      exact (dfs_has hs hi hm hf).2 ⟨t, hC, hl⟩
  rw [h1]
  constructor
  · rintro ⟨_, ⟨f, hf, h⟩ | ⟨S', p, h3, _⟩ | ⟨p, h3, _⟩⟩
    · exact ⟨f, hf, (la_has hf).1 h⟩
    · omega
    · omega
  · rintro ⟨f, hf, h⟩
    exact ⟨by omega, .inl ⟨f, hf, (la_has hf).2 h⟩⟩

theorem lengths_val {k : Nat} (hk : 200000 ≤ k) : spec_l04Lengths k x c = some ((ir 3 (x.p.toNat + 1)).filter fun m => (fcyc (aB x c) x.p.toNat m.toNat).isSome) := by
  unfold spec_l04Lengths
  rw [rows_val (by omega) x (by omega) c, Option.bind_some, w64_id (n := x.p + 1) (by omega), if_pos (by omega)]
  have hrep : (List.replicate (x.p + 1).toNat false).length = x.p.toNat + 1 := by rw [List.length_replicate]; omega
  obtain ⟨met, e, hM⟩ := len_met hp (c := c) hk (met := List.replicate (x.p + 1).toNat false) ⟨hrep, fun j hj => by
    rw [List.getD_eq_getElem?_getD, List.getElem?_replicate, if_pos (by omega)]
    refine ⟨fun h => (by simp at h), ?_⟩
    rintro ⟨_, ⟨f, hf, h⟩ | ⟨S', p, h3, _⟩ | ⟨p, h3, _⟩⟩ <;> omega⟩
  rw [e, Option.bind_some]
  have hml := hM.1
  obtain ⟨r, h1, rfl⟩ := loopI (fun k' m (L : List Int) => spec_l04Lengths_l4 x met k' m L) (x.p + 1) 3
    (fun m L => ∃ mn : Nat, m = mn ∧ 3 ≤ mn ∧ L ++ ((ir mn (x.p.toNat + 1)).filter fun m => (fcyc (aB x c) x.p.toNat m.toNat).isSome) = (ir 3 (x.p.toNat + 1)).filter (fun m => (fcyc (aB x c) x.p.toNat m.toNat).isSome) ∧ L.length ≤ mn)
    (fun r => r = (ir 3 (x.p.toNat + 1)).filter fun m => (fcyc (aB x c) x.p.toNat m.toNat).isSome)
    (fun k' m L h0 h1 hI => by
      obtain ⟨mn, rfl, hm3, hL, hlen⟩ := hI
      left
      have hmn : mn < x.p.toNat + 1 := by omega
      have hwm : w64 ((mn : Int) + 1) = ((mn : Int) + 1) := w64_id (by omega)
      have hb : met.getD mn false = (fcyc (aB x c) x.p.toNat mn).isSome := by
        rw [Bool.eq_iff_iff, hM.2 mn (by omega), met_cyc hp hm3]
      rw [ir_next hmn, List.filter_cons, Int.toNat_natCast] at hL
      rw [spec_l04Lengths_l4, decide_eq_true (by omega), if_pos rfl, if_pos (by omega), Int.toNat_natCast, hb, hwm]
      cases hc : (fcyc (aB x c) x.p.toNat mn).isSome with
      | false =>
        rw [hc] at hL
        exact ⟨L, by simp, mn + 1, by omega, by omega, by simpa using hL, by omega⟩
      | true =>
        rw [hc] at hL
        rw [if_pos rfl, if_pos (by simp; omega)]
        exact ⟨L ++ [(mn : Int)], rfl, mn + 1, by omega, by omega, by simpa using hL, by simp; omega⟩)
    (fun k' m L h0 h1 hI => by
      obtain ⟨mn, rfl, hm3, hL, hlen⟩ := hI
      rw [spec_l04Lengths_l4, decide_eq_false (by omega), if_neg (by simp)]
      rw [ir_end (by omega), List.filter_nil, List.append_nil] at hL
      exact ⟨_, rfl, hL⟩)
    k 3 [] (by omega) (by omega) ⟨3, rfl, by omega, by simp, by simp⟩
  try simp only at h1
  rw [h1]; rfl

theorem has_val {k : Nat} (hk : 200000 ≤ k) {m : Nat} : spec_l04Has k x c (m : Int) = some (fcyc (aB x c) x.p.toNat m).isSome := by
  unfold spec_l04Has
  rw [lengths_val hp hk, Option.bind_some]
  have hll : ((ir 3 (x.p.toNat + 1)).filter fun m => (fcyc (aB x c) x.p.toNat m.toNat).isSome).length ≤ 11 := by
    refine Nat.le_trans (List.length_filter_le _ _) ?_
    rw [ir_length]; omega
  have hmem : (m : Int) ∈ ((ir 3 (x.p.toNat + 1)).filter fun m => (fcyc (aB x c) x.p.toNat m.toNat).isSome) ↔ (fcyc (aB x c) x.p.toNat m).isSome = true := by
    rw [List.mem_filter, mem_ir, Int.toNat_natCast]
    refine ⟨fun h => h.2, fun h => ⟨?_, h⟩⟩
    have h3 : 3 ≤ m := by
      refine Classical.byContradiction fun hh => ?_
      unfold fcyc at h
      rw [if_pos (by omega)] at h; cases h
    obtain ⟨_, ⟨f, hf, hq⟩ | ⟨S', p, h3, _⟩ | ⟨p, h3, _⟩⟩ := (met_cyc hp h3).2 h
    · obtain ⟨t, hC, hl⟩ := (la_has hf).1 hq
      have := hC.1.len hf
      omega
    · omega
    · omega
  generalize ((ir 3 (x.p.toNat + 1)).filter fun m => (fcyc (aB x c) x.p.toNat m.toNat).isSome) = L at hll hmem
  have hl := loopAll (fun k' i => spec_l04Has_l0 (m : Int) L k' i) (L.length : Int) true (fun i => ¬ (L.getD i.toNat 0 = (m : Int))) 0
    (fun k' i h0 h1 hQ => by rw [spec_l04Has_l0, decide_eq_true h1, if_pos rfl, if_pos ⟨h0, h1⟩, decide_eq_false hQ, if_neg (by simp), w64_id (by omega)])
    (fun k' i h0 h1 hQ => by
      have := Classical.not_not.1 hQ
      rw [spec_l04Has_l0, decide_eq_true h1, if_pos rfl, if_pos ⟨h0, h1⟩, decide_eq_true this, if_pos rfl])
    (fun k' i h => by rw [spec_l04Has_l0, decide_eq_false (by omega), if_neg (by simp)])
    k 0 (by omega) (by omega)
  try simp only at hl
  rw [hl]
  cases hc : (fcyc (aB x c) x.p.toNat m).isSome with
  | true =>
    have h1 := hmem.2 hc
    obtain ⟨a, ha, e⟩ := List.getElem_of_mem h1
    rw [if_neg]
    · rfl
    · intro h
      refine h a (by omega) (by omega) ?_
      rw [Int.toNat_natCast, List.getD_eq_getElem?_getD, List.getElem?_eq_getElem ha]; exact e
  | false =>
    rw [if_pos]
    · rfl
    · intro j h0 h1 e
      have : (m : Int) ∈ L := by
        rw [← e, List.getD_eq_getElem?_getD, List.getElem?_eq_getElem (show j.toNat < L.length by omega)]
        exact List.getElem_mem _
      rw [hmem.1 this] at hc; cases hc
end
end Go.Proofs.Ytghhnpdhehjlaaa
