/- The plain law of FnUps. No conditions beyond those that each lemma states. -/
import Derived.Test.YtfpcopidcagdaaaPurePath
import Derived.Test.YtfpcopidcagdaaaPureDraw
set_option linter.unusedVariables false
set_option linter.unusedSimpArgs false
namespace Go.Proofs.Ytfpcopidcagdaaa
open Go Go.RowKit Ab

/-! ### What the calls answer -/
theorem like_refl (k : Nat) (l : List Int) (hk : l.length + 1 ≤ k) (hl : (l.length : Int) ≤ 1099511627776) : laws_likeInts k l l = some true := by
  unfold laws_likeInts
  have := loopAll (f := fun k' i => laws_likeInts_l0 l l k' i) (l.length : Int) false (fun _ => True) 0
    (fun k' i h0 h1 _ => by
      show laws_likeInts_l0 l l (k' + 1) i = _
      rw [laws_likeInts_l0, w64_succ h0 h1 (by omega)]
      simp [h0, h1])
    (fun k' i h0 h1 hq => (hq trivial).elim)
    (fun k' i h1 => by
      show laws_likeInts_l0 l l (k' + 1) i = _
      rw [laws_likeInts_l0]
      have : ¬ i < (l.length : Int) := by omega
      simp [this]) k 0 (by omega) (by omega)
  rw [this]; simp

theorem eqb_refl' (x : Col) : x.eqb x = true := (Col.eqb_iff x x).2 rfl

theorem up_cases {k : Nat} (hk : 5000 ≤ k) (x : Col) (c : Int) :
    (x.is ∧ (0 ≤ c ∧ c ≤ x.k - 1) ∧ ∃ r m, impl_LongestUp k x c = some (some r, 0) ∧ spec_LongestUp k x c = some (r, 0) ∧ impl_UpLengths k x c = some (some (upL x c x.p.toNat), 0) ∧ spec_UpLengths k x c = some (upL x c x.p.toNat, 0) ∧
      UpP x c r ∧ (r.length : Int) = m ∧ isMax (upL x c x.p.toNat) m ∧ 1 ≤ m ∧ m ≤ 17) ∨
    ∃ e, e ≠ 0 ∧ impl_LongestUp k x c = some (none, e) ∧ spec_LongestUp k x c = some ([], e) ∧ impl_UpLengths k x c = some (none, e) ∧ spec_UpLengths k x c = some ([], e) ∧ ¬ (x.is ∧ (0 ≤ c ∧ c ≤ x.k - 1)) := by
  classical
  have hin : inP x [] := fun i h0 h1 => by simp at h1; omega
  have hg := specGiven_eq k x c [] (by simp; omega) (by simp)
  have hcc := colourCode_eq k x c (by omega)
  by_cases h : x.is ∧ (0 ≤ c ∧ c ≤ x.k - 1)
  · left
    obtain ⟨hx, hc⟩ := h
    have hp := hx.1
    refine ⟨hx, hc, ?_⟩
    rw [if_pos hx, if_pos ⟨hc, hin⟩] at hg
    rw [if_pos hx, if_pos hc] at hcc
    obtain ⟨L, e1, e2, hL⟩ := fr2 x hp.2 c k (by omega) k (x.p - 1) (List.replicate x.p.toNat 0) (by omega) (by omega) (by omega) ⟨⟨by simp; omega, fun j h0 h1 => by omega⟩, fun t h0 h1 => by omega⟩
    have hlen := hL.1.1
    have hups : impl_Colouring_ups k x c = some (upL x c x.p.toNat, L) := by
      unfold impl_Colouring_ups
      rw [if_pos ⟨by omega, by omega, by omega⟩, if_pos ⟨by omega, by omega, by omega⟩, implUp_l0 x hp c k (by omega), w64_id (by omega), e1]; rfl
    have hspec : spec_l10Ups k x c = some L := by
      unfold spec_l10Ups
      rw [if_pos ⟨by omega, by omega, by omega⟩, w64_id (by omega), e2]; rfl
    have h0v := hL.1.2 0 (by omega) (by omega)
    obtain ⟨m, hmk, hm1, hm2, hm3⟩ := max_is L (by omega) ((L.length : Int) - 1).toNat (li L 0) 1 (by omega) rfl
    have hmax : slices_Max k L = some m := by
      unfold slices_Max
      have hn : ¬ (L.length : Int) < 1 := by omega
      simp only [hn, decide_false, Bool.false_eq_true, if_false, Option.bind_some]
      have h2 := hmk k (by omega)
      simp only [li] at h2
      rw [if_pos (by omega)]
      rw [h2]; rfl
    have hmax2 : spec_l10Longest_l0 L k 0 0 = some m := by
      obtain ⟨k', rfl⟩ : ∃ q, k = q + 1 := ⟨k - 1, by omega⟩
      rw [max_loop, slices_Max_l0]
      have hn : (0 : Int) < (L.length : Int) := by omega
      have h2 := hmk k' (by omega)
      simp only [li] at h2 h0v
      have hv : (0 : Int) < L.getD (0 : Int).toNat 0 := by omega
      simp only [hn, decide_true, if_true, hv]
      rw [if_pos ⟨by omega, trivial⟩]
      exact h2
    have hmx : isMax L m := by
      refine ⟨?_, fun i i0 i1 => ?_⟩
      · rcases hm3 with e | ⟨j, j1, j2, j3⟩
        · exact ⟨0, by omega, by omega, e.symm⟩
        · exact ⟨j, by omega, j2, j3⟩
      · by_cases e : i = 0
        · subst e; exact hm1
        · exact hm2 i (by omega) i1
    obtain ⟨⟨q, q0, q1, hq⟩, hmle⟩ := hmx
    have hqr := hL.1.2 q q0 (by omega)
    obtain ⟨r, r1, _, r3, r4, r5⟩ := long2 x hp.2 c (upL x c x.p.toNat) L hL k m 0 [] (by omega) (by omega) (by omega) (by omega) (by omega) (by simp) (fun j g0 g1 => by simp at g1; omega) ⟨fun i g0 g1 => by simp at g1; omega, fun i g0 g1 => by simp at g1; omega⟩ (.inr ⟨q, q0, by omega, hq, .inl rfl⟩)
    have hT := upL_TO x c (by omega)
    have hTl : ((upL x c x.p.toNat).length : Int) = x.p := by rw [upL_length]; omega
    obtain ⟨n, _, hn1, hn2, hn3⟩ := max_is (upL x c x.p.toNat) (by omega) (((upL x c x.p.toNat).length : Int) - 1).toNat (li (upL x c x.p.toNat) 0) 1 (by omega) rfl
    have hnx : isMax (upL x c x.p.toNat) n := by
      refine ⟨?_, fun i i0 i1 => ?_⟩
      · rcases hn3 with e | ⟨j, j1, j2, j3⟩
        · exact ⟨0, by omega, by omega, e.symm⟩
        · exact ⟨j, by omega, j2, j3⟩
      · by_cases e : i = 0
        · subst e; exact hn1
        · exact hn2 i (by omega) i1
    have hmn := paths_max hL hT hTl ⟨⟨q, q0, q1, hq⟩, hmle⟩ hnx
    refine ⟨r, m, ?_, ?_, ?_, ?_, r4, by simpa using r3, by rw [hmn]; exact hnx, by omega, by omega⟩
    · unfold impl_LongestUp
      rw [hcc, hups]
      simp only [Option.bind_some, decide_true, Bool.not_true, Bool.false_eq_true, if_false]
      rw [hmax]
      simp only [Option.bind_some]
      rw [r1]; rfl
    · unfold spec_LongestUp spec_l10Longest
      rw [hg, hspec]
      simp only [Option.bind_some, decide_true, Bool.not_true, Bool.false_eq_true, if_false]
      rw [hmax2]
      simp only [Option.bind_some]
      rw [r5]; rfl
    · unfold impl_UpLengths
      rw [hcc, hups]; rfl
    · unfold spec_UpLengths
      rw [hg, specUp_l0 x hp c k (by omega)]; rfl
  · right
    have key : ∃ e : Int, e ≠ 0 ∧ spec_l01Given k x c [] = some e ∧ impl_Colouring_colourCode k x c true = some e := by
      rw [hg, hcc]
      by_cases h1 : x.is
      · have h2 : ¬ (0 ≤ c ∧ c ≤ x.k - 1) := fun h2 => h ⟨h1, h2⟩
        exact ⟨2, by decide, by simp [h1, h2], by simp [h1, h2]⟩
      · exact ⟨1, by decide, by simp [h1], by simp [h1]⟩
    obtain ⟨e, he, k1, k2⟩ := key
    refine ⟨e, he, ?_, ?_, ?_, ?_, h⟩
    · unfold impl_LongestUp; rw [k2]; simp [he]
    · unfold spec_LongestUp; rw [k1]; simp [he]
    · unfold impl_UpLengths; rw [k2]; simp [he]
    · unfold spec_UpLengths; rw [k1]; simp [he]

open Classical in
theorem closed_val {k : Nat} (hk : 5000 ≤ k) (x : Col) (c : Int) : ∃ b e, impl_IsClosedColour k x c = some (b, e) ∧ spec_IsClosedColour k x c = some (b, e) ∧ (x.is → 0 ≤ c ∧ c ≤ x.k - 1 → e = 0 ∧ (b = true ↔ closed x c)) := by
  have hin : inP x [] := fun i h0 h1 => by simp at h1; omega
  have hg := specGiven_eq k x c [] (by simp; omega) (by simp)
  have hcc := colourCode_eq k x c (by omega)
  unfold impl_IsClosedColour spec_IsClosedColour
  rw [hg, hcc]
  by_cases h1 : x.is
  · have hp := h1.1
    by_cases h2 : 0 ≤ c ∧ c ≤ x.k - 1
    · rw [spec_l10Closed_eq k (by omega) x hp.2, impl_Colouring_isClosedColour_eq k (by omega) x hp.2]
      exact ⟨decide (closed x c), 0, by simp [h1, h2], by simp [h1, h2, hin], fun _ _ => ⟨rfl, by simp⟩⟩
    · exact ⟨false, 2, by simp [h1, h2], by simp [h1, h2], fun _ h => (h2 h).elim⟩
  · exact ⟨false, 1, by simp [h1], by simp [h1], fun h => (h1 h).elim⟩

theorem seq_val {k : Nat} (hk : 5000 ≤ k) (l : List Int) : (∃ y, impl_SequenceColouring k l = some (y, 0) ∧ spec_SequenceColouring k l = some (y, 0) ∧ dist l ∧ Made y l.length 2 (seqG l) ∧ 1 ≤ l.length ∧ l.length ≤ 17) ∨
    (impl_SequenceColouring k l = some (Col.zero, 2) ∧ spec_SequenceColouring k l = some (Col.zero, 2)) := by
  by_cases h : 1 ≤ l.length ∧ l.length ≤ 17
  · obtain ⟨r, e, h1⟩ := specSeq l h.1 h.2 k (by omega)
    obtain ⟨r', e', h1'⟩ := implSeq l h.1 h.2 k (by omega)
    rcases h1 with ⟨hd, h2, hm⟩ | ⟨hd, h2⟩ <;> rcases h1' with ⟨hd', h2', hm'⟩ | ⟨hd', h2'⟩
    · left
      have : r.1 = r'.1 := Made.eq (by omega) (by omega) hm hm' (fun _ _ _ _ => rfl)
      refine ⟨r.1, ?_, ?_, hd, hm, h.1, h.2⟩
      · rw [e', this, ← h2']
      · rw [e, ← h2]
    · exact (hd' hd).elim
    · exact (hd hd').elim
    · exact .inr ⟨by rw [e', h2'], by rw [e, h2]⟩
  · right
    constructor
    · unfold impl_SequenceColouring impl_size
      rw [in_eq, decide_eq_false (by omega)]; rfl
    · unfold spec_SequenceColouring
      rw [specIn_eq, decide_eq_false (by omega)]; rfl

theorem order_val {k : Nat} (hk : 5000 ≤ k) (x : Col) : (impl_OrderOf k x = some (some (ordL x x.p.toNat), 0) ∧ spec_OrderOf k x = some (ordL x x.p.toNat, 0) ∧ x.is ∧ x.k = 2 ∧ closed x 0 ∧ closed x 1) ∨
    ∃ e, e ≠ 0 ∧ impl_OrderOf k x = some (none, e) ∧ spec_OrderOf k x = some ([], e) := by
  classical
  unfold spec_OrderOf impl_OrderOf impl_Colouring_code impl_always
  rw [specIs_eq k (by omega), isColouring_eq k (by omega)]
  by_cases h : x.is
  · have hp := h.1
    rw [spec_l10Closed_eq k (by omega) x hp.2, spec_l10Closed_eq k (by omega) x hp.2, impl_Colouring_isClosedColour_eq k (by omega) x hp.2, impl_Colouring_isClosedColour_eq k (by omega) x hp.2, specOrd_l0 x hp k (by omega), implOrd_l0 x hp k (by omega)]
    by_cases a : x.k = 2
    · by_cases b : closed x 0
      · by_cases c : closed x 1
        · exact .inl ⟨by simp [h, a, b, c], by simp [h, a, b, c], h, a, b, c⟩
        · exact .inr ⟨5, by decide, by simp [h, a, b, c], by simp [h, a, b, c]⟩
      · exact .inr ⟨5, by decide, by simp [h, a, b], by simp [h, a, b]⟩
    · exact .inr ⟨5, by decide, by simp [h, a], by simp [h, a]⟩
  · exact .inr ⟨1, by decide, by simp [h], by simp [h]⟩

theorem colourOf_val {k : Nat} (hk : 5000 ≤ k) (x : Col) (hx : x.is) (i j : Int) (hi : 0 ≤ i ∧ i < x.p) (hj : 0 ≤ j ∧ j < x.p) (h : i ≠ j) : impl_ColourOf k x i j = some (x.cc i j, 0) := by
  classical
  have hp := hx.1
  unfold impl_ColourOf impl_Colouring_code impl_ColourOf_c1 impl_Colouring_hasTwo impl_Colouring_has
  rw [isColouring_eq k (by omega), in_eq, in_eq, w64_id (by omega), implAt_ne x i j hi.1 (by omega) hj.1 (by omega) h]
  have a1 : 0 ≤ i ∧ i ≤ x.p - 1 := by omega
  have a2 : 0 ≤ j ∧ j ≤ x.p - 1 := by omega
  simp [hx, a1, a2, h, letO]

theorem erdos_val (a b : Nat) (ha : a ≤ 17) (hb : b ≤ 17) : impl_ErdosNumber (w64 ((a : Int) + 1)) (w64 ((b : Int) + 1)) = ((a : Int) * b + 1, 0) := by
  unfold impl_ErdosNumber impl_areThousand
  have hab : (a : Int) * b ≤ 17 * 17 := by
    have : a * b ≤ 17 * 17 := Nat.mul_le_mul ha hb
    exact_mod_cast this
  have h0 : 0 ≤ (a : Int) * b := by exact_mod_cast Nat.zero_le (a * b)
  rw [w64_id (n := (a : Int) + 1) (by omega), w64_id (n := (b : Int) + 1) (by omega), in_eq, in_eq, decide_eq_true (by omega), decide_eq_true (by omega)]
  simp only [letO, if_true, Bool.not_true, Bool.false_eq_true, if_false]
  rw [w64_id (n := (a : Int) + 1 - 1) (by omega), w64_id (n := (b : Int) + 1 - 1) (by omega), show (a : Int) + 1 - 1 = a by omega, show (b : Int) + 1 - 1 = b by omega, w64_id (n := (a : Int) * b) (by omega), w64_id (by omega)]

/-! ### Sequences -/
theorem seqG_cc {y : Col} {l : List Int} (hm : Made y l.length 2 (seqG l)) (i j : Nat) (h : i < j) (hj : j < l.length) : y.cc i j = if l.getD i 0 < l.getD j 0 then 0 else 1 := by
  unfold Col.cc
  simp only [Int.toNat_natCast]
  rw [hm.e i j h (by omega)]
  unfold seqG
  split <;> rfl

theorem made_is {y : Col} {l : List Int} (hm : Made y l.length 2 (seqG l)) (h1 : 1 ≤ l.length) (h2 : l.length ≤ 17) : y.is := by
  have hp := hm.p
  have hk := hm.k
  refine ⟨by omega, by omega, fun j h0 h136 => ?_⟩
  have key : ∀ n : Nat, n ≤ 17 → 1 ≤ n → w64 ((w64 ((n : Int) * (w64 ((n : Int) - 1)))).tdiv 2) = (tri n : Nat) := by decide +kernel
  have hE : tE y = (tri l.length : Nat) := by
    unfold tE
    rw [hp]
    exact key l.length h2 h1
  refine ⟨fun hlt => ?_, fun hge => ?_⟩
  · obtain ⟨b, hb, a, ha, e⟩ := eN_surj (n := l.length) (e := j.toNat) h2 (by omega)
    show ((y.e.get j.toNat).toNat : Int) < y.k
    rw [e, hm.e a b ha (by omega), hk]
    unfold seqG
    split <;> decide
  · have := hm.z j.toNat (by simp; omega) (by omega)
    show ((y.e.get j.toNat).toNat : Int) = 0
    rw [this]; rfl

theorem seq_closed {y : Col} {l : List Int} (hm : Made y l.length 2 (seqG l)) : closed y 0 ∧ closed y 1 := by
  have hp := hm.p
  constructor
  · rintro t s w h1 h2 h3 h4 ⟨b1, b2, b3⟩
    obtain ⟨w, rfl⟩ := nat_of h4
    obtain ⟨s, rfl⟩ := nat_of (show 0 ≤ s by omega)
    obtain ⟨t, rfl⟩ := nat_of (show 0 ≤ t by omega)
    rw [seqG_cc hm w s (by omega) (by omega)] at b1
    rw [seqG_cc hm s t (by omega) (by omega)] at b2
    rw [seqG_cc hm w t (by omega) (by omega)] at b3
    split at b1
    · split at b2
      · split at b3
        · exact b3 rfl
        · omega
      · omega
    · omega
  · rintro t s w h1 h2 h3 h4 ⟨b1, b2, b3⟩
    obtain ⟨w, rfl⟩ := nat_of h4
    obtain ⟨s, rfl⟩ := nat_of (show 0 ≤ s by omega)
    obtain ⟨t, rfl⟩ := nat_of (show 0 ≤ t by omega)
    rw [seqG_cc hm w s (by omega) (by omega)] at b1
    rw [seqG_cc hm s t (by omega) (by omega)] at b2
    rw [seqG_cc hm w t (by omega) (by omega)] at b3
    split at b1
    · omega
    · split at b2
      · omega
      · split at b3
        · omega
        · exact b3 rfl

/-- A list of different numbers below n is no longer than n. -/
theorem few : ∀ (n : Nat) (l : List Nat), l.Nodup → (∀ z ∈ l, z < n) → l.length ≤ n := by
  intro n
  induction n with
  | zero =>
    intro l _ h
    match l with
    | [] => exact Nat.le_refl _
    | a :: t => have := h a (by simp); omega
  | succ n ih =>
    intro l hn h
    by_cases hm : n ∈ l
    · have := ih (l.erase n) (hn.erase n) (fun z hz => by
        have h1 := h z (List.mem_of_mem_erase hz)
        have h2 : z ≠ n := fun e => by subst e; exact (List.Nodup.not_mem_erase hn) hz
        omega)
      rw [List.length_erase_of_mem hm] at this
      omega
    · have := ih l hn (fun z hz => by
        have h1 := h z hz
        have h2 : z ≠ n := fun e => by subst e; exact hm hz
        omega)
      omega

/-- Erdos and Szekeres. -/
theorem erdos {y : Col} {l : List Int} (hm : Made y l.length 2 (seqG l)) {a b : Nat} (ha : isMax (upL y 0 y.p.toNat) a) (hb : isMax (upL y 1 y.p.toNat) b) : l.length ≤ a * b := by
  have hp := hm.p
  have hn : y.p.toNat = l.length := by omega
  have h0 := upL_TO y 0 (by omega)
  have h1 := upL_TO y 1 (by omega)
  have hl0 : (upL y 0 y.p.toNat).length = l.length := by rw [upL_length, hn]
  have hl1 : (upL y 1 y.p.toNat).length = l.length := by rw [upL_length, hn]
  let u : Nat → Nat := fun i => (li (upL y 0 y.p.toNat) i - 1).toNat * b + (li (upL y 1 y.p.toNat) i - 1).toNat
  have hr0 : ∀ i : Nat, i < l.length → 1 ≤ li (upL y 0 y.p.toNat) i ∧ li (upL y 0 y.p.toNat) i ≤ a := fun i hi => ⟨(h0 i (by omega) (by omega)).1, ha.2 i (by omega) (by omega)⟩
  have hr1 : ∀ i : Nat, i < l.length → 1 ≤ li (upL y 1 y.p.toNat) i ∧ li (upL y 1 y.p.toNat) i ≤ b := fun i hi => ⟨(h1 i (by omega) (by omega)).1, hb.2 i (by omega) (by omega)⟩
  have hinj : ∀ i j : Nat, i < j → j < l.length → u i ≠ u j := by
    intro i j hij hj e
    have r0i := hr0 i (by omega)
    have r0j := hr0 j hj
    have r1i := hr1 i (by omega)
    have r1j := hr1 j hj
    have hbpos : 0 < b := by omega
    have e1 : (li (upL y 0 y.p.toNat) i - 1).toNat = (li (upL y 0 y.p.toNat) j - 1).toNat := by
      have := congrArg (· / b) e
      simp only [u] at this
      rwa [Nat.mul_comm, Nat.mul_add_div hbpos, Nat.div_eq_of_lt (by omega), Nat.mul_comm, Nat.mul_add_div hbpos, Nat.div_eq_of_lt (by omega), Nat.add_zero, Nat.add_zero] at this
    have e2 : (li (upL y 1 y.p.toNat) i - 1).toNat = (li (upL y 1 y.p.toNat) j - 1).toNat := by
      simp only [u] at e
      rw [e1] at e
      omega
    have hcc := seqG_cc hm i j hij hj
    by_cases hlt : l.getD i 0 < l.getD j 0
    · rw [if_pos hlt] at hcc
      have := (h0 j (by omega) (by omega)).2.1 i (by omega) (by omega) hcc
      omega
    · rw [if_neg hlt] at hcc
      have := (h1 j (by omega) (by omega)).2.1 i (by omega) (by omega) hcc
      omega
  have hlt : ∀ i : Nat, i < l.length → u i < a * b := by
    intro i hi
    have r0 := hr0 i hi
    have r1 := hr1 i hi
    have h3 : (li (upL y 0 y.p.toNat) i - 1).toNat + 1 ≤ a := by omega
    have h4 : ((li (upL y 0 y.p.toNat) i - 1).toNat + 1) * b ≤ a * b := Nat.mul_le_mul_right b h3
    rw [Nat.add_mul, Nat.one_mul] at h4
    simp only [u]
    omega
  have := few (a * b) ((List.range l.length).map u) (by
    rw [List.nodup_iff_pairwise_ne, List.pairwise_map]
    refine List.Pairwise.imp_of_mem ?_ List.pairwise_lt_range
    intro i j hi hj hij
    rw [List.mem_range] at hi hj
    exact hinj i j hij hj) (by
    intro z hz
    obtain ⟨i, hi, rfl⟩ := List.mem_map.1 hz
    rw [List.mem_range] at hi
    exact hlt i hi)
  simpa using this
end Go.Proofs.Ytfpcopidcagdaaa
