/- Plain laws: greatest cliques, cliques that are looked at, cliques at points. No conditions beyond those that each lemma states. -/
import Derived.Test.YtfoijbdnkkaceaaPureClqV18
set_option linter.unusedVariables false
set_option linter.unusedSimpArgs false
namespace Go.Proofs.Ytfoijbdnkkaceaa
open Go Go.RowKit Ab

/-- The first one of the greatest cliques. -/
def isGrt (x : Col) (c : Int) (w : Nat) (l : List Int) : Prop := 1 ≤ w ∧ w ≤ 17 ∧ (cl (aB x c) w (pts x)).head? = some l ∧ cl (aB x c) (w + 1) (pts x) = []
theorem pts_len (x : Col) (hp : 1 ≤ x.p ∧ x.p ≤ 17) : 1 ≤ (pts x).length ∧ (pts x).length ≤ 17 := by unfold pts; rw [ir_length]; omega
theorem pts_cons (x : Col) (hp : 1 ≤ x.p ∧ x.p ≤ 17) : ∃ t, pts x = 0 :: t := ⟨ir 1 x.p.toNat, by unfold pts; rw [ir_next (by omega)]; rfl⟩
theorem cl_ne_le (x : Col) (hp : 1 ≤ x.p ∧ x.p ≤ 17) (c : Int) (m : Nat) (h : cl (aB x c) m (pts x) ≠ []) : m ≤ 17 := by
  rcases Nat.lt_or_ge (pts x).length m with q | q
  · exact absurd (cl_short _ _ m q) h
  · have := pts_len x hp; omega

theorem grt_is {x : Col} {c : Int} {w : Nat} {l : List Int} (h : isGrt x c w l) : grt (acl x c) [] = l := by
  obtain ⟨h1, _, h3, h4⟩ := h
  refine grt_first w (acl x c) [] l (fun a ha => ?_) (by simp; omega) ?_
  · rcases Nat.lt_or_ge w a.length with q | q
    · exfalso
      have hm := (mem_ac (aB x c) (pts x) a).1 ha
      have hin : a ∈ cl (aB x c) a.length (pts x) := (mem_cl _ _ _ _).2 ⟨hm.1, hm.2, rfl⟩
      have : cl (aB x c) (w + 1) (pts x) ≠ [] := cl_down _ _ (w + 1) (a.length - (w + 1)) (by
        rw [show w + 1 + (a.length - (w + 1)) = a.length by omega]
        intro e; rw [e] at hin; simp at hin)
      exact this h4
    · exact q
  · rw [← List.head?_filter, acl_filter]; exact h3

theorem specGreatest_val {k : Nat} (hk : 5000 ≤ k) (x : Col) (hp : 1 ≤ x.p ∧ x.p ≤ 17) (c : Int) : ∃ w l, spec_l02Greatest k x c = some l ∧ isGrt x c w l := by
  unfold spec_l02Greatest
  have loop : ∀ (d w : Nat) (l : List Int) (f : Nat), 18 - w = d → d < f → 1 ≤ w → (cl (aB x c) w (pts x)).head? = some l → ∃ w' l', spec_l02Greatest_l0 k x c f l = some l' ∧ isGrt x c w' l' := by
    intro d
    induction d with
    | zero =>
      intro w l f hd hf hw hl
      exfalso
      have : cl (aB x c) w (pts x) ≠ [] := fun e => by rw [e] at hl; simp at hl
      have := cl_ne_le x hp c w this
      omega
    | succ d ih =>
      intro w l f hd hf hw hl
      obtain ⟨f, rfl⟩ : ∃ q, f = q + 1 := ⟨f - 1, by omega⟩
      have hne : cl (aB x c) w (pts x) ≠ [] := fun e => by rw [e] at hl; simp at hl
      have hw17 := cl_ne_le x hp c w hne
      have hlen : l.length = w := cl_len _ _ _ l (List.mem_of_mem_head? (by rw [hl]; rfl))
      have hsp := spec_list x hp c hk (w + 1) 1 (by omega) (by omega) (by omega)
      rw [spec_l02Greatest_l0, hlen, w64_id (by omega), show ((w : Int) + 1) = ((w + 1 : Nat) : Int) by omega, show (1 : Int) = ((1 : Nat) : Int) from rfl, hsp]
      simp only [Option.bind_some]
      cases hq : cl (aB x c) (w + 1) (pts x) with
      | nil => exact ⟨w, l, by simp, hw, hw17, hl, hq⟩
      | cons a t =>
        have : (((a :: t).take 1).length : Int) ≠ 0 := by simp
        have h0 : (0 : Int) ≤ 0 ∧ (0 : Int) < (((a :: t).take 1).length : Int) := by simp
        rw [decide_eq_false this, if_neg (by simp), if_pos h0]
        have hg : ((a :: t).take 1).getD (0 : Int).toNat [] = a := by simp
        rw [hg]
        exact ih (w + 1) a f (by omega) (by omega) (by omega) (by rw [hq]; rfl)
  obtain ⟨t, ht⟩ := pts_cons x hp
  obtain ⟨w, l, e, h⟩ := loop 17 1 [0] k (by omega) (by omega) (by omega) (by rw [ht, cl_cons, cl_zero]; rfl)
  exact ⟨w, l, by rw [e]; rfl, h⟩

theorem greatestClique_val {k : Nat} (hk : 5000 ≤ k) (x : Col) (c : Int) :
    (∃ e, e ≠ 0 ∧ impl_GreatestClique k x c = some ([], e) ∧ spec_GreatestClique k x c = some ([], e)) ∨
    (x.is ∧ (0 ≤ c ∧ c ≤ x.k - 1) ∧ ∃ w l, impl_GreatestClique k x c = some (l, 0) ∧ spec_GreatestClique k x c = some (l, 0) ∧ isGrt x c w l) := by
  obtain ⟨c1, c2⟩ := code_cases hk x
  obtain ⟨g1, g2, g3⟩ := given_cases hk x c
  unfold impl_GreatestClique spec_GreatestClique impl_GreatestClique_c1
  by_cases h : x.is
  · rw [hasColour_val h c]
    by_cases hc : 0 ≤ c ∧ c ≤ x.k - 1
    · right
      obtain ⟨w, l, e, hg⟩ := specGreatest_val hk x h.1 c
      refine ⟨h, hc, w, l, ?_, ?_, hg⟩
      · rw [decide_eq_true hc, (c1 h).1, greatest_eq hk x h.1 c, grt_is hg]; simp
      · rw [g1 h hc, e]; simp
    · left
      rw [decide_eq_false hc, (c1 h).2, g2 h hc]
      exact ⟨2, by decide, by simp, by simp⟩
  · left
    rw [c2 h, g3 h]
    exact ⟨1, by decide, by simp, by simp⟩

/-! ### Cliques that are looked at -/
/-- All points of a list are joined. -/
def isC (x : Col) (c : Int) (l : List Int) : Prop := ∀ a b : Nat, a < b → b < l.length → aB x c (l.getD a 0) (l.getD b 0) = true
theorem getD_el {l : List Int} {i : Nat} (h : i < l.length) : l.getD i 0 = l[i] := by simp [List.getD, h]
theorem getD_mem {l : List Int} {i : Nat} (h : i < l.length) : l.getD i 0 ∈ l := by
  have e : l.getD i 0 = l[i] := by simp [List.getD, h]
  rw [e]; exact List.getElem_mem h
theorem inP_inR {x : Col} (hp : x.p ≤ 17) {l : List Int} (h : inP x l) : inR l := fun z hz => by
  obtain ⟨i, hi, rfl⟩ := List.getElem_of_mem hz
  have := h i (by omega) (by omega)
  have e : li l i = l[i] := by unfold li; simp [List.getD, hi]
  rw [e] at this; omega

theorem goesB_take (x : Col) (c : Int) (l : List Int) (i : Nat) (h : i < l.length) : goesB x c (l.take i) (l.getD i 0) = true ↔ ∀ a : Nat, a < i → aB x c (l.getD a 0) (l.getD i 0) = true := by
  unfold goesB
  rw [List.all_eq_true]
  constructor
  · intro q a ha
    have e : l.getD a 0 = (l.take i)[a]'(by simp; omega) := by simp [List.getD, show a < l.length by omega]
    rw [e]
    exact q _ (List.getElem_mem _)
  · intro q z hz
    obtain ⟨a, ha, rfl⟩ := List.getElem_of_mem hz
    simp at ha
    have e : (l.take i)[a]'(by simp; omega) = l.getD a 0 := by simp [List.getD, show a < l.length by omega]
    rw [e]
    exact q a (by omega)

open Classical in
theorem implIsC {k : Nat} (hk : 5000 ≤ k) (x : Col) (hp : 1 ≤ x.p ∧ x.p ≤ 17) (c : Int) (l : List Int) (hl : l.length ≤ 1000) (hr : inR l) : impl_Colouring_isClique k x c l = some (decide (isC x c l)) := by
  unfold impl_Colouring_isClique
  have key : ∀ (i : Int), 0 ≤ i → i < l.length → impl_Colouring_goesWith k x c ((l.take i.toNat).drop 0) (l.getD i.toNat 0) = some (decide (∀ a : Nat, (a : Int) < i → aB x c (l.getD a 0) (l.getD i.toNat 0) = true)) := fun i h0 h1 => by
    obtain ⟨m, rfl⟩ := nat_of h0
    rw [List.drop_zero, Int.toNat_natCast]
    rw [goes_val k x c (l.take m) (l.getD m 0) (by simp; omega) (by simp; omega) (fun z hz => hr z (List.mem_of_mem_take hz)) (hr _ (getD_mem (by omega)))]
    congr 1
    have := goesB_take x c l m (by omega)
    cases hq : goesB x c (l.take m) (l.getD m 0) with
    | true => rw [hq] at this; exact (decide_eq_true fun a ha => this.1 rfl a (by omega)).symm
    | false => rw [hq] at this; exact (decide_eq_false fun q => by have := this.2 fun a ha => q a (by omega); simp at this).symm
  have := loopAll (f := fun k' i => impl_Colouring_isClique_l0 k x c l k' i) (l.length : Int) false (fun i => ∀ a : Nat, (a : Int) < i → aB x c (l.getD a 0) (l.getD i.toNat 0) = true) 0
    (fun k' i h0 h1 hq => by
      show impl_Colouring_isClique_l0 k x c l (k' + 1) i = _
      have h2 : i ≤ (l.length : Int) := by omega
      rw [impl_Colouring_isClique_l0, w64_succ h0 h1 (by omega), key i h0 h1, decide_eq_true hq]
      simp only [h1, h0, decide_true, if_true, and_self, h2, Int.le_refl, Nat.le_refl, Option.bind_some, Bool.not_true, Bool.false_eq_true, if_false])
    (fun k' i h0 h1 hq => by
      show impl_Colouring_isClique_l0 k x c l (k' + 1) i = _
      have h2 : i ≤ (l.length : Int) := by omega
      rw [impl_Colouring_isClique_l0, key i h0 h1, decide_eq_false hq]
      simp only [h1, h0, decide_true, if_true, and_self, h2, Int.le_refl, Nat.le_refl, Option.bind_some, Bool.not_false])
    (fun k' i h1 => by
      show impl_Colouring_isClique_l0 k x c l (k' + 1) i = _
      rw [impl_Colouring_isClique_l0]
      have : ¬ i < (l.length : Int) := by omega
      simp [this]) k 0 (by omega) (by omega)
  rw [this]
  have e : (∀ j : Int, 0 ≤ j → j < (l.length : Int) → ∀ a : Nat, (a : Int) < j → aB x c (l.getD a 0) (l.getD j.toNat 0) = true) ↔ isC x c l := by
    constructor
    · intro h a b hab hb
      have := h b (by omega) (by omega) a (by omega)
      rwa [Int.toNat_natCast] at this
    · intro h j h0 h1 a ha
      exact h a j.toNat (by omega) (by omega)
  by_cases q : isC x c l
  · rw [if_pos (e.2 q), decide_eq_true q]; rfl
  · rw [if_neg (fun z => q (e.1 z)), decide_eq_false q]; rfl

/-- Sorted lists of points are the points of their bits. -/
def bitsOf : List Int → Nat
  | [] => 0
  | a :: t => 2 ^ a.toNat ||| bitsOf t
theorem bitsOf_test (l : List Int) (j : Nat) (h : ∀ z ∈ l, 0 ≤ z) : (bitsOf l).testBit j = decide ((j : Int) ∈ l) := by
  induction l with
  | nil => simp [bitsOf]
  | cons a t ih =>
    rw [bitsOf, Nat.testBit_or, Nat.testBit_two_pow, ih fun z hz => h z (List.mem_cons_of_mem _ hz)]
    have ha := h a (List.mem_cons_self ..)
    by_cases e : a.toNat = j
    · have : (j : Int) = a := by omega
      simp [e, this]
    · have : ¬ (j : Int) = a := by omega
      simp [e, this]
theorem bitsOf_snoc (l : List Int) (a : Int) : bitsOf (l ++ [a]) = bitsOf l ||| 2 ^ a.toNat := by
  induction l with
  | nil => simp [bitsOf]
  | cons b t ih => rw [List.cons_append, bitsOf, ih, bitsOf, Nat.or_assoc]
theorem bitsOf_lt (l : List Int) (h : inR l) : bitsOf l < 2 ^ 17 := bits_lt fun i hi => by
  rw [bitsOf_test l i fun z hz => (h z hz).1]
  simp only [decide_eq_false_iff_not]
  intro q
  have := h _ q
  omega

theorem bits_val {k : Nat} (hk : 5000 ≤ k) (l : List Int) (hl : l.length ≤ 1000) (h : inR l) : spec_l01Bits k l = some ((bitsOf l : Nat) : Int) := by
  unfold spec_l01Bits
  have := loopI (f := fun k' i (s : Int) => spec_l01Bits_l0 l k' s i) (l.length : Int) 0 (fun i s => i ≤ l.length ∧ s = ((bitsOf (l.take i.toNat) : Nat) : Int)) (fun r => r = ((bitsOf l : Nat) : Int)) ?_ ?_ k 0 0 (by omega) (by omega) ⟨by omega, by simp [bitsOf]⟩
  · obtain ⟨r, e, rfl⟩ := this
    rw [e]; rfl
  · intro k' i s h0 h1 ⟨_, q⟩
    left
    obtain ⟨m, rfl⟩ := nat_of h0
    refine ⟨_, ?_, by omega, rfl⟩
    show spec_l01Bits_l0 l (k' + 1) s m = _
    have e0 : ((m : Int) + 1).toNat = m + 1 := by omega
    have hm : m < l.length := by omega
    have hz := h _ (getD_mem hm)
    have e1 : l.take (m + 1) = l.take m ++ [l.getD m 0] := by
      rw [List.take_add_one]
      congr 1
      simp [List.getD, hm]
    rw [spec_l01Bits_l0, w64_succ h0 h1 (by omega), e0, e1, bitsOf_snoc]
    simp only [Int.toNat_natCast] at q ⊢
    obtain ⟨v, hv⟩ := nat_of hz.1
    rw [hv] at hz ⊢
    have hb := bitsOf_lt (l.take m) fun z hz => h z (List.mem_of_mem_take hz)
    rw [u64_id (by omega), bShl_one (by omega), q, bOr_nat (lt63 hb) (Nat.pow_lt_pow_right (by omega) (by omega))]
    have hv0 : (0 : Int) ≤ v := by omega
    simp only [h1, h0, decide_true, if_true, and_self, hv0, Int.toNat_natCast]
  · intro k' i s h0 h1 ⟨q1, q2⟩
    have : i = (l.length : Int) := by omega
    subst this
    refine ⟨s, ?_, by rw [q2, Int.toNat_natCast, List.take_length]⟩
    show spec_l01Bits_l0 l (k' + 1) s (l.length : Int) = _
    rw [spec_l01Bits_l0]; simp

theorem pw_ext' : ∀ l l' : List Int, l.Pairwise (· < ·) → l'.Pairwise (· < ·) → (∀ z, z ∈ l ↔ z ∈ l') → l = l'
  | [], [], _, _, _ => rfl
  | [], b :: t, _, _, h => by have := (h b).2 (List.mem_cons_self ..); simp at this
  | a :: t, [], _, _, h => by have := (h a).1 (List.mem_cons_self ..); simp at this
  | a :: t, b :: u, h1, h2, h => by
    rw [List.pairwise_cons] at h1 h2
    have hab : a = b := by
      rcases List.mem_cons.1 ((h a).1 (List.mem_cons_self ..)) with e | e
      · exact e
      · rcases List.mem_cons.1 ((h b).2 (List.mem_cons_self ..)) with e' | e'
        · exact e'.symm
        · have := h2.1 a e; have := h1.1 b e'; omega
    subst hab
    congr 1
    refine pw_ext' t u h1.2 h2.2 fun z => ?_
    constructor
    · intro hz
      rcases List.mem_cons.1 ((h z).1 (List.mem_cons_of_mem _ hz)) with e | e
      · have := h1.1 z hz; omega
      · exact e
    · intro hz
      rcases List.mem_cons.1 ((h z).2 (List.mem_cons_of_mem _ hz)) with e | e
      · have := h2.1 z hz; omega
      · exact e

theorem inc_pw {l : List Int} (h : inc l) : l.Pairwise (· < ·) := by
  rw [List.pairwise_iff_getElem]
  intro i j hi hj hij
  have := inc_at h (i := i) (j := j) (by omega) (by omega) (by omega)
  unfold li at this
  simp only [Int.toNat_natCast] at this
  have e1 : l.getD i 0 = l[i] := by simp [List.getD, hi]
  have e2 : l.getD j 0 = l[j] := by simp [List.getD, hj]
  rw [e1, e2] at this
  exact this
theorem pw_inc {l : List Int} (h : l.Pairwise (· < ·)) : inc l := by
  intro i h0 h1
  rw [List.pairwise_iff_getElem] at h
  have := h (i - 1).toNat i.toNat (by omega) (by omega) (by omega)
  unfold li
  have e1 : l.getD (i - 1).toNat 0 = l[(i - 1).toNat]'(by omega) := getD_el _
  have e2 : l.getD i.toNat 0 = l[i.toNat]'(by omega) := by simp [List.getD, show i.toNat < l.length by omega]
  rw [e1, e2]
  exact this

theorem points_bits {k : Nat} (hk : 5000 ≤ k) (l : List Int) (h : inR l) (hi : inc l) : spec_l01Points k ((bitsOf l : Nat) : Int) = some l := by
  rw [points_eq (bitsOf l) (lt63 (bitsOf_lt l h)) k (by omega)]
  congr 1
  refine pw_ext' _ _ (pick_pw _ _) (inc_pw hi) fun z => ?_
  rw [pick_mem]
  constructor
  · rintro ⟨v, rfl, _, hv⟩
    rw [bitsOf_test l v fun z hz => (h z hz).1] at hv
    simpa using hv
  · intro hz
    have := h z hz
    refine ⟨z.toNat, by omega, by omega, ?_⟩
    rw [bitsOf_test l _ fun z hz => (h z hz).1]
    have e : ((z.toNat : Nat) : Int) = z := by omega
    rw [e]; simpa using hz

open Classical in
theorem specIsC {k : Nat} (hk : 5000 ≤ k) (x : Col) (hp : 1 ≤ x.p ∧ x.p ≤ 17) (c : Int) (l : List Int) (hl : l.length ≤ 1000) (hr : inR l) (hi : inc l) : spec_l02Clique k x c ((bitsOf l : Nat) : Int) = some (decide (isC x c l)) := by
  unfold spec_l02Clique
  rw [points_bits hk l hr hi]
  simp only [Option.bind_some]
  have ht : ∀ i : Int, 0 ≤ i → i < l.length → 0 ≤ l.getD i.toNat 0 ∧ l.getD i.toNat 0 < 17 := fun i h0 h1 => hr _ (getD_mem (by omega))
  have inner : ∀ i : Int, 0 ≤ i → i < l.length → spec_l02Clique_l1 x c l i k 0 = some (if ∀ a : Int, 0 ≤ a → a < i → x.cc (l.getD a.toNat 0) (l.getD i.toNat 0) = c then .inl () else .inr (.inr false)) := fun i h0 h1 =>
    loopAll (f := fun k' a => spec_l02Clique_l1 x c l i k' a) i (.inr false) (fun a => x.cc (l.getD a.toNat 0) (l.getD i.toNat 0) = c) 0
      (fun k' a g0 g1 hq => by
        show spec_l02Clique_l1 x c l i (k' + 1) a = _
        have hlt := inc_at hi g0 g1 h1
        unfold li at hlt
        have ha : a < (l.length : Int) := by omega
        rw [spec_l02Clique_l1, w64_succ g0 g1 (by omega), specAt_ne x _ _ (ht a g0 ha).1 (ht a g0 ha).2 (ht i h0 h1).1 (ht i h0 h1).2 (by omega), hq]
        simp only [g1, decide_true, if_true, g0, ha, and_self, h0, h1, Option.bind_some, Bool.not_true, Bool.false_eq_true, if_false])
      (fun k' a g0 g1 hq => by
        show spec_l02Clique_l1 x c l i (k' + 1) a = _
        have hlt := inc_at hi g0 g1 h1
        unfold li at hlt
        have ha : a < (l.length : Int) := by omega
        rw [spec_l02Clique_l1, specAt_ne x _ _ (ht a g0 ha).1 (ht a g0 ha).2 (ht i h0 h1).1 (ht i h0 h1).2 (by omega)]
        simp only [g1, decide_true, if_true, g0, ha, and_self, h0, h1, Option.bind_some, hq, decide_false, Bool.not_false])
      (fun k' a g1 => by
        show spec_l02Clique_l1 x c l i (k' + 1) a = _
        rw [spec_l02Clique_l1]
        have : ¬ a < i := by omega
        simp [this]) k 0 (by omega) (by omega)
  have := loopAll (f := fun k' i => spec_l02Clique_l0 k x c l k' i) (l.length : Int) false (fun i => ∀ a : Int, 0 ≤ a → a < i → x.cc (l.getD a.toNat 0) (l.getD i.toNat 0) = c) 0
    (fun k' i h0 h1 hq => by
      show spec_l02Clique_l0 k x c l (k' + 1) i = _
      rw [spec_l02Clique_l0, w64_succ h0 h1 (by omega), inner i h0 h1, if_pos hq]
      simp only [h1, decide_true, if_true, Option.bind_some])
    (fun k' i h0 h1 hq => by
      show spec_l02Clique_l0 k x c l (k' + 1) i = _
      rw [spec_l02Clique_l0, inner i h0 h1, if_neg hq]
      simp only [h1, decide_true, if_true, Option.bind_some])
    (fun k' i h1 => by
      show spec_l02Clique_l0 k x c l (k' + 1) i = _
      rw [spec_l02Clique_l0]
      have : ¬ i < (l.length : Int) := by omega
      simp [this]) k 0 (by omega) (by omega)
  rw [this]
  have e : (∀ i : Int, 0 ≤ i → i < (l.length : Int) → ∀ a : Int, 0 ≤ a → a < i → x.cc (l.getD a.toNat 0) (l.getD i.toNat 0) = c) ↔ isC x c l := by
    constructor
    · intro h a b hab hb
      have hlt := inc_at hi (i := a) (j := b) (by omega) (by omega) (by omega)
      have := h b (by omega) (by omega) a (by omega) (by omega)
      unfold li at hlt
      simp only [Int.toNat_natCast] at this hlt
      unfold aB
      exact decide_eq_true ⟨by omega, this⟩
    · intro h i h0 h1 a g0 g1
      have := h a.toNat i.toNat (by omega) (by omega)
      unfold aB at this
      exact (of_decide_eq_true this).2
  by_cases q : isC x c l
  · rw [if_pos (e.2 q), decide_eq_true q]; rfl
  · rw [if_neg (fun z => q (e.1 z)), decide_eq_false q]; rfl

open Classical in
theorem isClique_val {k : Nat} (hk : 5000 ≤ k) (x : Col) (c : Int) (l : List Int) (hl : l.length ≤ 1000) :
    (∃ e, e ≠ 0 ∧ impl_IsClique k x c l = some (false, e) ∧ spec_IsClique k x c l = some (false, e) ∧ ¬ (x.is ∧ (0 ≤ c ∧ c ≤ x.k - 1) ∧ inP x l ∧ inc l)) ∨
    (x.is ∧ (0 ≤ c ∧ c ≤ x.k - 1) ∧ inP x l ∧ inc l ∧ impl_IsClique k x c l = some (decide (isC x c l), 0) ∧ spec_IsClique k x c l = some (decide (isC x c l), 0)) := by
  obtain ⟨c1, c2⟩ := code_cases hk x
  obtain ⟨g1, g2, g3⟩ := given_cases hk x c
  unfold impl_IsClique spec_IsClique
  have hset := specSet_eq k x l (by omega) (by omega)
  by_cases h : x.is
  · have hcol := hasColour_val h c
    rw [if_pos h] at hset
    by_cases hc : 0 ≤ c ∧ c ≤ x.k - 1
    · have hcl : impl_IsClique_c1 k x c l = some (decide (inP x l ∧ inc l)) := by
        unfold impl_IsClique_c1
        rw [hcol, decide_eq_true hc, isSet_eq k x h l (by omega) (by omega)]
        simp
      by_cases hs : inP x l ∧ inc l
      · right
        have hr := inP_inR h.1.2 hs.1
        refine ⟨h, hc, hs.1, hs.2, ?_, ?_⟩
        · rw [hcl, decide_eq_true hs, (c1 h).1, implIsC hk x h.1 c l hl hr]; simp
        · rw [if_pos hs] at hset
          rw [g1 h hc, hset, bits_val hk l hl hr]
          simp only [Option.bind_some, decide_true, Bool.not_true, Bool.false_eq_true, if_false]
          rw [specIsC hk x h.1 c l hl hr hs.2]; rfl
      · left
        rw [if_neg hs] at hset
        rw [hcl, decide_eq_false hs, (c1 h).2, g1 h hc, hset]
        exact ⟨2, by decide, by simp, by simp, fun q => hs q.2.2⟩
    · left
      have hcl : impl_IsClique_c1 k x c l = some false := by
        unfold impl_IsClique_c1
        rw [hcol, decide_eq_false hc]
        simp
      rw [hcl, (c1 h).2, g2 h hc]
      exact ⟨2, by decide, by simp, by simp, fun q => hc q.2.1⟩
  · left
    have hc1 : ∃ b, impl_IsClique_c1 k x c l = some b ∨ impl_IsClique_c1 k x c l = none := by
      cases impl_IsClique_c1 k x c l with
      | none => exact ⟨true, .inr rfl⟩
      | some b => exact ⟨b, .inl rfl⟩
    have : impl_Colouring_code k x (impl_IsClique_c1 k x c l) = some 1 := by
      unfold impl_Colouring_code
      rw [isColouring_eq k (by omega)]
      simp [h]
    rw [this, g3 h]
    exact ⟨1, by decide, by simp, by simp, fun q => h q.1⟩

/-- A listed clique is one. -/
theorem cl_good {x : Col} (hx : x.is) {c : Int} {m : Nat} {l : List Int} (h : l ∈ cl (aB x c) m (pts x)) : inP x l ∧ inc l ∧ isC x c l ∧ l.length = m := by
  obtain ⟨h1, h2, h3⟩ := (mem_cl _ _ _ _).1 h
  have hpw : l.Pairwise (· < ·) := (ir_pw 0 x.p.toNat).sublist h1
  refine ⟨fun i h0 h4 => ?_, pw_inc hpw, fun a b hab hb => ?_, h3⟩
  · have hm : li l i ∈ pts x := h1.subset (by unfold li; exact getD_mem (by omega))
    unfold pts at hm
    rw [mem_ir] at hm
    have := hx.1; omega
  · rw [List.pairwise_iff_getElem] at h2
    have := h2 a b (by omega) hb hab
    have e1 : l.getD a 0 = l[a]'(by omega) := by simp [List.getD, show a < l.length by omega]
    have e2 : l.getD b 0 = l[b] := by simp [List.getD, hb]
    rw [e1, e2]; exact this
theorem isClique_good {k : Nat} (hk : 5000 ≤ k) {x : Col} (hx : x.is) {c : Int} (hc : 0 ≤ c ∧ c ≤ x.k - 1) {m : Nat} (hm : m ≤ 17) {l : List Int} (h : l ∈ cl (aB x c) m (pts x)) : impl_IsClique k x c l = some (true, 0) := by
  classical
  obtain ⟨g1, g2, g3, g4⟩ := cl_good hx h
  rcases isClique_val hk x c l (by omega) with ⟨e, _, _, _, q⟩ | ⟨_, _, _, _, q, _⟩
  · exact absurd ⟨hx, hc, g1, g2⟩ q
  · rw [q, decide_eq_true g3]
end Go.Proofs.Ytfoijbdnkkaceaa
