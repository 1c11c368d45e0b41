/- Plain laws, collected out of own texts. No conditions beyond those that each lemma states. -/
import Derived.Test.YtfoijbdnkkaceaaPKit
import Derived.Test.YtfoijbdnkkaceaaPBits
import Derived.Test.YtfoijbdnkkaceaaPureClqS20
import Derived.Test.YtfoijbdnkkaceaaPureClqG20
import Derived.Test.YtfoijbdnkkaceaaPureLoop20
set_option linter.unusedVariables false
set_option linter.unusedSimpArgs false
namespace Go.Proofs.Ytfoijbdnkkaceaa
open Go Go.RowKit Ab

theorem code_cases {k : Nat} (hk : 5000 ≤ k) (x : Col) : (x.is → impl_Colouring_code k x (some true) = some 0 ∧ impl_Colouring_code k x (some false) = some 2) ∧ (¬ x.is → ∀ b, impl_Colouring_code k x (some b) = some 1) := by
  unfold impl_Colouring_code
  rw [isColouring_eq k (by omega)]
  constructor
  · intro h; simp [h]
  · intro h b; simp [h]

theorem given_cases {k : Nat} (hk : 5000 ≤ k) (x : Col) (c : Int) : (x.is → 0 ≤ c ∧ c ≤ x.k - 1 → spec_l01Given k x c [] = some 0) ∧ (x.is → ¬ (0 ≤ c ∧ c ≤ x.k - 1) → spec_l01Given k x c [] = some 2) ∧ (¬ x.is → spec_l01Given k x c [] = some 1) := by
  classical
  have hin : inP x [] := fun i h0 h1 => by simp at h1; omega
  have hg := specGiven_eq k x c [] (by simp; omega) (by simp)
  refine ⟨fun h hc => ?_, fun h hc => ?_, fun h => ?_⟩
  · rw [if_pos h, if_pos ⟨hc, hin⟩] at hg; exact hg
  · rw [if_pos h, if_neg (fun q => hc q.1)] at hg; exact hg
  · rw [if_neg h] at hg; exact hg

theorem hasColour_val {x : Col} (h : x.is) (c : Int) : impl_Colouring_hasColour x c = decide (0 ≤ c ∧ c ≤ x.k - 1) := by
  unfold impl_Colouring_hasColour
  have := h.2.1
  rw [in_eq, w64_id (by omega)]

theorem acl_flt (x : Col) (c : Int) (m : Nat) : (acl x c).filter (fun l => decide ((l.length : Int) = (m : Int))) = cl (aB x c) m (pts x) := by
  rw [← acl_filter]
  apply List.filter_congr
  intro l _
  by_cases h : l.length = m
  · simp [h]
  · have : ¬ (l.length : Int) = m := by omega
    simp [h, this]

theorem cl_count (x : Col) (c : Int) (m : Nat) : ((acl x c).countP fun l => decide ((l.length : Int) = (m : Int)) && true) = (cl (aB x c) m (pts x)).length := by
  rw [← acl_flt, List.countP_eq_length_filter]
  congr 1
  apply List.filter_congr
  intro l _; simp

/-- The first one of the greatest cliques. -/
def isGrt (x : Col) (c : Int) (w : Nat) (l : List Int) : Prop := 1 ≤ w ∧ w ≤ 17 ∧ (cl (aB x c) w (pts x)).head? = some l ∧ cl (aB x c) (w + 1) (pts x) = []

theorem pts_len (x : Col) (hp : 1 ≤ x.p ∧ x.p ≤ 17) : 1 ≤ (pts x).length ∧ (pts x).length ≤ 17 := by unfold pts; rw [ir_length]; omega

theorem pts_cons (x : Col) (hp : 1 ≤ x.p ∧ x.p ≤ 17) : ∃ t, pts x = 0 :: t := ⟨ir 1 x.p.toNat, by unfold pts; rw [ir_next (by omega)]; rfl⟩

theorem cl_ne_le (x : Col) (hp : 1 ≤ x.p ∧ x.p ≤ 17) (c : Int) (m : Nat) (h : cl (aB x c) m (pts x) ≠ []) : m ≤ 17 := by
  rcases Nat.lt_or_ge (pts x).length m with q | q
  · exact absurd (cl_short _ _ m q) h
  · have := pts_len x hp; omega

theorem grt_is {x : Col} {c : Int} {w : Nat} {l : List Int} (h : isGrt x c w l) : grt (acl x c) [] = l := by
  obtain ⟨h1, _, h3, h4⟩ := h
  refine grt_first w (acl x c) [] l (fun a ha => ?_) (by simp; omega) ?_
  · rcases Nat.lt_or_ge w a.length with q | q
    · exfalso
      have hm := (mem_ac (aB x c) (pts x) a).1 ha
      have hin : a ∈ cl (aB x c) a.length (pts x) := (mem_cl _ _ _ _).2 ⟨hm.1, hm.2, rfl⟩
      have : cl (aB x c) (w + 1) (pts x) ≠ [] := cl_down _ _ (w + 1) (a.length - (w + 1)) (by
        rw [show w + 1 + (a.length - (w + 1)) = a.length by omega]
        intro e; rw [e] at hin; simp at hin)
      exact this h4
    · exact q
  · rw [← List.head?_filter, acl_filter]; exact h3

theorem specGreatest_val {k : Nat} (hk : 5000 ≤ k) (x : Col) (hp : 1 ≤ x.p ∧ x.p ≤ 17) (c : Int) : ∃ w l, spec_l02Greatest k x c = some l ∧ isGrt x c w l := by
  unfold spec_l02Greatest
  have loop : ∀ (d w : Nat) (l : List Int) (f : Nat), 18 - w = d → d < f → 1 ≤ w → (cl (aB x c) w (pts x)).head? = some l → ∃ w' l', spec_l02Greatest_l0 k x c f l = some l' ∧ isGrt x c w' l' := by
    intro d
    induction d with
    | zero =>
      intro w l f hd hf hw hl
      exfalso
      have : cl (aB x c) w (pts x) ≠ [] := fun e => by rw [e] at hl; simp at hl
      have := cl_ne_le x hp c w this
      omega
    | succ d ih =>
      intro w l f hd hf hw hl
      obtain ⟨f, rfl⟩ : ∃ q, f = q + 1 := ⟨f - 1, by omega⟩
      have hne : cl (aB x c) w (pts x) ≠ [] := fun e => by rw [e] at hl; simp at hl
      have hw17 := cl_ne_le x hp c w hne
      have hlen : l.length = w := cl_len _ _ _ l (List.mem_of_mem_head? (by rw [hl]; rfl))
      have hsp := spec_list x hp c hk (w + 1) 1 (by omega) (by omega) (by omega)
      rw [spec_l02Greatest_l0, hlen, w64_id (by omega), show ((w : Int) + 1) = ((w + 1 : Nat) : Int) by omega, show (1 : Int) = ((1 : Nat) : Int) from rfl, hsp]
      simp only [Option.bind_some]
      cases hq : cl (aB x c) (w + 1) (pts x) with
      | nil => exact ⟨w, l, by simp, hw, hw17, hl, hq⟩
      | cons a t =>
        have : (((a :: t).take 1).length : Int) ≠ 0 := by simp
        have h0 : (0 : Int) ≤ 0 ∧ (0 : Int) < (((a :: t).take 1).length : Int) := by simp
        rw [decide_eq_false this, if_neg (by simp), if_pos h0]
        have hg : ((a :: t).take 1).getD (0 : Int).toNat [] = a := by simp
        rw [hg]
        exact ih (w + 1) a f (by omega) (by omega) (by omega) (by rw [hq]; rfl)
  obtain ⟨t, ht⟩ := pts_cons x hp
  obtain ⟨w, l, e, h⟩ := loop 17 1 [0] k (by omega) (by omega) (by omega) (by rw [ht, cl_cons, cl_zero]; rfl)
  exact ⟨w, l, by rw [e]; rfl, h⟩

theorem getD_el {l : List Int} {i : Nat} (h : i < l.length) : l.getD i 0 = l[i] := by simp [List.getD, h]

theorem getD_mem {l : List Int} {i : Nat} (h : i < l.length) : l.getD i 0 ∈ l := by
  have e : l.getD i 0 = l[i] := by simp [List.getD, h]
  rw [e]; exact List.getElem_mem h

/-- Sorted lists of points are the points of their bits. -/
def bitsOf : List Int → Nat
  | [] => 0
  | a :: t => 2 ^ a.toNat ||| bitsOf t

theorem bitsOf_test (l : List Int) (j : Nat) (h : ∀ z ∈ l, 0 ≤ z) : (bitsOf l).testBit j = decide ((j : Int) ∈ l) := by
  induction l with
  | nil => simp [bitsOf]
  | cons a t ih =>
    rw [bitsOf, Nat.testBit_or, Nat.testBit_two_pow, ih fun z hz => h z (List.mem_cons_of_mem _ hz)]
    have ha := h a (List.mem_cons_self ..)
    by_cases e : a.toNat = j
    · have : (j : Int) = a := by omega
      simp [e, this]
    · have : ¬ (j : Int) = a := by omega
      simp [e, this]

theorem bitsOf_snoc (l : List Int) (a : Int) : bitsOf (l ++ [a]) = bitsOf l ||| 2 ^ a.toNat := by
  induction l with
  | nil => simp [bitsOf]
  | cons b t ih => rw [List.cons_append, bitsOf, ih, bitsOf, Nat.or_assoc]

theorem bitsOf_lt (l : List Int) (h : inR l) : bitsOf l < 2 ^ 17 := bits_lt fun i hi => by
  rw [bitsOf_test l i fun z hz => (h z hz).1]
  simp only [decide_eq_false_iff_not]
  intro q
  have := h _ q
  omega

theorem pw_ext' : ∀ l l' : List Int, l.Pairwise (· < ·) → l'.Pairwise (· < ·) → (∀ z, z ∈ l ↔ z ∈ l') → l = l'
  | [], [], _, _, _ => rfl
  | [], b :: t, _, _, h => by have := (h b).2 (List.mem_cons_self ..); simp at this
  | a :: t, [], _, _, h => by have := (h a).1 (List.mem_cons_self ..); simp at this
  | a :: t, b :: u, h1, h2, h => by
    rw [List.pairwise_cons] at h1 h2
    have hab : a = b := by
      rcases List.mem_cons.1 ((h a).1 (List.mem_cons_self ..)) with e | e
      · exact e
      · rcases List.mem_cons.1 ((h b).2 (List.mem_cons_self ..)) with e' | e'
        · exact e'.symm
        · have := h2.1 a e; have := h1.1 b e'; omega
    subst hab
    congr 1
    refine pw_ext' t u h1.2 h2.2 fun z => ?_
    constructor
    · intro hz
      rcases List.mem_cons.1 ((h z).1 (List.mem_cons_of_mem _ hz)) with e | e
      · have := h1.1 z hz; omega
      · exact e
    · intro hz
      rcases List.mem_cons.1 ((h z).2 (List.mem_cons_of_mem _ hz)) with e | e
      · have := h2.1 z hz; omega
      · exact e

theorem inc_pw {l : List Int} (h : inc l) : l.Pairwise (· < ·) := by
  rw [List.pairwise_iff_getElem]
  intro i j hi hj hij
  have := inc_at h (i := i) (j := j) (by omega) (by omega) (by omega)
  unfold li at this
  simp only [Int.toNat_natCast] at this
  have e1 : l.getD i 0 = l[i] := by simp [List.getD, hi]
  have e2 : l.getD j 0 = l[j] := by simp [List.getD, hj]
  rw [e1, e2] at this
  exact this

theorem pw_inc {l : List Int} (h : l.Pairwise (· < ·)) : inc l := by
  intro i h0 h1
  rw [List.pairwise_iff_getElem] at h
  have := h (i - 1).toNat i.toNat (by omega) (by omega) (by omega)
  unfold li
  have e1 : l.getD (i - 1).toNat 0 = l[(i - 1).toNat]'(by omega) := getD_el _
  have e2 : l.getD i.toNat 0 = l[i.toNat]'(by omega) := by simp [List.getD, show i.toNat < l.length by omega]
  rw [e1, e2]
  exact this

theorem points_bits {k : Nat} (hk : 5000 ≤ k) (l : List Int) (h : inR l) (hi : inc l) : spec_l01Points k ((bitsOf l : Nat) : Int) = some l := by
  rw [points_eq (bitsOf l) (lt63 (bitsOf_lt l h)) k (by omega)]
  congr 1
  refine pw_ext' _ _ (pick_pw _ _) (inc_pw hi) fun z => ?_
  rw [pick_mem]
  constructor
  · rintro ⟨v, rfl, _, hv⟩
    rw [bitsOf_test l v fun z hz => (h z hz).1] at hv
    simpa using hv
  · intro hz
    have := h z hz
    refine ⟨z.toNat, by omega, by omega, ?_⟩
    rw [bitsOf_test l _ fun z hz => (h z hz).1]
    have e : ((z.toNat : Nat) : Int) = z := by omega
    rw [e]; simpa using hz

end Go.Proofs.Ytfoijbdnkkaceaa
