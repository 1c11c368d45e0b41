/- Plain laws: longest beginnings, by both sides. No conditions beyond those that each lemma states. -/
import Derived.Test.YtjcgphgipleccaaGreatPureExtF26
set_option linter.unusedVariables false
set_option linter.unusedSimpArgs false
namespace Go.Proofs.YtjcgphgipleccaaGreat
open Go Go.RowKit Ab

def begB (x : Col) (sizes : List Int) (m : Nat) : Prop := ∀ c : Nat, c < sizes.length → cl (aB x (c : Int)) (sizes.getD c 0).toNat (ir 0 m) = []
theorem begB_mono {x : Col} {sizes : List Int} {m n : Nat} (hmn : m ≤ n) (h : begB x sizes n) : begB x sizes m := fun c hc => by
  rw [cl_none]
  intro Z h1 h2 h3
  refine (cl_none.1 (h c hc)) Z ?_ h2 h3
  rw [ir_split hmn]
  exact h1.trans (List.sublist_append_left _ _)

theorem irG {n i : Nat} (h : i < n) : (ir 0 n).getD i 0 = (i : Int) := ir_get n i h

theorem part_okL {x : Col} (hp : 1 ≤ x.p ∧ x.p ≤ 17) {m : Nat} (hm : (m : Int) ≤ x.p) : okL x (ir 0 m) := by
  have hl : (ir 0 m).length = m := by rw [ir_length]; omega
  refine ⟨by omega, fun a ha => ?_, fun a b hab hb => ?_⟩
  · rw [irG (by omega)]; omega
  · rw [irG (by omega), irG (by omega)]; omega

theorem part_avoids {x : Col} (h : x.is) {sizes : List Int} {m : Nat} (hm1 : 1 ≤ m) (hm : (m : Int) ≤ x.p) : avoidsP (partC x (ir 0 m)) sizes ↔ begB x sizes m := by
  have hp := h.1
  have hk4 := h.2.1
  have hl : (ir 0 m).length = m := by rw [ir_length]; omega
  have hpp : (partC x (ir 0 m)).p = (m : Int) := by show (((ir 0 m).length : Nat) : Int) = m; rw [hl]
  have hpts : pts (partC x (ir 0 m)) = ir 0 m := by unfold pts; rw [hpp, Int.toNat_natCast]
  have hcc : ∀ a b : Nat, a < b → b < m → (partC x (ir 0 m)).cc a b = x.cc a b := fun a b hab hb => by
    have hc := is_cc h (a := a) (b := b) (by omega) (by omega) (by omega)
    have hg : x.cc ((ir 0 m).getD a 0) ((ir 0 m).getD b 0) = x.cc a b := by rw [irG (by omega), irG hb]
    unfold partC
    rw [mkC_cc (by omega) _ _ hab (by omega) (by rw [hg]; omega), hg]
  have hsame : ∀ (c : Nat) (Z : List Int), Z.Sublist (ir 0 m) → (Z.Pairwise (fun a b => aB (partC x (ir 0 m)) c a b = true) ↔ Z.Pairwise (fun a b => aB x c a b = true)) := fun c Z hZ => by
    have hlt : Z.Pairwise (· < ·) := pair_lt hZ ir_pair
    have key : ∀ a b : Int, a ∈ Z → b ∈ Z → a < b → aB (partC x (ir 0 m)) c a b = aB x c a b := fun a b ha hb hab => by
      have h1 := mem_ir.1 (hZ.subset ha)
      have h2 := mem_ir.1 (hZ.subset hb)
      obtain ⟨a, rfl⟩ : ∃ i : Nat, a = i := ⟨a.toNat, by omega⟩
      obtain ⟨b, rfl⟩ : ∃ i : Nat, b = i := ⟨b.toNat, by omega⟩
      unfold aB
      rw [hcc a b (by omega) (by omega)]
    constructor
    · intro q
      refine List.Pairwise.imp_of_mem (R := fun a b => a < b ∧ aB (partC x (ir 0 m)) c a b = true) (fun ha hb hh => ?_) (hlt.and q)
      rw [← key _ _ ha hb hh.1]; exact hh.2
    · intro q
      refine List.Pairwise.imp_of_mem (R := fun a b => a < b ∧ aB x c a b = true) (fun ha hb hh => ?_) (hlt.and q)
      rw [key _ _ ha hb hh.1]; exact hh.2
  unfold avoidsP begB
  rw [hpts]
  constructor
  · intro q c hc
    rw [cl_none]
    intro Z h1 h2 h3
    exact (cl_none.1 (q c hc)) Z h1 ((hsame c Z h1).2 h2) h3
  · intro q c hc
    rw [cl_none]
    intro Z h1 h2 h3
    exact (cl_none.1 (q c hc)) Z h1 ((hsame c Z h1).1 h2) h3

open Classical in
noncomputable def lb (x : Col) (sizes : List Int) : Nat → Nat
  | 0 => 0
  | n + 1 => if begB x sizes (n + 1) then n + 1 else lb x sizes n
theorem lb_le (x : Col) (sizes : List Int) : ∀ n, lb x sizes n ≤ n
  | 0 => by rw [lb]; omega
  | n + 1 => by
    rw [lb]
    split
    · omega
    · have := lb_le x sizes n; omega
theorem lb_B (x : Col) (sizes : List Int) : ∀ n, lb x sizes n = 0 ∨ begB x sizes (lb x sizes n)
  | 0 => .inl (by rw [lb])
  | n + 1 => by
    rw [lb]
    split
    · exact .inr (by assumption)
    · exact lb_B x sizes n
theorem lb_no (x : Col) (sizes : List Int) : ∀ n j, lb x sizes n < j → j ≤ n → ¬ begB x sizes j
  | 0, j, h1, h2 => by rw [lb] at h1; omega
  | n + 1, j, h1, h2 => by
    rw [lb] at h1
    split at h1
    · omega
    · rename_i hb
      by_cases e : j = n + 1
      · subst e; exact hb
      · exact lb_no x sizes n j h1 (by omega)

theorem ir_snoc (m : Nat) : ir 0 (m + 1) = ir 0 m ++ [(m : Int)] := by
  rw [ir_split (show m ≤ m + 1 by omega)]
  congr 1
  rw [ir_next (show m < m + 1 by omega), ir_end (Nat.le_refl _)]

theorem long_val {k : Nat} (hk : 5000 ≤ k) (x : Col) (sizes : List Int) (hl : sizes.length ≤ 1000) : ∃ v c, impl_LongestBeginning k x sizes = some (v, c) ∧ spec_LongestBeginning k x sizes = some (v, c) ∧
    (c = 0 → ∃ b, impl_AvoidsSizes k x sizes = some (b, 0) ∧ b = decide (v = x.p)) := by
  classical
  unfold impl_LongestBeginning spec_LongestBeginning impl_always
  obtain ⟨s1, s2⟩ := sizesCode_val hk x sizes hl true
  rw [specCode_val hk x sizes hl, Option.bind_some]
  by_cases h : x.is
  · by_cases hz : szOK x sizes
    · have e0 : eC x sizes = 0 := by unfold eC; rw [if_pos h, if_pos hz]
      have e1 : impl_Colouring_sizesCode k x sizes (some true) = some 0 := by rw [s2 h, if_pos ⟨hz, rfl⟩]
      obtain ⟨hp, hk4⟩ := is_range h
      have hpart : ∀ m : Nat, 1 ≤ m → (m : Int) ≤ x.p → (partC x (ir 0 m)).is := fun m h1 h2 => by
        have hll : (ir 0 m).length = m := by rw [ir_length]; omega
        refine mkC_is (by omega) (by omega) hk4 _ fun a b hab hb => ?_
        rw [irG (by omega), irG (by omega)]
        exact is_cc h (a := a) (b := b) (by omega) (by omega) (by omega)
      have himpl : ∀ (n f : Nat), n < f → (n : Int) ≤ x.p → impl_LongestBeginning_l0 k x sizes f n = some (if lb x sizes n = 0 then .inl () else .inr ((lb x sizes n : Int), 0)) := by
        intro n
        induction n with
        | zero =>
          intro f hf _
          obtain ⟨f, rfl⟩ : ∃ q, f = q + 1 := ⟨f - 1, by omega⟩
          rw [impl_LongestBeginning_l0, if_neg (by simp), lb]; rfl
        | succ n ih =>
          intro f hf hn
          obtain ⟨f, rfl⟩ : ∃ q, f = q + 1 := ⟨f - 1, by omega⟩
          have hth := that_val (k := k) x hp (by omega) (fun a0 => some (impl_LongestBeginning_c1 a0 ((n + 1 : Nat) : Int))) (fun a => decide (a < ((n + 1 : Nat) : Int))) (fun a _ => rfl)
          have hfil : (ir 0 x.p.toNat).filter (fun a : Int => decide (a < ((n + 1 : Nat) : Int))) = ir 0 (n + 1) := by
            rw [ir_split (show n + 1 ≤ x.p.toNat by omega), List.filter_append]
            have a1 : (ir 0 (n + 1)).filter (fun z : Int => decide (z < ((n + 1 : Nat) : Int))) = ir 0 (n + 1) := List.filter_eq_self.2 fun z hz => decide_eq_true (by have := mem_ir.1 hz; omega)
            have a2 : (ir (n + 1) x.p.toNat).filter (fun z : Int => decide (z < ((n + 1 : Nat) : Int))) = [] := List.filter_eq_nil_iff.2 fun z hz => by have := mem_ir.1 hz; simp; omega
            rw [a1, a2, List.append_nil]
          rw [hfil] at hth
          have hpi := hpart (n + 1) (by omega) hn
          have hav := avoids_loop hk (partC x (ir 0 (n + 1))) hpi.1 sizes hz.2 hl
          have hiff := part_avoids h (sizes := sizes) (show 1 ≤ n + 1 by omega) hn
          have hw : w64 (((n + 1 : Nat) : Int) - 1) = (n : Int) := by rw [w64_id (by omega)]; omega
          rw [impl_LongestBeginning_l0, if_pos (decide_eq_true (by omega)), hth, Option.bind_some, part_val hp (part_okL hp hn) (by omega), Option.bind_some, hav, Option.bind_some, hw, lb]
          by_cases hb : begB x sizes (n + 1)
          · rw [decide_eq_true (hiff.2 hb), if_pos rfl, if_pos hb, if_neg (by omega)]
          · rw [decide_eq_false (fun q => hb (hiff.1 q)), if_neg (by simp), if_neg hb, ih f (by omega) (by omega)]
      have hspec : ∀ (d m f : Nat), m + d = x.p.toNat → d < f → (m = 0 ∨ begB x sizes m) → spec_LongestBeginning_l0 k x sizes f m (ir 0 m) = some (if lb x sizes x.p.toNat = x.p.toNat then .inl () else .inr ((lb x sizes x.p.toNat : Int), 0)) := by
        intro d
        induction d with
        | zero =>
          intro m f hm hf hb
          obtain ⟨f, rfl⟩ : ∃ q, f = q + 1 := ⟨f - 1, by omega⟩
          have hmp : m = x.p.toNat := by omega
          have hlb : lb x sizes x.p.toNat = x.p.toNat := by
            have h1 := lb_le x sizes x.p.toNat
            rcases hb with hb | hb
            · omega
            · rcases Nat.lt_or_ge (lb x sizes x.p.toNat) x.p.toNat with h2 | h2
              · exact absurd (hmp ▸ hb) (lb_no x sizes _ _ h2 (Nat.le_refl _))
              · omega
          rw [spec_LongestBeginning_l0, if_neg (by simp only [decide_eq_true_eq]; omega), if_pos hlb]
        | succ d ih =>
          intro m f hm hf hb
          obtain ⟨f, rfl⟩ : ∃ q, f = q + 1 := ⟨f - 1, by omega⟩
          have hll : (ir 0 m).length = m := by rw [ir_length]; omega
          have hpi := hpart (m + 1) (by omega) (by omega)
          obtain ⟨b, eb, hbb⟩ := specAvoids_val hk (partC x (ir 0 (m + 1))) hpi.1 sizes (show szOK (partC x (ir 0 (m + 1))) sizes from hz) hpi.2.1
          have hiff := part_avoids h (sizes := sizes) (show 1 ≤ m + 1 by omega) (by omega)
          have hw : w64 ((m : Int) + 1) = ((m + 1 : Nat) : Int) := by rw [w64_id (by omega)]; omega
          have hl1 : (ir 0 (m + 1)).length = m + 1 := by rw [ir_length]; omega
          rw [spec_LongestBeginning_l0, if_pos (decide_eq_true (by omega)), if_pos (by simp only [List.length_singleton]; omega), ← ir_snoc, specPart_val hp (part_okL hp (by omega)) (by omega) (by omega), Option.bind_some, eb, Option.bind_some, hw]
          by_cases hB : begB x sizes (m + 1)
          · obtain rfl := hbb.2 (hiff.2 hB)
            rw [if_neg (by simp), ih (m + 1) f (by omega) (by omega) (.inr hB)]
          · have hbf : b = false := by
              cases b with
              | false => rfl
              | true => exact absurd (hiff.1 (hbb.1 rfl)) hB
            subst hbf
            have h1 := lb_le x sizes x.p.toNat
            have hle : lb x sizes x.p.toNat ≤ m := by
              rcases Nat.lt_or_ge m (lb x sizes x.p.toNat) with h2 | h2
              · rcases lb_B x sizes x.p.toNat with h3 | h3
                · omega
                · exact absurd (begB_mono (by omega) h3) hB
              · exact h2
            have hge : m ≤ lb x sizes x.p.toNat := by
              rcases Nat.lt_or_ge (lb x sizes x.p.toNat) m with h2 | h2
              · rcases hb with hb | hb
                · omega
                · exact absurd hb (lb_no x sizes _ _ h2 (by omega))
              · exact h2
            have : lb x sizes x.p.toNat = m := by omega
            rw [if_pos (by simp), this, if_neg (by omega)]
      have hpn : ((x.p.toNat : Nat) : Int) = x.p := by omega
      have hi := himpl x.p.toNat k (by omega) (by omega)
      have hs := hspec x.p.toNat 0 k (by omega) (by omega) (.inl rfl)
      rw [hpn] at hi
      rw [show ((0 : Nat) : Int) = 0 from rfl, show ir 0 0 = [] from rfl] at hs
      rw [e1, e0, Option.bind_some, if_neg (by simp), if_neg (by simp), hi, hs]
      have hav := (implAvoids_val hk x sizes hl).2.2 h hz
      refine ⟨(lb x sizes x.p.toNat : Int), 0, ?_, ?_, fun _ => ⟨_, hav, ?_⟩⟩
      · by_cases q : lb x sizes x.p.toNat = 0
        · rw [if_pos q, q]; rfl
        · rw [if_neg q]; rfl
      · by_cases q : lb x sizes x.p.toNat = x.p.toNat
        · rw [if_pos q, q, hpn]; rfl
        · rw [if_neg q]; rfl
      · apply decide_eq_decide.2
        show begB x sizes x.p.toNat ↔ _
        constructor
        · intro hB
          have h1 := lb_le x sizes x.p.toNat
          rcases Nat.lt_or_ge (lb x sizes x.p.toNat) x.p.toNat with h2 | h2
          · exact absurd hB (lb_no x sizes _ _ h2 (Nat.le_refl _))
          · omega
        · intro q
          rcases lb_B x sizes x.p.toNat with h3 | h3
          · omega
          · rw [show lb x sizes x.p.toNat = x.p.toNat by omega] at h3
            exact h3
    · have e0 : eC x sizes = 2 := by unfold eC; rw [if_pos h, if_neg hz]
      have e1 : impl_Colouring_sizesCode k x sizes (some true) = some 2 := by rw [s2 h, if_neg (fun q => hz q.1)]
      rw [e1, e0]
      exact ⟨0, 2, by simp, by simp, fun q => by omega⟩
  · have e0 : eC x sizes = 1 := by unfold eC; rw [if_neg h]
    rw [s1 h, e0]
    exact ⟨0, 1, by simp, by simp, fun q => by omega⟩
end Go.Proofs.YtjcgphgipleccaaGreat
