/- Plain laws: extensions that are put in avoid sizes; whether a list is an extension; longest beginnings. No conditions beyond those that each lemma states. -/
import Derived.Test.YtjcgphgipleccaaGreatPureExtE26
set_option linter.unusedVariables false
set_option linter.unusedSimpArgs false
namespace Go.Proofs.YtjcgphgipleccaaGreat
open Go Go.RowKit Ab

theorem cl_none {adj : Int → Int → Bool} {m : Nat} {l : List Int} : cl adj m l = [] ↔ ∀ Z : List Int, Z.Sublist l → Z.Pairwise (fun a b => adj a b = true) → Z.length ≠ m := by
  rw [List.eq_nil_iff_forall_not_mem]
  constructor
  · intro h Z h1 h2 h3
    exact h Z ((mem_cl _ _ _ _).2 ⟨h1, h2, h3⟩)
  · intro h Z hZ
    obtain ⟨h1, h2, h3⟩ := (mem_cl _ _ _ _).1 hZ
    exact h Z h1 h2 h3

/-- What a list of extensions went through. -/
theorem exts_ok {K : Nat} {ok : List Int → Nat → Bool} : ∀ (n : Nat) (l e : List Int), e ∈ exts K ok n l → e.take l.length = l ∧ ∀ i, l.length ≤ i → i < e.length → ∃ c : Nat, c < K ∧ e.getD i 0 = (c : Int) ∧ ok (e.take i) c = true := by
  intro n
  induction n with
  | zero =>
    intro l e he
    rw [exts_zero] at he
    simp at he
    subst he
    exact ⟨by simp, fun i h1 h2 => by omega⟩
  | succ n ih =>
    intro l e he
    rw [exts] at he
    obtain ⟨c, hc0, hc⟩ := List.mem_flatMap.1 he
    have hcK := List.mem_range.1 hc0
    split at hc
    · rename_i hok
      obtain ⟨h1, h2⟩ := ih _ e hc
      have hlen : (l ++ [(c : Int)]).length = l.length + 1 := by simp
      rw [hlen] at h1 h2
      have ht : e.take l.length = l := by
        have e3 : (e.take (l.length + 1)).take l.length = (l ++ [(c : Int)]).take l.length := by rw [h1]
        rw [List.take_take, show min l.length (l.length + 1) = l.length by omega] at e3
        rw [e3]; simp
      refine ⟨ht, fun i hi1 hi2 => ?_⟩
      by_cases hi : i = l.length
      · subst hi
        refine ⟨c, hcK, ?_, by rw [ht]; exact hok⟩
        have e3 : (e.take (l.length + 1)).getD l.length 0 = (l ++ [(c : Int)]).getD l.length 0 := by rw [h1]
        have e4 : (e.take (l.length + 1)).getD l.length 0 = e.getD l.length 0 := by simp [List.getD, List.getElem?_take]
        rw [← e4, e3]
        simp [List.getD]
      · exact h2 i (by omega) hi2
    · simp at hc

theorem ir_pair {m : Nat} : (ir 0 m).Pairwise (· < ·) := ir_pw 0 m

theorem put_cc {x : Col} (h : x.is) (hp : x.p < 17) {l : List Int} (hl : (l.length : Int) = x.p) (hr : ∀ z ∈ l, 0 ≤ z ∧ z < x.k) {a b : Nat} (hab : a < b) :
    ((b : Int) < x.p → (putC x l).cc a b = x.cc a b) ∧ ((b : Int) = x.p → (putC x l).cc a b = l.getD a 0) := by
  have hpr := h.1
  have hk4 := h.2.1
  constructor
  · intro hb
    have hc := is_cc h (a := a) (b := b) (by omega) hb (by omega)
    unfold putC
    rw [mkC_cc (by omega) _ _ hab (by omega) (by rw [if_neg (by omega)]; omega), if_neg (by omega)]
  · intro hb
    have hc := hr (l.getD a 0) (mem_getD.2 ⟨a, by omega, rfl⟩)
    unfold putC
    rw [mkC_cc (by omega) _ _ hab (by omega) (by rw [if_pos hb]; omega), if_pos hb]

theorem pts_put (x : Col) (hp : 1 ≤ x.p) (l : List Int) : pts (putC x l) = pts x ++ [x.p] := by
  have e : (putC x l).p = x.p + 1 := by show ((x.p.toNat + 1 : Nat) : Int) = _; omega
  unfold pts
  rw [e, show (x.p + 1).toNat = x.p.toNat + 1 by omega, ir_split (show x.p.toNat ≤ x.p.toNat + 1 by omega)]
  congr 1
  rw [ir_next (show x.p.toNat < x.p.toNat + 1 by omega), ir_end (Nat.le_refl _), show ((x.p.toNat : Nat) : Int) = x.p by omega]

theorem pair_lt {Z l : List Int} (hs : Z.Sublist l) (hl : l.Pairwise (· < ·)) : Z.Pairwise (· < ·) := hl.sublist hs

theorem ext_avoids {x : Col} (h : x.is) (hp16 : x.p < 17) {sizes : List Int} (hz : szOK x sizes) (ha : avoidsP x sizes) {e : List Int} (he : e ∈ EX x sizes) : avoidsP (putC x e) sizes := by
  have hpr := h.1
  have hk4 := h.2.1
  have hlen := EX_len e he
  obtain ⟨_, hok⟩ := exts_ok _ _ e he
  have hrange := exts_range (K := x.k.toNat) (ok := okX x sizes) x.p.toNat [] (fun z hz => by simp at hz) e he
  have hr : ∀ z ∈ e, 0 ≤ z ∧ z < x.k := fun z hz => by have := hrange z hz; omega
  have hel : (e.length : Int) = x.p := by omega
  intro c hc
  rw [cl_none, pts_put x hpr.1]
  intro Z hZ hpw hm
  have hsz := hz.2 _ (mem_getD.2 ⟨c, hc, rfl⟩)
  obtain ⟨Z1, W, rfl, hZ1, hW⟩ := List.sublist_append_iff.1 hZ
  have hmem1 : ∀ z ∈ Z1, 0 ≤ z ∧ z < x.p := fun z hz => by
    have := mem_ir.1 (hZ1.subset hz)
    omega
  have hlt1 : Z1.Pairwise (· < ·) := pair_lt hZ1 ir_pair
  -- inside, the colouring is the old one
  have hold : ∀ a b : Int, a ∈ Z1 → b ∈ Z1 → a < b → aB (putC x e) c a b = true → aB x c a b = true := fun a b ha hb hab hq => by
    have h1 := hmem1 a ha
    have h2 := hmem1 b hb
    obtain ⟨a, rfl⟩ : ∃ i : Nat, a = i := ⟨a.toNat, by omega⟩
    obtain ⟨b, rfl⟩ : ∃ i : Nat, b = i := ⟨b.toNat, by omega⟩
    unfold aB at hq ⊢
    rw [(put_cc h hp16 hel hr (show a < b by omega)).1 (by omega)] at hq
    exact hq
  have hin : Z1.Pairwise (fun a b => aB x c a b = true) := by
    have hq := (List.pairwise_append.1 hpw).1
    refine List.Pairwise.imp_of_mem (R := fun a b => a < b ∧ aB (putC x e) c a b = true) (fun ha hb hh => hold _ _ ha hb hh.1 hh.2) ?_
    exact (hlt1.and hq)
  rcases (show W = [] ∨ W = [x.p] by
    cases W with
    | nil => exact .inl rfl
    | cons w t =>
      right
      have h1 := hW.length_le
      simp at h1
      subst h1
      have := hW.subset (List.mem_cons_self ..)
      simp at this
      rw [this]) with rfl | rfl
  · -- no new point
    rw [List.append_nil] at hm
    exact (cl_none.1 (ha c hc)) Z1 hZ1 hin hm
  · -- the new point, and others
    have hq := (List.pairwise_append.1 hpw).2.2
    have hcol : ∀ z ∈ Z1, e.getD z.toNat 0 = (c : Int) := fun z hz => by
      have h1 := hmem1 z hz
      have h2 := hq z hz x.p (by simp)
      obtain ⟨a, rfl⟩ : ∃ i : Nat, z = i := ⟨z.toNat, by omega⟩
      unfold aB at h2
      have h3 := (of_decide_eq_true h2).2
      have h4 := (put_cc h hp16 hel hr (a := a) (b := x.p.toNat) (by omega)).2 (by omega)
      rw [show ((x.p.toNat : Nat) : Int) = x.p by omega] at h4
      rw [h4] at h3
      rw [Int.toNat_natCast]; exact h3
    have hml : Z1.length + 1 = (sizes.getD c 0).toNat := by simpa using hm
    rcases List.eq_nil_or_concat Z1 with rfl | ⟨Z2, i, rfl⟩
    · have : sizes.getD c 0 = 1 := by rw [List.length_nil] at hml; omega
      exact no_one hpr.1 ha _ (mem_getD.2 ⟨c, hc, rfl⟩) this
    · rw [List.concat_eq_append] at *
      have hi := hmem1 i (by simp)
      obtain ⟨i, rfl⟩ : ∃ j : Nat, i = j := ⟨i.toNat, by omega⟩
      obtain ⟨d, hd, hd2, hd3⟩ := hok i (by simp) (by omega)
      have hcd : d = c := by
        have := hcol i (by simp)
        rw [Int.toNat_natCast, hd2] at this
        omega
      subst hcd
      unfold okX at hd3
      have hno := cl_none.1 (of_decide_eq_true hd3)
      have hti : (e.take i).length = i := by simp; omega
      have hlt2 : ∀ z ∈ Z2, z < (i : Int) := fun z hz => (List.pairwise_append.1 hlt1).2.2 z hz i (by simp)
      refine hno Z2 ?_ (List.pairwise_append.1 hin).1 ?_
      · unfold nearL
        rw [hti]
        have hsub : Z2.Sublist (ir 0 x.p.toNat) := (List.sublist_append_left Z2 _).trans hZ1
        have hsub2 : Z2.Sublist (ir 0 i) := by
          rw [ir_split (show i ≤ x.p.toNat by omega)] at hsub
          have h1 := hsub.filter (fun z : Int => decide (z < (i : Int)))
          rw [List.filter_append] at h1
          have e1 : Z2.filter (fun z : Int => decide (z < (i : Int))) = Z2 := List.filter_eq_self.2 fun z hz => decide_eq_true (hlt2 z hz)
          have e2 : (ir 0 i).filter (fun z : Int => decide (z < (i : Int))) = ir 0 i := List.filter_eq_self.2 fun z hz => decide_eq_true (by have := mem_ir.1 hz; omega)
          have e3 : (ir i x.p.toNat).filter (fun z : Int => decide (z < (i : Int))) = [] := List.filter_eq_nil_iff.2 fun z hz => by have := mem_ir.1 hz; simp; omega
          rw [e1, e2, e3, List.append_nil] at h1
          exact h1
        have h1 := hsub2.filter (fun p : Int => decide ((e.take i).getD p.toNat 0 = (d : Int)) && aB x d p i)
        have e1 : Z2.filter (fun p : Int => decide ((e.take i).getD p.toNat 0 = (d : Int)) && aB x d p i) = Z2 := by
          refine List.filter_eq_self.2 fun z hz => ?_
          have h2 := hlt2 z hz
          have h3 := hmem1 z (by simp [hz])
          have h4 := hcol z (by simp [hz])
          have h5 := (List.pairwise_append.1 hin).2.2 z hz i (by simp)
          have e4 : (e.take i).getD z.toNat 0 = e.getD z.toNat 0 := by
            simp only [List.getD, List.getElem?_take]
            rw [if_pos (by omega)]
          rw [e4, decide_eq_true h4, h5]; rfl
        rw [e1] at h1
        exact h1
      · rw [List.length_append, List.length_singleton] at hml
        omega

/-! ### Whether a list is an extension -/
theorem rightB (k : Nat) (l : List Int) (p K : Int) (hk : l.length + 1 ≤ k) (hl : l.length ≤ 1000) (hK : 1 ≤ K ∧ K ≤ 4) : impl_areIn k l p 0 (w64 (K - 1)) = some (decide ((l.length : Int) = p ∧ ∀ z ∈ l, 0 ≤ z ∧ z ≤ K - 1)) := by
  rw [w64_id (by omega)]
  exact areIn_val k l p 0 (K - 1) hk (by omega)

theorem put_sz {x : Col} {sizes l : List Int} (h : szOK x sizes) : szOK (putC x l) sizes := h
theorem isExt_val {k : Nat} (hk : 5000 ≤ k) (x : Col) (sizes l : List Int) (hl : sizes.length ≤ 1000) (hl2 : l.length ≤ 1000) (hk0 : -100000 ≤ x.k ∧ x.k ≤ 100000) : ∃ b c, impl_IsExtension k x sizes l = some (b, c) ∧ spec_IsExtension k x sizes l = some (b, c) ∧
    (eS x sizes 16 = 0 → l ∈ EX x sizes → b = true ∧ c = 0) := by
  classical
  unfold impl_IsExtension impl_IsExtension_c1
  have hK : ∃ r : Bool, (impl_areIn k l x.p 0 (w64 (x.k - 1))).bind (fun r1 => some r1) = some r ∧ (r = true ↔ ((l.length : Int) = x.p ∧ ∀ z ∈ l, 0 ≤ z ∧ z ≤ x.k - 1)) := by
    rw [w64_id (by omega), areIn_val k l x.p 0 (x.k - 1) (by omega) (by omega)]
    exact ⟨_, rfl, by simp⟩
  obtain ⟨r, er, hr⟩ := hK
  rw [er]
  obtain ⟨s1, s2⟩ := sizesCode_val hk x sizes hl r
  have hin2 : (∀ z ∈ l, 0 ≤ z ∧ z ≤ x.k - 1) ↔ ∀ i : Int, 0 ≤ i → i < l.length → 0 ≤ li l i ∧ li l i ≤ x.k - 1 := by
    constructor
    · intro h i h0 h1
      exact h _ (mem_getD.2 ⟨i.toNat, by omega, rfl⟩)
    · intro h z hz
      obtain ⟨a, h1, h2⟩ := mem_getD.1 hz
      have := h a (by omega) (by omega)
      unfold li at this
      rw [Int.toNat_natCast, h2] at this
      exact this
  unfold impl_Colouring_extendingCode spec_IsExtension
  rw [specCode_val hk x sizes hl, Option.bind_some]
  by_cases h : x.is
  · obtain ⟨hp, hk4⟩ := is_range h
    have hex : ∀ q : eS x sizes 16 = 0, l ∈ EX x sizes → r = true := fun q he => by
      have h1 := EX_len l he
      have h2 := exts_range (K := x.k.toNat) (ok := okX x sizes) x.p.toNat [] (fun z hz => by simp at hz) l he
      exact hr.2 ⟨by omega, fun z hz => by have := h2 z hz; omega⟩
    rw [specAll_eq k l x.k (by omega) (by omega) (by omega)]
    by_cases hz : szOK x sizes
    · have e0 : eC x sizes = 0 := by unfold eC; rw [if_pos h, if_pos hz]
      obtain ⟨b, eb, hb⟩ := specAvoids_val hk x hp sizes hz hk4
      have ei := avoids_loop hk x hp sizes hz.2 hl
      by_cases hrr : r = true
      · have hr2 := hr.1 hrr
        have e1 : impl_Colouring_sizesCode k x sizes (some r) = some 0 := by rw [s2 h, if_pos ⟨hz, hrr⟩]
        rw [e1, Option.bind_some, e0, eb, ei, decide_eq_true (hin2.1 hr2.2), decide_eq_true hr2.1]
        by_cases ha : avoidsP x sizes
        · obtain rfl := hb.2 ha
          by_cases h16 : 16 < x.p
          · have h17 : x.p = 17 := by omega
            refine ⟨false, 3, ?_, ?_, fun q => by have := (eS_zero q).2.2.2; omega⟩
            · simp [ha, h16]
            · simp [letO, h17]
          · have h17 : ¬ x.p = 17 := by omega
            have hyis := put_is h (by omega) hr2.1 (fun a ha => by
              have := hr2.2 _ (mem_getD.2 ⟨a, ha, rfl⟩)
              omega)
            obtain ⟨hyp, hyk⟩ := is_range hyis
            obtain ⟨b2, eb2, hb2⟩ := specAvoids_val hk (putC x l) hyp sizes (put_sz hz) hyk
            have ei2 := avoids_loop hk (putC x l) hyp sizes hz.2 hl
            have hdb : decide (avoidsP (putC x l) sizes) = b2 := by
              cases b2 with
              | true => exact decide_eq_true (hb2.1 rfl)
              | false => exact decide_eq_false fun q => by have := hb2.2 q; cases this
            refine ⟨b2, 0, ?_, ?_, fun q he => ⟨hb2.2 (ext_avoids h (by omega) hz ha he), rfl⟩⟩
            · simp only [Option.bind_some, decide_true, Bool.not_true, Bool.false_eq_true, if_false, ha, h16, decide_false]
              rw [grown_val h (by omega) hr2.1 (by omega), Option.bind_some, ei2, hdb]; rfl
            · simp only [letO, Option.bind_some, decide_true, Bool.not_true, Bool.false_eq_true, if_false, if_true, h17, decide_false]
              rw [specPut_val h (by omega) hr2.1 (by omega), Option.bind_some, eb2]; rfl
        · have hbf : b = false := by
            cases b with
            | false => rfl
            | true => exact absurd (hb.1 rfl) ha
          subst hbf
          refine ⟨false, 5, ?_, ?_, fun q => absurd (eS_zero q).2.2.1 ha⟩
          · simp [ha]
          · simp [letO]
      · have e1 : impl_Colouring_sizesCode k x sizes (some r) = some 2 := by rw [s2 h, if_neg (fun q => hrr q.2)]
        rw [e1, Option.bind_some, e0]
        refine ⟨false, 2, by simp, ?_, fun q he => absurd (hex q he) hrr⟩
        by_cases hlp : (l.length : Int) = x.p
        · have : ¬ ∀ i : Int, 0 ≤ i → i < l.length → 0 ≤ li l i ∧ li l i ≤ x.k - 1 := fun q => hrr (hr.2 ⟨hlp, hin2.2 q⟩)
          rw [decide_eq_false this]
          simp [letO, hlp]
        · simp [letO, hlp]
    · have e0 : eC x sizes = 2 := by unfold eC; rw [if_pos h, if_neg hz]
      have e1 : impl_Colouring_sizesCode k x sizes (some r) = some 2 := by rw [s2 h, if_neg (fun q => hz q.1)]
      rw [e1, Option.bind_some, e0]
      exact ⟨false, 2, by simp, by simp [letO], fun q => absurd (eS_zero q).2.1 hz⟩
  · have e0 : eC x sizes = 1 := by unfold eC; rw [if_neg h]
    rw [s1 h, e0]
    exact ⟨false, 1, by simp, by simp [letO], fun q => absurd (eS_zero q).1 h⟩

theorem putPoint_val {k : Nat} (hk : 5000 ≤ k) {x : Col} {sizes : List Int} (hs : eS x sizes 12 = 0) {e : List Int} (he : e ∈ EX x sizes) : impl_PutPoint k x e = some (putC x e, 0) ∧ impl_AvoidsSizes k (putC x e) sizes = some (true, 0) := by
  obtain ⟨h, hz, ha, h12⟩ := eS_zero hs
  obtain ⟨hp, hk4⟩ := is_range h
  have h1 := EX_len e he
  have h2 := exts_range (K := x.k.toNat) (ok := okX x sizes) x.p.toNat [] (fun z hz => by simp at hz) e he
  have hel : (e.length : Int) = x.p := by omega
  have hyis := put_is h (by omega) hel (fun a ha => by
    have := h2 _ (mem_getD.2 ⟨a, ha, rfl⟩)
    omega)
  constructor
  · unfold impl_PutPoint impl_PutPoint_c1
    rw [rightB k e x.p x.k (by omega) (by omega) hk4, decide_eq_true ⟨hel, fun z hz => by have := h2 z hz; omega⟩, Option.bind_some, ((code_cases hk x).1 h).1]
    have h17 : ¬ x.p = 17 := by omega
    simp only [letO, Option.bind_some, decide_true, if_true, h17, decide_false, Bool.false_eq_true, if_false, Bool.not_true]
    rw [grown_val h (by omega) hel (by omega)]; rfl
  · classical
    have := (implAvoids_val hk (putC x e) sizes (by have := hz.1; omega)).2.2 hyis (put_sz hz)
    rw [this, decide_eq_true (ext_avoids h (by omega) hz ha he)]
end Go.Proofs.YtjcgphgipleccaaGreat
