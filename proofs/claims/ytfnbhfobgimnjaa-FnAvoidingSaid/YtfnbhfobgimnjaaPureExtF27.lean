/- Plain laws: the number of extensions, the first one, lists of them, closed colourings: both sides. No conditions beyond those that each lemma states. -/
import Derived.Test.YtfnbhfobgimnjaaPureExtD27
set_option linter.unusedVariables false
set_option linter.unusedSimpArgs false
namespace Go.Proofs.Ytfnbhfobgimnjaa
open Go Go.RowKit Ab

theorem EX_len {x : Col} {sizes : List Int} : ∀ e ∈ EX x sizes, e.length = x.p.toNat := fun e he => by
  have := exts_len _ _ e he
  simpa using this
/-! ### The first one -/
def cbF (l : List Int) (_ : List Int) : Bool × List Int := (false, l)
def firstE (L : List (List Int)) : List Int × Bool := match L with | [] => ([], false) | a :: _ => (a, true)
theorem first_val {k : Nat} (hk : 5000 ≤ k) (x : Col) (hp : 1 ≤ x.p ∧ x.p ≤ 16) (hk4 : 1 ≤ x.k ∧ x.k ≤ 4) (sizes : List Int) (hz : szOK x sizes) : impl_Colouring_firstExtension k x sizes = some (firstE (EX x sizes)) := by
  unfold impl_Colouring_firstExtension impl_Colouring_extend_on_firstExtension_c1
  obtain ⟨cs', _, _, e, _⟩ := run_firstExtension_c1 x hp (by omega) sizes hz cbF (fun _ => True) (fun k cs s h1 h2 _ => ⟨by
    unfold impl_Colouring_firstExtension_c1 cloneA cbF
    have hne : ((cs.drop 0).take x.p.toNat).isEmpty = false := by
      rw [List.drop_zero, List.isEmpty_eq_false_iff]
      intro h
      have := congrArg List.length h
      rw [List.length_take, List.length_nil] at this
      omega
    rw [hne, if_neg (by simp), if_pos (by simp; omega)]
    rfl, fun _ => trivial⟩) x.p.toNat (List.replicate 17 0) 0 [] k (by omega) (by simp) trivial (by omega)
  rw [e, List.take_zero]
  show some _ = some (firstE (exts x.k.toNat (okX x sizes) x.p.toNat []))
  generalize exts x.k.toNat (okX x sizes) x.p.toNat [] = L
  cases L with
  | nil => rfl
  | cons a t => rfl

/-! ### Lists -/
/-! ### Closed colourings -/
theorem cl_none {adj : Int → Int → Bool} {m : Nat} {l : List Int} : cl adj m l = [] ↔ ∀ Z : List Int, Z.Sublist l → Z.Pairwise (fun a b => adj a b = true) → Z.length ≠ m := by
  rw [List.eq_nil_iff_forall_not_mem]
  constructor
  · intro h Z h1 h2 h3
    exact h Z ((mem_cl _ _ _ _).2 ⟨h1, h2, h3⟩)
  · intro h Z hZ
    obtain ⟨h1, h2, h3⟩ := (mem_cl _ _ _ _).1 hZ
    exact h Z h1 h2 h3

/-- What a list of extensions went through. -/
theorem exts_ok {K : Nat} {ok : List Int → Nat → Bool} : ∀ (n : Nat) (l e : List Int), e ∈ exts K ok n l → e.take l.length = l ∧ ∀ i, l.length ≤ i → i < e.length → ∃ c : Nat, c < K ∧ e.getD i 0 = (c : Int) ∧ ok (e.take i) c = true := by
  intro n
  induction n with
  | zero =>
    intro l e he
    rw [exts_zero] at he
    simp at he
    subst he
    exact ⟨by simp, fun i h1 h2 => by omega⟩
  | succ n ih =>
    intro l e he
    rw [exts] at he
    obtain ⟨c, hc0, hc⟩ := List.mem_flatMap.1 he
    have hcK := List.mem_range.1 hc0
    split at hc
    · rename_i hok
      obtain ⟨h1, h2⟩ := ih _ e hc
      have hlen : (l ++ [(c : Int)]).length = l.length + 1 := by simp
      rw [hlen] at h1 h2
      have ht : e.take l.length = l := by
        have e3 : (e.take (l.length + 1)).take l.length = (l ++ [(c : Int)]).take l.length := by rw [h1]
        rw [List.take_take, show min l.length (l.length + 1) = l.length by omega] at e3
        rw [e3]; simp
      refine ⟨ht, fun i hi1 hi2 => ?_⟩
      by_cases hi : i = l.length
      · subst hi
        refine ⟨c, hcK, ?_, by rw [ht]; exact hok⟩
        have e3 : (e.take (l.length + 1)).getD l.length 0 = (l ++ [(c : Int)]).getD l.length 0 := by rw [h1]
        have e4 : (e.take (l.length + 1)).getD l.length 0 = e.getD l.length 0 := by simp [List.getD, List.getElem?_take]
        rw [← e4, e3]
        simp [List.getD]
      · exact h2 i (by omega) hi2
    · simp at hc

theorem ir_pair {m : Nat} : (ir 0 m).Pairwise (· < ·) := ir_pw 0 m

theorem put_cc {x : Col} (h : x.is) (hp : x.p < 17) {l : List Int} (hl : (l.length : Int) = x.p) (hr : ∀ z ∈ l, 0 ≤ z ∧ z < x.k) {a b : Nat} (hab : a < b) :
    ((b : Int) < x.p → (putC x l).cc a b = x.cc a b) ∧ ((b : Int) = x.p → (putC x l).cc a b = l.getD a 0) := by
  have hpr := h.1
  have hk4 := h.2.1
  constructor
  · intro hb
    have hc := is_cc h (a := a) (b := b) (by omega) hb (by omega)
    unfold putC
    rw [mkC_cc (by omega) _ _ hab (by omega) (by rw [if_neg (by omega)]; omega), if_neg (by omega)]
  · intro hb
    have hc := hr (l.getD a 0) (mem_getD.2 ⟨a, by omega, rfl⟩)
    unfold putC
    rw [mkC_cc (by omega) _ _ hab (by omega) (by rw [if_pos hb]; omega), if_pos hb]

theorem pts_put (x : Col) (hp : 1 ≤ x.p) (l : List Int) : pts (putC x l) = pts x ++ [x.p] := by
  have e : (putC x l).p = x.p + 1 := by show ((x.p.toNat + 1 : Nat) : Int) = _; omega
  unfold pts
  rw [e, show (x.p + 1).toNat = x.p.toNat + 1 by omega, ir_split (show x.p.toNat ≤ x.p.toNat + 1 by omega)]
  congr 1
  rw [ir_next (show x.p.toNat < x.p.toNat + 1 by omega), ir_end (Nat.le_refl _), show ((x.p.toNat : Nat) : Int) = x.p by omega]

theorem pair_lt {Z l : List Int} (hs : Z.Sublist l) (hl : l.Pairwise (· < ·)) : Z.Pairwise (· < ·) := hl.sublist hs

theorem ext_avoids {x : Col} (h : x.is) (hp16 : x.p < 17) {sizes : List Int} (hz : szOK x sizes) (ha : avoidsP x sizes) {e : List Int} (he : e ∈ EX x sizes) : avoidsP (putC x e) sizes := by
  have hpr := h.1
  have hk4 := h.2.1
  have hlen := EX_len e he
  obtain ⟨_, hok⟩ := exts_ok _ _ e he
  have hrange := exts_range (K := x.k.toNat) (ok := okX x sizes) x.p.toNat [] (fun z hz => by simp at hz) e he
  have hr : ∀ z ∈ e, 0 ≤ z ∧ z < x.k := fun z hz => by have := hrange z hz; omega
  have hel : (e.length : Int) = x.p := by omega
  intro c hc
  rw [cl_none, pts_put x hpr.1]
  intro Z hZ hpw hm
  have hsz := hz.2 _ (mem_getD.2 ⟨c, hc, rfl⟩)
  obtain ⟨Z1, W, rfl, hZ1, hW⟩ := List.sublist_append_iff.1 hZ
  have hmem1 : ∀ z ∈ Z1, 0 ≤ z ∧ z < x.p := fun z hz => by
    have := mem_ir.1 (hZ1.subset hz)
    omega
  have hlt1 : Z1.Pairwise (· < ·) := pair_lt hZ1 ir_pair
  -- inside, the colouring is the old one
  have hold : ∀ a b : Int, a ∈ Z1 → b ∈ Z1 → a < b → aB (putC x e) c a b = true → aB x c a b = true := fun a b ha hb hab hq => by
    have h1 := hmem1 a ha
    have h2 := hmem1 b hb
    obtain ⟨a, rfl⟩ : ∃ i : Nat, a = i := ⟨a.toNat, by omega⟩
    obtain ⟨b, rfl⟩ : ∃ i : Nat, b = i := ⟨b.toNat, by omega⟩
    unfold aB at hq ⊢
    rw [(put_cc h hp16 hel hr (show a < b by omega)).1 (by omega)] at hq
    exact hq
  have hin : Z1.Pairwise (fun a b => aB x c a b = true) := by
    have hq := (List.pairwise_append.1 hpw).1
    refine List.Pairwise.imp_of_mem (R := fun a b => a < b ∧ aB (putC x e) c a b = true) (fun ha hb hh => hold _ _ ha hb hh.1 hh.2) ?_
    exact (hlt1.and hq)
  rcases (show W = [] ∨ W = [x.p] by
    cases W with
    | nil => exact .inl rfl
    | cons w t =>
      right
      have h1 := hW.length_le
      simp at h1
      subst h1
      have := hW.subset (List.mem_cons_self ..)
      simp at this
      rw [this]) with rfl | rfl
  · -- no new point
    rw [List.append_nil] at hm
    exact (cl_none.1 (ha c hc)) Z1 hZ1 hin hm
  · -- the new point, and others
    have hq := (List.pairwise_append.1 hpw).2.2
    have hcol : ∀ z ∈ Z1, e.getD z.toNat 0 = (c : Int) := fun z hz => by
      have h1 := hmem1 z hz
      have h2 := hq z hz x.p (by simp)
      obtain ⟨a, rfl⟩ : ∃ i : Nat, z = i := ⟨z.toNat, by omega⟩
      unfold aB at h2
      have h3 := (of_decide_eq_true h2).2
      have h4 := (put_cc h hp16 hel hr (a := a) (b := x.p.toNat) (by omega)).2 (by omega)
      rw [show ((x.p.toNat : Nat) : Int) = x.p by omega] at h4
      rw [h4] at h3
      rw [Int.toNat_natCast]; exact h3
    have hml : Z1.length + 1 = (sizes.getD c 0).toNat := by simpa using hm
    rcases List.eq_nil_or_concat Z1 with rfl | ⟨Z2, i, rfl⟩
    · have : sizes.getD c 0 = 1 := by rw [List.length_nil] at hml; omega
      exact no_one hpr.1 ha _ (mem_getD.2 ⟨c, hc, rfl⟩) this
    · rw [List.concat_eq_append] at *
      have hi := hmem1 i (by simp)
      obtain ⟨i, rfl⟩ : ∃ j : Nat, i = j := ⟨i.toNat, by omega⟩
      obtain ⟨d, hd, hd2, hd3⟩ := hok i (by simp) (by omega)
      have hcd : d = c := by
        have := hcol i (by simp)
        rw [Int.toNat_natCast, hd2] at this
        omega
      subst hcd
      unfold okX at hd3
      have hno := cl_none.1 (of_decide_eq_true hd3)
      have hti : (e.take i).length = i := by simp; omega
      have hlt2 : ∀ z ∈ Z2, z < (i : Int) := fun z hz => (List.pairwise_append.1 hlt1).2.2 z hz i (by simp)
      refine hno Z2 ?_ (List.pairwise_append.1 hin).1 ?_
      · unfold nearL
        rw [hti]
        have hsub : Z2.Sublist (ir 0 x.p.toNat) := (List.sublist_append_left Z2 _).trans hZ1
        have hsub2 : Z2.Sublist (ir 0 i) := by
          rw [ir_split (show i ≤ x.p.toNat by omega)] at hsub
          have h1 := hsub.filter (fun z : Int => decide (z < (i : Int)))
          rw [List.filter_append] at h1
          have e1 : Z2.filter (fun z : Int => decide (z < (i : Int))) = Z2 := List.filter_eq_self.2 fun z hz => decide_eq_true (hlt2 z hz)
          have e2 : (ir 0 i).filter (fun z : Int => decide (z < (i : Int))) = ir 0 i := List.filter_eq_self.2 fun z hz => decide_eq_true (by have := mem_ir.1 hz; omega)
          have e3 : (ir i x.p.toNat).filter (fun z : Int => decide (z < (i : Int))) = [] := List.filter_eq_nil_iff.2 fun z hz => by have := mem_ir.1 hz; simp; omega
          rw [e1, e2, e3, List.append_nil] at h1
          exact h1
        have h1 := hsub2.filter (fun p : Int => decide ((e.take i).getD p.toNat 0 = (d : Int)) && aB x d p i)
        have e1 : Z2.filter (fun p : Int => decide ((e.take i).getD p.toNat 0 = (d : Int)) && aB x d p i) = Z2 := by
          refine List.filter_eq_self.2 fun z hz => ?_
          have h2 := hlt2 z hz
          have h3 := hmem1 z (by simp [hz])
          have h4 := hcol z (by simp [hz])
          have h5 := (List.pairwise_append.1 hin).2.2 z hz i (by simp)
          have e4 : (e.take i).getD z.toNat 0 = e.getD z.toNat 0 := by
            simp only [List.getD, List.getElem?_take]
            rw [if_pos (by omega)]
          rw [e4, decide_eq_true h4, h5]; rfl
        rw [e1] at h1
        exact h1
      · rw [List.length_append, List.length_singleton] at hml
        omega

/-! ### Whether a list is an extension -/
end Go.Proofs.Ytfnbhfobgimnjaa
