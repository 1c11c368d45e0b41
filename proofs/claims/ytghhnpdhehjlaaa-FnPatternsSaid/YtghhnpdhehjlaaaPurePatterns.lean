/- The plain law of FnPatterns. No conditions beyond those that each lemma states. -/
import Derived.Test.YtghhnpdhehjlaaaPureCh36
import Derived.Test.YtghhnpdhehjlaaaPureDraw36
import Derived.Test.YtghhnpdhehjlaaaMatch
set_option linter.unusedVariables false
set_option linter.unusedSimpArgs false
namespace Go.Proofs.Ytghhnpdhehjlaaa
open Go Go.RowKit Ab

/-! ### The draws -/
theorem drawMat_ok {k : Nat} (hk : 5000 ≤ k) (c : List UInt8) (hc : c.length ≤ 4096) : ∃ x d, spec_DrawGreatestMatching k c = some (x, d) := by
  obtain ⟨s, h1, hs⟩ := from_ok hk c hc
  obtain ⟨x, d, s', h2, _⟩ := draw4_ok hk s hs
  unfold spec_DrawGreatestMatching spec_l04With
  rw [h1, Option.bind_some, h2]
  exact ⟨x, d, rfl⟩
theorem drawAP_ok {k : Nat} (hk : 5000 ≤ k) (c : List UInt8) (hc : c.length ≤ 4096) : ∃ x d a b, spec_DrawAvoidsPattern k c = some (x, d, a, b) := by
  obtain ⟨s, h1, hs⟩ := from_ok hk c hc
  obtain ⟨x, d, s2, h2, hs2⟩ := draw4_ok hk s hs
  obtain ⟨a, s3, h3, hs3⟩ := near_ok s2 5 hs2
  obtain ⟨b, s4, h4, hs4⟩ := near_ok s3 17 hs3
  obtain ⟨e, s5, h5, _⟩ := pick_ok s4 [1, 2, 3, 3, 4, 5, b] hs4 (by simp)
  unfold spec_DrawAvoidsPattern
  rw [h1, Option.bind_some, h2, Option.bind_some]
  simp only
  rw [h3, Option.bind_some]
  simp only
  rw [h4, Option.bind_some]
  simp only
  rw [h5]
  exact ⟨x, d, a, e, rfl⟩

/-! ### The codes -/
noncomputable def cdv (x : Col) (c : Int) : Int := open Classical in if x.is then (if 0 ≤ c ∧ c ≤ x.k - 1 then 0 else 2) else 1
theorem cdv_ok {x : Col} {c : Int} (hx : x.is) (hc : 0 ≤ c ∧ c ≤ x.k - 1) : cdv x c = 0 := by unfold cdv; rw [if_pos hx, if_pos hc]
theorem cdv_zero {x : Col} {c : Int} (h : cdv x c = 0) : x.is ∧ 0 ≤ c ∧ c ≤ x.k - 1 := by
  unfold cdv at h
  split at h
  · rename_i hx
    split at h
    · rename_i hc; exact ⟨hx, hc⟩
    · cases h
  · cases h
theorem impl_cd {k : Nat} (hk : 5000 ≤ k) (x : Col) (c : Int) : impl_Colouring_colourCode k x c true = some (cdv x c) := by
  unfold cdv
  by_cases hx : x.is
  · rw [if_pos hx]
    by_cases hc : 0 ≤ c ∧ c ≤ x.k - 1
    · rw [if_pos hc, cc_ok hk hx hc]
    · rw [if_neg hc, cc_bad hk hx (.inl hc)]
  · rw [if_neg hx, cc_inv hk hx]
theorem spec_cd {k : Nat} (hk : 5000 ≤ k) (x : Col) (c : Int) : spec_l01Given k x c [] = some (cdv x c) := by
  obtain ⟨g1, g2, g3⟩ := given_cases hk x c
  unfold cdv
  by_cases hx : x.is
  · rw [if_pos hx]
    by_cases hc : 0 ≤ c ∧ c ≤ x.k - 1
    · rw [if_pos hc, g1 hx hc]
    · rw [if_neg hc, g2 hx hc]
  · rw [if_neg hx, g3 hx]

section
variable {x : Col} {c : Int}
noncomputable def mtR (x : Col) (c : Int) : Option (List (List Int)) × Int := if cdv x c = 0 then (some (ml (aB x c) (pts x)), 0) else (none, cdv x c)
theorem matching_impl {k : Nat} (hk : 200000 ≤ k) (x : Col) (c : Int) : impl_GreatestMatching k x c = some (mtR x c) := by
  unfold impl_GreatestMatching mtR
  rw [impl_cd (by omega), Option.bind_some]
  by_cases h : cdv x c = 0
  · rw [decide_eq_true h, if_neg (by simp), if_pos h, matching_val (cdv_zero h).1.1 (by omega)]; rfl
  · rw [decide_eq_false h, if_pos (by simp), if_neg h]
theorem matching_spec {k : Nat} (hk : 200000 ≤ k) (x : Col) (c : Int) : spec_GreatestMatching k x c = some ((mtR x c).1.getD [], (mtR x c).2) := by
  unfold spec_GreatestMatching mtR
  rw [spec_cd (by omega), Option.bind_some]
  by_cases h : cdv x c = 0
  · rw [decide_eq_true h, if_neg (by simp), if_pos h, smatching_val (cdv_zero h).1.1 hk]; rfl
  · rw [decide_eq_false h, if_pos (by simp), if_neg h]; rfl
noncomputable def stR (x : Col) (c : Int) : Int × Int × Int := if cdv x c = 0 then ((starAt x c x.p.toNat).1, (starAt x c x.p.toNat).2, 0) else (0, 0, cdv x c)
theorem star_impl {k : Nat} (hk : 200000 ≤ k) (x : Col) (c : Int) : impl_GreatestStar k x c = some (stR x c) := by
  unfold impl_GreatestStar stR
  rw [impl_cd (by omega), Option.bind_some]
  by_cases h : cdv x c = 0
  · rw [decide_eq_true h, if_neg (by simp), if_pos h, star_val (cdv_zero h).1.1 (by omega)]; rfl
  · rw [decide_eq_false h, if_pos (by simp), if_neg h]
theorem star_spec {k : Nat} (hk : 200000 ≤ k) (x : Col) (c : Int) : spec_GreatestStar k x c = some (stR x c) := by
  unfold spec_GreatestStar stR
  rw [spec_cd (by omega), Option.bind_some]
  by_cases h : cdv x c = 0
  · rw [decide_eq_true h, if_neg (by simp), if_pos h, sstar_val (cdv_zero h).1.1 (by omega)]; rfl
  · rw [decide_eq_false h, if_pos (by simp), if_neg h]

/-! ### Doubles -/
/-- A pair that is found. -/
def Pr (x : Col) (c : Int) (book : Bool) (i j : Nat) : Prop := i < j ∧ j < x.p.toNat ∧ (book = true → aB x c i j = true)
def DI (x : Col) (c : Int) (book : Bool) (σ : List Int × Int) : Prop := (σ.1 = [] ∧ σ.2 = -1) ∨ ∃ i j : Nat, σ.1 = [(i : Int), (j : Int)] ∧ Pr x c book i j ∧ σ.2 = (cmN x c i j : Int)
theorem dbS_inv {book : Bool} {i j : Nat} {σ : List Int × Int} (h : DI x c book σ) (hij : i < j) (hj : j < x.p.toNat) : DI x c book (dbS x c book i σ j) := by
  unfold dbS
  split
  · rename_i hc; exact .inr ⟨i, j, rfl, ⟨hij, hj, hc.1⟩, rfl⟩
  · exact h
theorem dbI_inv {book : Bool} {i : Nat} : ∀ (l : List Int) (σ : List Int × Int), (∀ z ∈ l, (i : Int) < z ∧ z < x.p.toNat) → DI x c book σ → DI x c book (l.foldl (dbS x c book i) σ)
  | [], σ, _, h => h
  | z :: l, σ, hl, h => by
    have hz := hl z (List.mem_cons_self ..)
    obtain ⟨j, rfl⟩ : ∃ j : Nat, z = j := ⟨z.toNat, by omega⟩
    exact dbI_inv l _ (fun y hy => hl y (List.mem_cons_of_mem _ hy)) (dbS_inv h (by omega) (by omega))
theorem dbl_inv (book : Bool) : DI x c book (dbl x c book) := by
  have : ∀ (l : List Int) (σ : List Int × Int), (∀ z ∈ l, 0 ≤ z ∧ z < x.p.toNat) → DI x c book σ → DI x c book (l.foldl (dbI x c book) σ) := by
    intro l
    induction l with
    | nil => intro σ _ h; exact h
    | cons z l ih =>
      intro σ hl h
      have hz := hl z (List.mem_cons_self ..)
      obtain ⟨i, rfl⟩ : ∃ i : Nat, z = i := ⟨z.toNat, by omega⟩
      refine ih _ (fun y hy => hl y (List.mem_cons_of_mem _ hy)) ?_
      unfold dbI
      exact dbI_inv _ σ (fun y hy => by rw [mem_ir] at hy; omega) h
  exact this _ _ (fun z hz => by rw [mem_ir] at hz; omega) (.inl ⟨rfl, rfl⟩)
theorem dbS_le (book : Bool) (i : Int) (σ : List Int × Int) (j : Int) : σ.2 ≤ (dbS x c book i σ j).2 := by
  unfold dbS
  split
  · rename_i h; simp only; omega
  · exact Int.le_refl _
theorem foldS_le (book : Bool) (i : Int) : ∀ (l : List Int) (σ : List Int × Int), σ.2 ≤ (l.foldl (dbS x c book i) σ).2
  | [], σ => Int.le_refl _
  | j :: l, σ => Int.le_trans (dbS_le book i σ j) (foldS_le book i l _)
theorem foldS_mem (book : Bool) (i : Int) : ∀ (l : List Int) (σ : List Int × Int) (j : Int), j ∈ l → (book = true → aB x c i j = true) → (cmN x c i j : Int) ≤ (l.foldl (dbS x c book i) σ).2
  | j' :: l, σ, j, h, hb => by
    rcases List.mem_cons.1 h with rfl | h
    · refine Int.le_trans ?_ (foldS_le book i l _)
      unfold dbS
      split
      · exact Int.le_refl _
      · rename_i h2
        exact Int.not_lt.1 fun h3 => h2 ⟨hb, h3⟩
    · exact foldS_mem book i l _ j h hb
theorem foldI_le (book : Bool) : ∀ (l : List Int) (σ : List Int × Int), σ.2 ≤ (l.foldl (dbI x c book) σ).2
  | [], σ => Int.le_refl _
  | i :: l, σ => Int.le_trans (foldS_le book i _ σ) (foldI_le book l _)
theorem dbl_max {book : Bool} {i j : Nat} (h : Pr x c book i j) : (cmN x c i j : Int) ≤ (dbl x c book).2 := by
  have : ∀ (l : List Int) (σ : List Int × Int), (i : Int) ∈ l → (cmN x c i j : Int) ≤ (l.foldl (dbI x c book) σ).2 := by
    intro l
    induction l with
    | nil => intro σ h; cases h
    | cons z l ih =>
      intro σ hz
      rcases List.mem_cons.1 hz with rfl | hz
      · refine Int.le_trans ?_ (foldI_le book l _)
        unfold dbI
        exact foldS_mem book _ _ σ j (mem_ir.2 ⟨by have := h.1; omega, by have := h.2.1; omega⟩) h.2.2
      · exact ih _ hz
  exact this _ _ (mem_ir.2 ⟨by omega, by have := h.1; have := h.2.1; omega⟩)
noncomputable def dbR (x : Col) (c : Int) (book : Bool) : List Int × Int × Int := if cdv x c = 0 then (if (dbl x c book).1.isEmpty = true then ([], 0, 4) else ((dbl x c book).1, (dbl x c book).2, 0)) else ([], 0, cdv x c)
theorem dbl_empty (book : Bool) : (dbl x c book).1.isEmpty = decide ((dbl x c book).2 < 0) := by
  rcases dbl_inv (x := x) (c := c) book with ⟨h1, h2⟩ | ⟨i, j, h1, _, h2⟩
  · rw [h1, h2]; rfl
  · rw [h1, h2]
    have : ¬ ((cmN x c i j : Int) < 0) := by omega
    rw [decide_eq_false this]; rfl
theorem double_impl {k : Nat} (hk : 200000 ≤ k) (x : Col) (c : Int) (book : Bool) : impl_Colouring_greatestDouble k x c book = some (dbR x c book) := by
  unfold impl_Colouring_greatestDouble dbR
  rw [impl_cd (by omega), Option.bind_some]
  by_cases h : cdv x c = 0
  · rw [decide_eq_true h, if_neg (by simp), if_pos h, double_val (cdv_zero h).1.1 (by omega), Option.bind_some]
    split <;> rfl
  · rw [decide_eq_false h, if_pos (by simp), if_neg h]
theorem double_spec {k : Nat} (hk : 200000 ≤ k) (x : Col) (c : Int) (book : Bool) : ((spec_l01Given k x c ([])).bind fun r1 => (if !decide (r1 = 0) then some ([], 0, r1) else (spec_l04Double k x c book).bind fun r3 => (if decide (r3.2 < 0) then some ([], 0, 4) else some (r3.1, r3.2, 0)))) = some (dbR x c book) := by
  unfold dbR
  rw [spec_cd (by omega), Option.bind_some]
  by_cases h : cdv x c = 0
  · rw [decide_eq_true h, if_neg (by simp), if_pos h, sdouble_val (cdv_zero h).1.1 (by omega), Option.bind_some, ← dbl_empty]
    split <;> rfl
  · rw [decide_eq_false h, if_pos (by simp), if_neg h]

/-! ### Stars -/
theorem starAt_spec : ∀ i, 1 ≤ i → ∃ p : Nat, p < i ∧ starAt x c i = ((p : Int), (dgN x c p : Int)) ∧ ∀ q, q < i → dgN x c (q : Int) ≤ dgN x c (p : Int) := by
  intro i
  induction i with
  | zero => intro h; omega
  | succ i ih =>
    intro _
    rw [starAt]
    by_cases hi : i = 0
    · subst hi
      refine ⟨0, by omega, ?_, fun q hq => ?_⟩
      · rw [if_pos (by show (-1 : Int) < _; omega)]
      · have : q = 0 := by omega
        subst this; exact Nat.le_refl _
    · obtain ⟨p, hp, e, hm⟩ := ih (by omega)
      rw [e]
      by_cases h : (dgN x c p : Int) < (dgN x c i : Int)
      · rw [if_pos h]
        refine ⟨i, by omega, rfl, fun q hq => ?_⟩
        by_cases e2 : q = i
        · subst e2; exact Nat.le_refl _
        · have := hm q (by omega); omega
      · rw [if_neg h]
        refine ⟨p, by omega, rfl, fun q hq => ?_⟩
        by_cases e2 : q = i
        · subst e2; omega
        · exact hm q (by omega)

/-- There is an edge of the colour. -/
def Edge (x : Col) (c : Int) : Prop := ∃ i j : Nat, i < x.p.toNat ∧ j < x.p.toNat ∧ aB x c i j = true
theorem dgN_pos {i j : Nat} (hj : j < x.p.toNat) (h : aB x c i j = true) : 0 < dgN x c i := by
  unfold dgN
  exact List.length_pos_of_mem (List.mem_filter.2 ⟨mem_ir.2 ⟨by omega, by omega⟩, h⟩ : (j : Int) ∈ _)
theorem star_edge (hp : 1 ≤ x.p) : 0 < (starAt x c x.p.toNat).2 ↔ Edge x c := by
  obtain ⟨p, hpn, e, hm⟩ := starAt_spec (x := x) (c := c) x.p.toNat (by omega)
  rw [e]
  constructor
  · intro h
    have h' : 0 < dgN x c p := by simp only at h; omega
    unfold dgN at h'
    obtain ⟨z, hz⟩ := List.exists_mem_of_length_pos h'
    obtain ⟨h1, h2⟩ := List.mem_filter.1 hz
    have h1' := mem_ir.1 (show z ∈ ir 0 x.p.toNat from h1)
    exact ⟨p, z.toNat, hpn, by omega, by rw [show ((z.toNat : Nat) : Int) = z by omega]; exact h2⟩
  · rintro ⟨i, j, hi, hj, ha⟩
    have h1 := dgN_pos hj ha
    have h2 := hm i hi
    simp only; omega
theorem match_edge : 0 < (ml (aB x c) (pts x)).length ↔ Edge x c := by
  have hn : (pts x).Nodup := ir_nodup ..
  constructor
  · intro h
    obtain ⟨e, he⟩ := List.exists_mem_of_length_pos h
    obtain ⟨h1, h2, h3⟩ := ml_edges (aB x c) (pts x) hn
    obtain ⟨i, j, rfl, ha, _⟩ := h1 e he
    have hi := mem_ir.1 (show i ∈ ir 0 x.p.toNat from h3 i (List.mem_flatten.2 ⟨_, he, by simp⟩))
    have hj := mem_ir.1 (show j ∈ ir 0 x.p.toNat from h3 j (List.mem_flatten.2 ⟨_, he, by simp⟩))
    exact ⟨i.toNat, j.toNat, by omega, by omega, by rw [show ((i.toNat : Nat) : Int) = i by omega, show ((j.toNat : Nat) : Int) = j by omega]; exact ha⟩
  · rintro ⟨i, j, hi, hj, ha⟩
    rw [ml_length]
    refine Mt.le (fun a b => aB_comm x c a b) (pts x) hn 1 ⟨i, j, mem_ir.2 ⟨by omega, by omega⟩, mem_ir.2 ⟨by omega, by omega⟩, fun e => ?_, ha, trivial⟩
    rw [e, aB_irr] at ha; cases ha
theorem book_edge : (dbl x c true).1.isEmpty = false ↔ Edge x c := by
  rw [dbl_empty, decide_eq_false_iff_not]
  constructor
  · intro h
    rcases dbl_inv (x := x) (c := c) true with ⟨_, h2⟩ | ⟨i, j, _, ⟨hij, hj, ha⟩, _⟩
    · omega
    · exact ⟨i, j, by omega, hj, ha rfl⟩
  · rintro ⟨i, j, hi, hj, ha⟩ h
    have hne : i ≠ j := fun e => by subst e; rw [aB_irr] at ha; cases ha
    rcases Nat.lt_or_ge i j with hlt | hge
    · have := dbl_max (x := x) (c := c) (book := true) ⟨hlt, hj, fun _ => ha⟩; omega
    · have := dbl_max (x := x) (c := c) (book := true) (i := j) (j := i) ⟨by omega, hi, fun _ => by rw [aB_comm]; exact ha⟩; omega

/-! ### The other functions -/
theorem cc_lt {x : Col} (hx : x.is) (a b : Nat) (ha : a < x.p.toNat) (hb : b < x.p.toNat) (h : a ≠ b) : 0 ≤ x.cc a b ∧ x.cc a b < x.k.toNat := by
  have main : ∀ a b : Nat, a < b → b < x.p.toNat → 0 ≤ x.cc a b ∧ x.cc a b < x.k.toNat := fun a b hab hb => by
    have hp := hx.1
    have h136 := eN_136 (i := a) (j := b) (by omega) (by omega) (by omega)
    have hlt := eN_lt (i := a) (j := b) (n := x.p.toNat) hab hb (by omega)
    have key : ∀ n : Nat, n ≤ 17 → 1 ≤ n → w64 ((w64 ((n : Int) * (w64 ((n : Int) - 1)))).tdiv 2) = (tri n : Nat) := by decide +kernel
    obtain ⟨n, hn⟩ := nat_of (show 0 ≤ x.p by omega)
    have hE : tE x = (tri n : Nat) := by
      unfold tE
      rw [hn]
      exact key n (by omega) (by omega)
    have hok := (hx.2.2 (eN a b : Nat) (by omega) (by omega)).1 (by rw [hE]; rw [hn] at hlt; simp at hlt; omega)
    have e : x.cc a b = ((x.get (eN a b)).toNat : Int) := rfl
    simp only [Int.toNat_natCast] at hok
    omega
  rcases Nat.lt_or_ge a b with q | q
  · exact main a b q hb
  · rw [cc_comm]; exact main b a (by omega) ha

theorem has_val' (hx : x.is) (i : Int) : impl_Colouring_has x i = decide (0 ≤ i ∧ i ≤ x.p - 1) := by
  have := hx.1
  unfold impl_Colouring_has
  rw [in_eq, w64_id (by omega)]
theorem two_val (hx : x.is) {i j : Int} (hi : 0 ≤ i ∧ i < x.p) (hj : 0 ≤ j ∧ j < x.p) (h : i ≠ j) : impl_Colouring_hasTwo x i j = true := by
  unfold impl_Colouring_hasTwo
  rw [has_val' hx, has_val' hx, decide_eq_true (by omega), decide_eq_true (by omega), decide_eq_false h]; rfl
theorem common_val {k : Nat} (hk : 5000 ≤ k) (hx : x.is) (hc : 0 ≤ c ∧ c ≤ x.k - 1) {i j : Int} (hi : 0 ≤ i ∧ i < x.p) (hj : 0 ≤ j ∧ j < x.p) (h : i ≠ j) : impl_CommonNeighbours k x i j c = some (some ((ir 0 x.p.toNat).filter fun a => aB x c i a && aB x c j a), 0) := by
  have hp := hx.1
  unfold impl_CommonNeighbours impl_CommonNeighbours_c1
  rw [two_val hx hi hj h, has_colour x hx c, decide_eq_true hc]
  simp only [letO, if_true]
  rw [((code_cases hk x).1 hx).1, Option.bind_some]
  rw [that_val (k := k) x hp (by omega) (fun a0 => impl_CommonNeighbours_c2 a0 x i c j) (fun a => aB x c i a && aB x c j a) (fun a ha => by
    unfold impl_CommonNeighbours_c2
    rw [joins_val x c i a (by omega) (by omega), joins_val x c j a (by omega) (by omega)]
    cases aB x c i (a : Int) <;> simp)]
  rfl
theorem neighbours_val {k : Nat} (hk : 5000 ≤ k) (hx : x.is) (hc : 0 ≤ c ∧ c ≤ x.k - 1) {i : Nat} (hi : i < x.p.toNat) : impl_NeighboursOf k x i c = some (some ((pts x).filter (aB x c i)), 0) := by
  have hp := hx.1
  unfold impl_NeighboursOf impl_NeighboursOf_c1
  rw [has_val' hx, decide_eq_true (by omega), has_colour x hx c, decide_eq_true hc]
  simp only [letO, if_true]
  rw [((code_cases hk x).1 hx).1, Option.bind_some, neigh_val x hp (by omega) c i (by omega)]
  rfl
theorem colour_val {k : Nat} (hk : 5000 ≤ k) (hx : x.is) {i j : Int} (hi : 0 ≤ i ∧ i < x.p) (hj : 0 ≤ j ∧ j < x.p) (h : i ≠ j) : impl_ColourOf k x i j = some (x.cc i j, 0) := by
  have hp := hx.1
  unfold impl_ColourOf impl_ColourOf_c1
  rw [two_val hx hi hj h, ((code_cases hk x).1 hx).1, Option.bind_some, implAt_ne x i j (by omega) (by omega) (by omega) (by omega) h]
  rfl
theorem number_val {a b : Nat} (ha : 1 ≤ a ∧ a ≤ 100) (hb : 1 ≤ b ∧ b ≤ 100) : impl_MatchingNumber (a : Int) (b : Int) = (2 * ((max a b : Nat) : Int) + ((min a b : Nat) : Int) - 1, 0) := by
  unfold impl_MatchingNumber impl_areThousand
  rw [in_eq, in_eq, decide_eq_true (by omega), decide_eq_true (by omega)]
  simp only [letO, if_true, Bool.not_true, Bool.false_eq_true, if_false]
  have e1 : (if (a : Int) < b then (b : Int) else a) = ((max a b : Nat) : Int) := by split <;> omega
  have e2 : (if (b : Int) < a then (b : Int) else a) = ((min a b : Nat) : Int) := by split <;> omega
  rw [e1, e2, w64_id (n := 2 * _) (by omega), w64_id (n := 2 * _ + _) (by omega), w64_id (by omega)]

/-! ### The matching's edges, one by one -/
theorem edges_loop {k : Nat} (hk : 5000 ≤ k) (hx : x.is) (L : List (List Int)) (hL : ∀ e ∈ L, ∃ i j, e = [i, j] ∧ aB x c i j = true ∧ i ≠ j) (hnd : L.flatten.Nodup) (hin : ∀ z ∈ L.flatten, 0 ≤ z ∧ z < x.p) (hlen : L.length ≤ 1000) (r4 : Option (List (List Int)) × Int) (hr : r4.1.getD [] = L) :
    laws_FnPatterns_l0 k (x, c) r4 k 0 (List.replicate x.p.toNat false) = some (.inl ()) := by
  have hp := hx.1
  obtain ⟨r, h1, rfl⟩ := loopI (fun k' i (met : List Bool) => laws_FnPatterns_l0 k (x, c) r4 k' i met) (L.length : Int) 0
    (fun i met => ∃ im : Nat, i = im ∧ im ≤ L.length ∧ met.length = x.p.toNat ∧ ∀ z : Nat, met.getD z false = true ↔ (z : Int) ∈ (L.take im).flatten)
    (fun r => r = .inl ())
    (fun k' i met h0 h1 hI => by
      obtain ⟨im, rfl, him, hml, hmet⟩ := hI
      left
      have hi : im < L.length := by omega
      obtain ⟨a, b, he, hab, hne⟩ := hL L[im] (List.getElem_mem hi)
      have hga : a ∈ L.flatten := List.mem_flatten.2 ⟨_, List.getElem_mem hi, by rw [he]; simp⟩
      have hgb : b ∈ L.flatten := List.mem_flatten.2 ⟨_, List.getElem_mem hi, by rw [he]; simp⟩
      have ha := hin a hga
      have hb := hin b hgb
      have hget : L.getD (im : Int).toNat [] = [a, b] := by
        rw [Int.toNat_natCast, List.getD_eq_getElem?_getD, List.getElem?_eq_getElem hi, he]; rfl
      have hsplit : L = L.take im ++ [a, b] :: L.drop (im + 1) := by
        rw [← he, List.getElem_cons_drop, List.take_append_drop]
      have hfl : L.flatten = (L.take im).flatten ++ (a :: b :: (L.drop (im + 1)).flatten) := by
        conv => lhs; rw [hsplit]
        rw [List.flatten_append, List.flatten_cons]; rfl
      rw [hfl] at hnd
      have hnd2 := (List.nodup_append.1 hnd).2.2
      have hna : a ∉ (L.take im).flatten := fun h => hnd2 a h a (by simp) rfl
      have hnb : b ∉ (L.take im).flatten := fun h => hnd2 b h b (by simp) rfl
      have hma : met.getD a.toNat false = false := Bool.eq_false_iff.2 fun h => hna (by have := (hmet a.toNat).1 h; rwa [show ((a.toNat : Nat) : Int) = a by omega] at this)
      have hmb : met.getD b.toNat false = false := Bool.eq_false_iff.2 fun h => hnb (by have := (hmet b.toNat).1 h; rwa [show ((b.toNat : Nat) : Int) = b by omega] at this)
      have hcc : x.cc a b = c := by unfold aB at hab; simp at hab; exact hab.2
      have g0 : ([a, b] : List Int).getD (0 : Int).toNat 0 = a := rfl
      have g1 : ([a, b] : List Int).getD (1 : Int).toNat 0 = b := rfl
      rw [laws_FnPatterns_l0, hr, decide_eq_true h1, if_pos rfl, if_pos ⟨h0, h1⟩, hget, if_pos (by simp), if_pos ⟨h0, h1⟩, if_pos (by simp), g0, g1, colour_val hk hx ha hb hne, Option.bind_some]
      simp only [hcc, decide_true, Bool.not_true, Bool.false_eq_true, if_false]
      rw [if_pos (by omega), hma, if_neg (by simp), if_pos (by omega), hmb, Option.bind_some, if_neg (by simp), Option.bind_some]
      simp only
      rw [if_pos (by omega), if_pos (by rw [List.length_set]; omega), Option.bind_some]
      simp only
      rw [w64_id (by omega)]
      refine ⟨_, rfl, im + 1, by omega, by omega, by simp [hml], fun z => ?_⟩
      have htk : L.take (im + 1) = L.take im ++ [[a, b]] := by rw [List.take_add_one, List.getElem?_eq_getElem hi, he]; rfl
      rw [htk, List.flatten_append]
      have hmem : (z : Int) ∈ (L.take im).flatten ++ [[a, b]].flatten ↔ (z : Int) ∈ (L.take im).flatten ∨ (z : Int) = a ∨ (z : Int) = b := by simp
      rw [hmem, ← hmet z]
      by_cases eb : b.toNat = z
      · subst eb
        rw [List.getD_eq_getElem?_getD, List.getElem?_set_self (by rw [List.length_set]; omega)]
        exact ⟨fun _ => .inr (.inr (by omega)), fun _ => rfl⟩
      · rw [List.getD_eq_getElem?_getD, List.getElem?_set_ne eb]
        by_cases ea : a.toNat = z
        · subst ea
          rw [List.getElem?_set_self (by omega)]
          exact ⟨fun _ => .inr (.inl (by omega)), fun _ => rfl⟩
        · rw [List.getElem?_set_ne ea, ← List.getD_eq_getElem?_getD]
          exact ⟨.inl, fun h => h.resolve_right (by omega)⟩)
    (fun k' i met h0 h1 hI => by
      rw [laws_FnPatterns_l0, hr, decide_eq_false (by omega), if_neg (by simp)]
      exact ⟨_, rfl, rfl⟩)
    k 0 (List.replicate x.p.toNat false) (by omega) (by omega) ⟨0, rfl, by omega, by simp, fun z => by
      rw [List.getD_eq_getElem?_getD, List.getElem?_replicate]
      split <;> simp⟩
  exact h1
end

theorem bindK {α β : Type} {X : Option α} (v : α) {F : α → Option β} {r : Option β} (h : X = some v) (h2 : F v = r) : X.bind F = r := by subst h; exact h2
theorem ap_cdv {y : Col} {d kind m : Int} (h : apCode y d kind m = 0) : cdv y d = 0 := by
  by_cases hx : y.is
  · by_cases h2 : (0 ≤ d ∧ d ≤ y.k - 1) ∧ (0 ≤ kind ∧ kind ≤ 5) ∧ 1 ≤ m ∧ m ≤ 17
    · exact cdv_ok hx h2.1
    · rw [apCode_bad hx h2] at h; cases h
  · rw [apCode_inv hx] at h; cases h

theorem patterns_k {k : Nat} (hk : 200000 ≤ k) (code : List UInt8) : laws_FnPatterns k code = some true := by
  classical
  have hk5 : 5000 ≤ k := by omega
  unfold laws_FnPatterns
  by_cases hb : laws_big code = true
  · rw [if_pos hb]
  have hc : code.length ≤ 4096 := by
    unfold laws_big at hb
    simp at hb; omega
  rw [if_neg hb]
  obtain ⟨x, c, d1⟩ := drawMat_ok hk5 code hc
  obtain ⟨y, d, kind, m, d2⟩ := drawAP_ok hk5 code hc
  have hml : ∀ (x : Col) (c : Int), 1 ≤ x.p → x.p ≤ 17 → (ml (aB x c) (pts x)).length ≤ 17 := fun x c h1 h2 => by
    refine Nat.le_trans (ml_len_le _ _) ?_
    simp [pts, ir_length]; omega
  have hrows : laws_rows9 k ((mtR x c).1.getD []) ((mtR x c).1.getD []) = some true := by
    unfold mtR
    by_cases h : cdv x c = 0
    · rw [if_pos h]
      have hx := (cdv_zero h).1
      have hl := hml x c hx.1.1 hx.1.2
      refine rows9_refl k _ (by simp only [Option.getD_some]; omega) (by simp only [Option.getD_some]; omega) fun l hl2 => ?_
      obtain ⟨i, j, rfl, _⟩ := (ml_edges (aB x c) (pts x) (ir_nodup ..)).1 l hl2
      exact ⟨by simp; omega, by simp⟩
    · rw [if_neg h]
      exact rows9_refl k [] (by simp; omega) (by simp) fun l hl => by cases hl
  have hdl : ∀ book, (dbR x c book).1.length ≤ 2 := fun book => by
    unfold dbR
    split
    · split
      · simp
      · rcases dbl_inv (x := x) (c := c) book with ⟨h1, _⟩ | ⟨i, j, h1, _⟩ <;> rw [h1] <;> simp
    · simp
  have hlike : ∀ book, laws_likeInts k (dbR x c book).1 (dbR x c book).1 = some true := fun book => like_refl k _ (by have := hdl book; omega) (by have := hdl book; omega)
  have gd : impl_GreatestDouble k x c = some (dbR x c false) := by
    unfold impl_GreatestDouble; rw [double_impl hk]; rfl
  have gb : impl_GreatestBook k x c = some (dbR x c true) := by
    unfold impl_GreatestBook; rw [double_impl hk]; rfl
  have sd : spec_GreatestDouble k x c = some (dbR x c false) := by
    unfold spec_GreatestDouble; exact double_spec hk x c false
  have sb : spec_GreatestBook k x c = some (dbR x c true) := by
    unfold spec_GreatestBook; exact double_spec hk x c true
  rw [d1, Option.bind_some]
  simp only
  rw [matching_impl hk, Option.bind_some, matching_spec hk, Option.bind_some]
  simp only [decide_true, Bool.not_true, Bool.false_eq_true, if_false]
  rw [hrows, Option.bind_some]
  simp only [Bool.not_true, Option.bind_some, Bool.false_eq_true, if_false]
  rw [star_impl hk, Option.bind_some, star_spec hk, Option.bind_some]
  simp only [decide_true, Bool.not_true, Bool.false_eq_true, if_false, letO, Option.bind_some]
  rw [gd, Option.bind_some, sd, Option.bind_some]
  simp only [decide_true, Bool.not_true, Bool.false_eq_true, if_false, letO, Option.bind_some]
  rw [hlike false, Option.bind_some]
  simp only [decide_true, Bool.not_true, Bool.false_eq_true, if_false, letO, Option.bind_some]
  rw [gb, Option.bind_some, sb, Option.bind_some]
  simp only [decide_true, Bool.not_true, Bool.false_eq_true, if_false, letO, Option.bind_some]
  rw [hlike true, Option.bind_some]
  simp only [decide_true, Bool.not_true, Bool.false_eq_true, if_false, letO, Option.bind_some]
  rw [d2, Option.bind_some]
  simp only
  rw [impl_ap hk, Option.bind_some, spec_ap hk, Option.bind_some]
  simp only [decide_true, Bool.not_true, Bool.false_eq_true, if_false, letO, Option.bind_some, beq_self_eq_true]
  refine bindK (.inl ()) ?_ ?_
  · by_cases h0 : apCode y d kind m = 0
    · rw [if_pos h0]
      by_cases hk2 : kind = 2
      · simp only [decide_true, if_true, hk2]
        rw [star_impl hk, Option.bind_some]
        unfold stR apVal
        rw [if_pos (ap_cdv h0)]
        simp
      · simp [hk2]
    · rw [if_neg h0]
      simp [h0]
  simp only
  refine bindK (.inl ()) ?_ ?_
  · unfold dbR
    by_cases h0 : cdv x c = 0
    · obtain ⟨hx, hcr⟩ := cdv_zero h0
      rw [if_pos h0, if_pos h0]
      rcases dbl_inv (x := x) (c := c) false with ⟨e1, e2⟩ | ⟨i, j, e1, ⟨hij, hj, _⟩, e2⟩
      · rw [e1]; rfl
      · have hp := hx.1
        have hce : ([(i : Int), (j : Int)] : List Int).isEmpty = false := rfl
        rw [e1, hce, if_neg Bool.false_ne_true]
        have g0 : ([(i : Int), (j : Int)] : List Int).getD (0 : Int).toNat 0 = i := rfl
        have g1 : ([(i : Int), (j : Int)] : List Int).getD (1 : Int).toNat 0 = j := rfl
        simp only [decide_true, if_true]
        rw [if_pos (by simp), if_pos (by simp), g0, g1, common_val hk5 hx hcr (by omega) (by omega) (by omega), Option.bind_some, e2]
        have hlen : (((ir 0 x.p.toNat).filter fun a => aB x c i a && aB x c j a).length : Int) = (cmN x c i j : Int) := rfl
        simp only [decide_true, Bool.not_true, Bool.false_eq_true, if_false, Option.getD_some, hlen]
        rcases dbl_inv (x := x) (c := c) true with ⟨f1, f2⟩ | ⟨i', j', f1, ⟨hij', hj', _⟩, f2⟩
        · rw [f1]; rfl
        · have hmx := dbl_max (x := x) (c := c) (book := false) (i := i') (j := j') ⟨hij', hj', fun h => by cases h⟩
          rw [e2] at hmx
          have hce' : ([(i' : Int), (j' : Int)] : List Int).isEmpty = false := rfl
          rw [f1, hce', if_neg Bool.false_ne_true]
          simp only [decide_true, if_true]
          rw [f2, decide_eq_false (by omega)]
          rfl
    · rw [if_neg h0, if_neg h0]
      simp [h0]
  simp only
  by_cases h0 : cdv x c = 0
  · obtain ⟨hx, hcr⟩ := cdv_zero h0
    have hp := hx.1
    have hm : mtR x c = (some (ml (aB x c) (pts x)), 0) := by unfold mtR; rw [if_pos h0]
    obtain ⟨p, hpn, est, hmax⟩ := starAt_spec (x := x) (c := c) x.p.toNat (by omega)
    have hs : stR x c = ((p : Int), (dgN x c p : Int), 0) := by unfold stR; rw [if_pos h0, est]
    have hL := hml x c hp.1 hp.2
    have hE1 : decide (0 < (dgN x c p : Int)) = decide (Edge x c) := by
      have := star_edge (x := x) (c := c) hp.1
      rw [est] at this
      rw [decide_eq_decide]; exact this
    have hE2 : decide (0 < ((ml (aB x c) (pts x)).length : Int)) = decide (Edge x c) := by
      rw [decide_eq_decide, ← match_edge]; omega
    have hE3 : decide ((dbR x c true).2.2 = 0) = decide (Edge x c) := by
      rw [decide_eq_decide, ← book_edge]
      unfold dbR
      rw [if_pos h0]
      cases (dbl x c true).1.isEmpty <;> simp
    rw [hm, hs]
    simp only [decide_true, Bool.not_true, Bool.false_eq_true, if_false, Option.getD_some]
    rw [neighbours_val hk5 hx hcr hpn, Option.bind_some]
    have hdg : (((pts x).filter (aB x c p)).length : Int) = (dgN x c p : Int) := rfl
    simp only [decide_true, Bool.not_true, Bool.false_eq_true, if_false, Option.getD_some, hdg, hE1, hE2, hE3, beq_self_eq_true, Option.bind_some]
    obtain ⟨q1, q2, q3⟩ := ml_edges (aB x c) (pts x) (ir_nodup ..)
    rw [if_pos (by omega), edges_loop hk5 hx (ml (aB x c) (pts x)) q1 q2 (fun z hz => by have := mem_ir.1 (show z ∈ ir 0 x.p.toNat from q3 z hz); omega) (by omega) _ rfl, Option.bind_some]
    simp only
    by_cases hk2 : x.k = 2
    · rw [decide_eq_true hk2, Bool.not_true, if_neg (by simp), w64_id (n := 1 - c) (by omega), matching_impl hk, Option.bind_some]
      have hc2 : 0 ≤ 1 - c ∧ 1 - c ≤ x.k - 1 := by omega
      have hm2 : mtR x (1 - c) = (some (ml (aB x (1 - c)) (pts x)), 0) := by unfold mtR; rw [if_pos (cdv_ok hx hc2)]
      have hL2 := hml x (1 - c) hp.1 hp.2
      have hnum := number_val (a := (ml (aB x c) (pts x)).length + 1) (b := (ml (aB x (1 - c)) (pts x)).length + 1) (by omega) (by omega)
      have hw1 : w64 (((ml (aB x c) (pts x)).length : Int) + 1) = (((ml (aB x c) (pts x)).length + 1 : Nat) : Int) := by rw [w64_id (by omega)]; omega
      have hw2 : w64 (((ml (aB x (1 - c)) (pts x)).length : Int) + 1) = (((ml (aB x (1 - c)) (pts x)).length + 1 : Nat) : Int) := by rw [w64_id (by omega)]; omega
      simp only [hm2, Option.getD_some, hw1, hw2, hnum, decide_true, if_true]
      have hfew := few_points (A := aB x c) (B := aB x (1 - c)) (V := pts x) (fun a b => aB_comm x c a b) (fun a b => aB_comm x (1 - c) a b) (ir_nodup ..) (fun u hu v hv huv => by
        have hu' := mem_ir.1 (show u ∈ ir 0 x.p.toNat from hu)
        have hv' := mem_ir.1 (show v ∈ ir 0 x.p.toNat from hv)
        have hcc := cc_lt hx u.toNat v.toNat (by omega) (by omega) (by omega)
        rw [show ((u.toNat : Nat) : Int) = u by omega, show ((v.toNat : Nat) : Int) = v by omega] at hcc
        unfold aB
        by_cases e : x.cc u v = c
        · left; simp [huv, e]
        · right
          have : x.cc u v = 1 - c := by omega
          simp [huv, this])
      have hpl : (pts x).length = x.p.toNat := by simp [pts, ir_length]
      rw [hpl, ← ml_length, ← ml_length] at hfew
      rw [decide_eq_true (by omega)]
    · rw [decide_eq_false hk2]; rfl
  · have hm : mtR x c = (none, cdv x c) := by unfold mtR; rw [if_neg h0]
    have hs : stR x c = (0, 0, cdv x c) := by unfold stR; rw [if_neg h0]
    rw [hm, hs]
    simp [h0]
theorem patterns_pure (code : List UInt8) : laws_FnPatterns 200000 code = some true := patterns_k (Nat.le_refl _) code
end Go.Proofs.Ytghhnpdhehjlaaa
