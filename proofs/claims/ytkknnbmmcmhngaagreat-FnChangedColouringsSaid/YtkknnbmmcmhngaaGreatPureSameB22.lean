/- Plain laws of chapter 1: renumbered points, exchanged and joined colours, numbers of edges, names. No conditions beyond those that each lemma states. -/
import Derived.Test.YtkknnbmmcmhngaaGreatPureSame22
set_option linter.unusedVariables false
set_option linter.unusedSimpArgs false
namespace Go.Proofs.YtkknnbmmcmhngaaGreat
open Go Go.RowKit Ab

/-! ### Points renumbered -/
theorem itr_inv {σ : Type} (g : Int → σ → σ) (P : Nat → σ → Prop) : ∀ (m i : Nat) (s : σ), (∀ (j : Nat) (s : σ), i ≤ j → j < i + m → P j s → P (j + 1) (g j s)) → P i s → P (i + m) (itr g m i s) := by
  intro m
  induction m with
  | zero => intro i s _ h; exact h
  | succ m ih =>
    intro i s hs h
    have := ih (i + 1) (g i s) (fun j s h1 h2 => hs j s (by omega) (by omega)) (hs i s (Nat.le_refl _) (by omega) h)
    rw [show i + 1 + m = i + (m + 1) by omega] at this
    exact this
theorem eN_inj2 {a b c d : Nat} (hab : a ≠ b) (hcd : c ≠ d) (ha : a < 17) (hb : b < 17) (hc : c < 17) (hd : d < 17) (e : eN a b = eN c d) : (a = c ∧ b = d) ∨ (a = d ∧ b = c) := by
  rcases Nat.lt_or_ge a b with h | h
  · rcases Nat.lt_or_ge c d with h' | h'
    · exact .inl (eN_inj h hb h' hd e)
    · rw [eN_comm c d] at e
      have := eN_inj h hb (show d < c by omega) hc e
      omega
  · rw [eN_comm a b] at e
    rcases Nat.lt_or_ge c d with h' | h'
    · have := eN_inj (show b < a by omega) ha h' hd e
      omega
    · rw [eN_comm c d] at e
      have := eN_inj (show b < a by omega) ha (show d < c by omega) hc e
      omega
/-- What an order tells. -/
theorem ord_at {l : List Int} {n : Nat} (h : isOrd l n) {i : Nat} (hi : i < n) : ∃ a : Nat, l.getD i 0 = a ∧ a < n := by
  have := h.1
  have := h.2.1 i (by omega)
  exact ⟨(l.getD i 0).toNat, by omega, by omega⟩
theorem ord_ne {l : List Int} {n : Nat} (h : isOrd l n) {i j : Nat} (hi : i < n) (hj : j < n) (e : l.getD i 0 = l.getD j 0) : i = j := by
  have := h.1
  rcases Nat.lt_trichotomy i j with q | q | q
  · exact absurd e (h.2.2 i j q (by omega))
  · exact q
  · exact absurd e.symm (h.2.2 j i q (by omega))
theorem ord_surj {l : List Int} {n : Nat} (h : isOrd l n) {v : Nat} (hv : v < n) : ∃ i, i < n ∧ l.getD i 0 = v := by
  have hl := h.1
  have := (order_iff l).2 ⟨fun a ha => by rw [hl]; exact h.2.1 a ha, h.2.2⟩ v (by omega)
  have hm : (v : Int) ∈ sorted l := mem_getD.2 ⟨v, by rw [sorted_length]; omega, this⟩
  obtain ⟨i, hi, e⟩ := mem_getD.1 ((sorted_mem l _).1 hm)
  exact ⟨i, by omega, e⟩
/-- The colours of renumbered points. -/
structure RI (x : Col) (l : List Int) (j i : Nat) (s : Col) : Prop where
  p : s.p = x.p
  k : s.k = x.k
  c : ∀ a b : Nat, a < b → (b < j ∨ (b = j ∧ a < i)) → (b : Int) < x.p → s.e.get (eN (l.getD a 0).toNat (l.getD b 0).toNat) = toByte (x.cc a b)
  z : ∀ e, tri x.p.toNat ≤ e → e < 136 → s.e.get e = 0
theorem RI.step {x : Col} {l : List Int} {n : Nat} (hn : x.p = n) (hn17 : n ≤ 17) (h : isOrd l x.p) {j i : Nat} {s : Col} (q : RI x l j i s) (hi : i < j) (hj : j < n) : RI x l j (i + 1) (renStep x l j i s) := by
  rw [hn] at h
  obtain ⟨u, eu, hu⟩ := ord_at h (show i < n by omega)
  obtain ⟨v, ev, hv⟩ := ord_at h hj
  have huv : u ≠ v := fun e => by
    have := ord_ne h (show i < n by omega) hj (by rw [eu, ev, e])
    omega
  have h136 := eN_136 huv (by omega) (by omega)
  have hst : renStep x l j i s = s.set (eN u v) (toByte (x.cc i j)) := by
    unfold renStep
    rw [Int.toNat_natCast, Int.toNat_natCast, eu, ev, Int.toNat_natCast, Int.toNat_natCast]
  rw [hst]
  refine ⟨q.p, q.k, fun a b hab hc hb => ?_, fun e he h1 => ?_⟩
  · rw [show (s.set (eN u v) (toByte (x.cc i j))).e.get (eN (l.getD a 0).toNat (l.getD b 0).toNat) = _ from B136.get_set s.e _ _ _ h136]
    obtain ⟨a', ea, ha'⟩ := ord_at h (show a < n by omega)
    obtain ⟨b', eb, hb'⟩ := ord_at h (show b < n by omega)
    rw [ea, eb, Int.toNat_natCast, Int.toNat_natCast]
    have hab' : a' ≠ b' := fun e => by
      have := ord_ne h (show a < n by omega) (show b < n by omega) (by rw [ea, eb, e])
      omega
    by_cases e : eN a' b' = eN u v
    · rw [if_pos e]
      rcases eN_inj2 hab' huv (by omega) (by omega) (by omega) (by omega) e with ⟨r1, r2⟩ | ⟨r1, r2⟩
      · have e1 := ord_ne h (show a < n by omega) (show i < n by omega) (by rw [ea, eu, r1])
        have e2 := ord_ne h (show b < n by omega) hj (by rw [eb, ev, r2])
        rw [e1, e2]
      · have e1 := ord_ne h (show a < n by omega) hj (by rw [ea, ev, r1])
        have e2 := ord_ne h (show b < n by omega) (show i < n by omega) (by rw [eb, eu, r2])
        omega
    · rw [if_neg e]
      have : ¬ (a = i ∧ b = j) := fun ⟨r1, r2⟩ => by
        subst r1; subst r2
        rw [ea] at eu; rw [eb] at ev
        exact e (by rw [show a' = u by omega, show b' = v by omega])
      have := q.c a b hab (by omega) hb
      rw [ea, eb, Int.toNat_natCast, Int.toNat_natCast] at this
      exact this
  · rw [show (s.set (eN u v) (toByte (x.cc i j))).e.get e = _ from B136.get_set s.e _ _ _ h136]
    have : eN u v < tri x.p.toNat := by
      rw [hn, Int.toNat_natCast]
      rcases Nat.lt_or_ge u v with r | r
      · exact eN_lt r hv hn17
      · rw [eN_comm]; exact eN_lt (by omega) hu hn17
    rw [if_neg (by omega)]
    exact q.z e he h1
theorem ren_RI {x : Col} (hp : 1 ≤ x.p ∧ x.p ≤ 17) {l : List Int} (h : isOrd l x.p) : RI x l x.p.toNat 0 (ren x l) := by
  have hn := (toN hp).symm
  have hrow : ∀ (j : Nat) (s : Col), j < x.p.toNat → RI x l j 0 s → RI x l (j + 1) 0 (renRow x l j s) := fun j s hj q => by
    have := itr_inv (renStep x l j) (fun i s => RI x l j i s) j 0 s (fun i s _ hi q => RI.step hn (by omega) h q (by omega) hj) q
    rw [Nat.zero_add] at this
    unfold renRow
    rw [Int.toNat_natCast]
    exact ⟨this.p, this.k, fun a b hab hc hb => this.c a b hab (by omega) hb, this.z⟩
  have := itr_inv (renRow x l) (fun j s => RI x l j 0 s) (x.p - 1).toNat 1 ⟨x.p, x.k, B136.zero⟩ (fun j s _ hj q => hrow j s (by omega) q)
    ⟨rfl, rfl, fun a b hab hc hb => by omega, fun e _ _ => B136.get_zero e⟩
  rw [show 1 + (x.p - 1).toNat = x.p.toNat by omega] at this
  exact this
theorem ren_cc {x : Col} (h : x.is) {l : List Int} (ho : isOrd l x.p) {a b : Nat} (ha : (a : Int) < x.p) (hb : (b : Int) < x.p) (hab : a ≠ b) : (ren x l).cc (l.getD a 0) (l.getD b 0) = x.cc a b := by
  have hp := h.1
  have q := ren_RI hp ho
  have key : ∀ a b : Nat, a < b → (b : Int) < x.p → (ren x l).cc (l.getD a 0) (l.getD b 0) = x.cc a b := fun a b hab hb => by
    have := q.c a b hab (by omega) hb
    have hc := is_cc h (a := a) (b := b) (by omega) hb (by omega)
    have hk := h.2.1
    unfold Col.cc
    rw [this]
    exact tb_id (by omega)
  rcases Nat.lt_or_ge a b with r | r
  · exact key a b r hb
  · rw [cc_comm, key b a (by omega) ha, cc_comm]
theorem ren_is {x : Col} (h : x.is) {l : List Int} (ho : isOrd l x.p) : (ren x l).is := by
  have hp := h.1
  have q := ren_RI hp ho
  have hn := (toN hp).symm
  rw [hn] at ho
  have hc : ∀ u v : Nat, u < v → v < x.p.toNat → 0 ≤ (ren x l).cc u v ∧ (ren x l).cc u v < x.k := fun u v huv hv => by
    obtain ⟨i, hi, ei⟩ := ord_surj ho (show u < x.p.toNat by omega)
    obtain ⟨j, hj, ej⟩ := ord_surj ho hv
    rw [← ei, ← ej]
    have hne : i ≠ j := fun e => by subst e; rw [ei] at ej; omega
    rw [← hn] at ho
    rw [ren_cc h ho (by omega) (by omega) hne]
    exact is_cc h (by omega) (by omega) hne
  have e : ren x l = mkC x.p.toNat x.k (fun a b => (ren x l).cc a b) := by
    refine Made.to (g' := fun a b => (ren x l).e.get (eN a b)) (by omega) ⟨by rw [q.p]; omega, q.k, fun a b _ _ => rfl, fun e he h1 => q.z e (by rw [Int.toNat_natCast] at he; exact he) h1⟩ fun a b _ _ => ?_
    rw [cc_nat, tb]
  rw [e]
  exact mkC_is (by omega) (by omega) h.2.1 _ hc
theorem ren_back {x : Col} (h : x.is) {l bk : List Int} (ho : isOrd l x.p) (hb : isOrd bk x.p) (hlb : ∀ i : Nat, (i : Int) < x.p → bk.getD (l.getD i 0).toNat 0 = i) : ren (ren x l) bk = x := by
  have hp := h.1
  have hn := (toN hp).symm
  have hy := ren_is h ho
  have q := ren_RI hp ho
  have hb' : isOrd bk (ren x l).p := by rw [q.p]; exact hb
  have hz := ren_RI hy.1 hb'
  have e := is_mk h
  refine Eq.trans ?_ e.symm
  refine Made.to (g' := fun a b => (ren (ren x l) bk).e.get (eN a b)) (by omega) ⟨by rw [hz.p, q.p]; omega, by rw [hz.k, q.k], fun a b _ _ => rfl, fun e he h1 => hz.z e (by rw [Int.toNat_natCast] at he; rw [q.p]; exact he) h1⟩ fun a b hab hb2 => ?_
  have ho' := ho
  rw [hn] at ho'
  obtain ⟨u, eu, hu⟩ := ord_at ho' (show a < x.p.toNat by omega)
  obtain ⟨v, ev, hv⟩ := ord_at ho' hb2
  have huv : u ≠ v := fun e => by
    have := ord_ne ho' (show a < x.p.toNat by omega) hb2 (by rw [eu, ev, e])
    omega
  have h1 := ren_cc hy hb' (a := u) (b := v) (by rw [q.p]; omega) (by rw [q.p]; omega) huv
  have h2 := ren_cc h ho (a := a) (b := b) (by omega) (by omega) (by omega)
  have g1 := hlb a (by omega)
  have g2 := hlb b (by omega)
  rw [eu, Int.toNat_natCast] at g1
  rw [ev, Int.toNat_natCast] at g2
  rw [g1, g2] at h1
  rw [eu, ev] at h2
  rw [← h2, ← h1, cc_nat, tb]

theorem renum_same {k : Nat} (hk : 5000 ≤ k) (x : Col) (l : List Int) (hl : l.length ≤ 1000) :
    (∃ z c, c ≠ 0 ∧ impl_RenumberPoints k x l = some (z, c) ∧ spec_RenumberPoints k x l = some (z, c)) ∨
    (x.is ∧ isOrd l x.p ∧ impl_RenumberPoints k x l = some (ren x l, 0) ∧ spec_RenumberPoints k x l = some (ren x l, 0)) := by
  classical
  unfold spec_RenumberPoints impl_RenumberPoints impl_Colouring_code impl_RenumberPoints_c1
  rw [specIs_eq k (by omega), isColouring_eq k (by omega)]
  by_cases hx : x.is
  · rw [specOrder_eq k l x.p (by omega) (by omega) hx.1, implOrder_eq k l x.p (by omega) (by omega)]
    by_cases ho : isOrd l x.p
    · rw [specRen_eq x l hx.1 ho k (by omega), implRen_eq x l hx.1 ho k (by omega)]
      exact .inr ⟨hx, ho, by simp [hx, ho], by simp [hx, ho]⟩
    · exact .inl ⟨noC, 2, by omega, by simp [hx, ho], by simp [hx, ho]⟩
  · exact .inl ⟨noC, 1, by omega, by simp [hx], by simp [hx]⟩

/-! ### Colours exchanged -/
def exC (x : Col) (q : List Int) : Col := mkC x.p.toNat x.k (fun a b => q.getD (x.cc a b).toNat 0)
theorem exch_same {k : Nat} (hk : 5000 ≤ k) (x : Col) (l : List Int) (hl : l.length ≤ 1000) :
    (∃ z c, c ≠ 0 ∧ impl_ExchangeColours k x l = some (z, c) ∧ spec_ExchangeColours k x l = some (z, c)) ∨
    (x.is ∧ isOrd l x.k ∧ impl_ExchangeColours k x l = some (exC x l, 0) ∧ spec_ExchangeColours k x l = some (exC x l, 0)) := by
  classical
  unfold spec_ExchangeColours impl_ExchangeColours impl_Colouring_code impl_ExchangeColours_c1
  rw [specIs_eq k (by omega), isColouring_eq k (by omega)]
  by_cases hx : x.is
  · have hkk := hx.2.1
    rw [specOrder_eq k l x.k (by omega) (by omega) (by omega), implOrder_eq k l x.k (by omega) (by omega)]
    by_cases ho : isOrd l x.k
    · have hlen := ho.1
      have e1 : impl_Colouring_recoloured k x x.k (fun a0 => impl_ExchangeColours_c2 a0 l) = some (exC x l) := recol_val hx x.k _ (fun c => l.getD c.toNat 0) (fun c h0 h1 => by
        unfold impl_ExchangeColours_c2
        rw [if_pos (by omega)]) (by omega)
      have e2 : spec_l01Turned k x l = some (exC x l) := turned_val hx l hlen (by omega)
      rw [e1, e2]
      exact .inr ⟨hx, ho, by simp [hx, ho], by simp [hx, ho]⟩
    · exact .inl ⟨noC, 2, by omega, by simp [hx, ho], by simp [hx, ho]⟩
  · exact .inl ⟨noC, 1, by omega, by simp [hx], by simp [hx]⟩
theorem counts_code {k : Nat} (hk : 5000 ≤ k) {x : Col} (h : x.is) : impl_CountEdges k x = some (some (mapL x.k.toNat fun c => (cnt x c : Int)), 0) := by
  unfold impl_CountEdges impl_always
  rw [((code_cases hk x).1 h).1]
  simp only [decide_true, Bool.not_true, Bool.false_eq_true, if_false, Option.bind_some, counts_val h (show 140 ≤ k by omega)]
theorem exC_is {x : Col} (h : x.is) {l : List Int} (ho : isOrd l x.k) : (exC x l).is := by
  have hp := h.1
  have hkk := h.2.1
  have hlen := ho.1
  refine mkC_is (by omega) (by omega) hkk _ fun a b hab hb => ?_
  have := is_cc h (a := a) (b := b) (by omega) (by omega) (by omega)
  exact ho.2.1 _ (by omega)
theorem exC_cnt {x : Col} (h : x.is) {l : List Int} (ho : isOrd l x.k) (c : Nat) (hc : (c : Int) < x.k) : cnt (exC x l) (l.getD c 0) = cnt x c := by
  have hkk := h.2.1
  have hlen := ho.1
  unfold cnt exC
  rw [edL_map h x.k (fun c => l.getD c.toNat 0) (fun c h0 h1 => by have := ho.2.1 c.toNat (by omega); omega), List.countP_map]
  refine List.countP_congr fun u hu => ?_
  have hu' := edL_lt h hu
  simp only [Function.comp_apply, decide_eq_true_eq]
  constructor
  · intro e
    rcases Nat.lt_trichotomy u.toNat c with q | q | q
    · exact absurd e (ho.2.2 _ _ q (by omega))
    · omega
    · exact absurd e.symm (ho.2.2 _ _ q (by omega))
  · intro e; rw [e, Int.toNat_natCast]

/-! ### Colours joined -/
def joC (x : Col) (c d : Int) : Col := mkC x.p.toNat (x.k - 1) (fun a b => impl_JoinColours_c2 (x.cc a b) d c)
theorem joined_q {k : Nat} (hk : 5000 ≤ k) (x : Col) (hx : x.is) (c d : Int) : spec_JoinColours_l0 k x c d k 0 [] = some (mapL x.k.toNat fun i => impl_JoinColours_c2 i d c) := by
  have hkk := hx.2.1
  refine collect (fun k' i s => spec_JoinColours_l0 k x c d k' i s) x.k.toNat (fun i => impl_JoinColours_c2 i d c) (fun k' i s hi hs => ?_) (fun k' s => ?_) k (by omega)
  · show spec_JoinColours_l0 k x c d (k' + 1) i s = spec_JoinColours_l0 k x c d k' ((i + 1 : Nat) : Int) _
    have h1 : (i : Int) < x.k := by omega
    have hl : ∀ z : Int, s.length + ([z]).length ≤ 1099511627776 := fun z => by simp; omega
    rw [spec_JoinColours_l0, w64_id (n := (i : Int) + 1) (by omega)]
    unfold impl_JoinColours_c2
    rcases Int.lt_trichotomy (i : Int) d with q | q | q
    · have n1 : ¬ (i : Int) = d := by omega
      have n2 : ¬ d < (i : Int) := by omega
      simp only [h1, q, n1, n2, hl, decide_true, decide_false, if_true, Bool.false_eq_true, if_false, Option.bind_some]
      rfl
    · have n1 : ¬ (i : Int) < d := by omega
      simp only [h1, n1, hl, decide_eq_true q, decide_true, decide_false, if_true, Bool.false_eq_true, if_false, Option.bind_some]
      rfl
    · have n1 : ¬ (i : Int) = d := by omega
      have n2 : ¬ (i : Int) < d := by omega
      simp only [h1, q, n1, n2, hl, decide_true, decide_false, if_true, Bool.false_eq_true, if_false, Option.bind_some]
      rfl
  · show spec_JoinColours_l0 k x c d (k' + 1) (x.k.toNat : Nat) s = _
    rw [spec_JoinColours_l0]
    rw [decide_eq_false (show ¬ ((x.k.toNat : Nat) : Int) < x.k by omega)]
    rfl
theorem join_same {k : Nat} (hk : 5000 ≤ k) (x : Col) (c d : Int) :
    (∃ z e, e ≠ 0 ∧ impl_JoinColours k x c d = some (z, e) ∧ spec_JoinColours k x c d = some (z, e)) ∨
    (x.is ∧ (0 ≤ c ∧ c < d ∧ d < x.k) ∧ impl_JoinColours k x c d = some (joC x c d, 0) ∧ spec_JoinColours k x c d = some (joC x c d, 0)) := by
  classical
  have hg := specGiven_eq k x c [] (by simp; omega) (by simp)
  unfold spec_JoinColours impl_JoinColours impl_Colouring_code
  rw [hg, isColouring_eq k (by omega)]
  by_cases hx : x.is
  · have hp := hx.1
    have hkk := hx.2.1
    have hin : inP x [] := fun i h0 h1 => by simp at h1; omega
    rw [if_pos hx, decide_eq_true hx]
    have hc1 : impl_JoinColours_c1 x c d = decide (0 ≤ c ∧ c < d ∧ d < x.k) := by
      unfold impl_JoinColours_c1 impl_Colouring_hasColour letO
      rw [in_eq, in_eq, w64_id (by omega)]
      by_cases q1 : 0 ≤ c ∧ c ≤ x.k - 1
      · by_cases q2 : 0 ≤ d ∧ d ≤ x.k - 1
        · by_cases q3 : c < d
          · rw [decide_eq_true q1, decide_eq_true q2, decide_eq_true q3, decide_eq_true (by omega)]; rfl
          · rw [decide_eq_true q1, decide_eq_true q2, decide_eq_false q3, decide_eq_false (by omega)]; rfl
        · rw [decide_eq_true q1, decide_eq_false q2, decide_eq_false (show ¬ (0 ≤ c ∧ c < d ∧ d < x.k) by omega)]; rfl
      · rw [decide_eq_false q1, decide_eq_false (show ¬ (0 ≤ c ∧ c < d ∧ d < x.k) by omega)]; rfl
    rw [hc1]
    by_cases h1 : 0 ≤ c ∧ c < d ∧ d < x.k
    · right
      rw [if_pos ⟨by omega, hin⟩, decide_eq_true h1, specIn_eq, w64_id (n := c + 1) (by omega), w64_id (n := x.k - 1) (by omega), decide_eq_true (show c + 1 ≤ d ∧ d ≤ x.k - 1 by omega)]
      have e1 : impl_Colouring_recoloured k x (x.k - 1) (fun a0 => some (impl_JoinColours_c2 a0 d c)) = some (joC x c d) := recol_val hx (x.k - 1) _ (fun a => impl_JoinColours_c2 a d c) (fun _ _ _ => rfl) (by omega)
      have e2 := turned_val hx (k := k) (mapL x.k.toNat fun i => impl_JoinColours_c2 i d c) (by rw [mapL_length]; omega) (by omega)
      have e3 : (mkC x.p.toNat x.k (fun a b => (mapL x.k.toNat fun i => impl_JoinColours_c2 i d c).getD (x.cc a b).toNat 0)) = mkC x.p.toNat x.k (fun a b => impl_JoinColours_c2 (x.cc a b) d c) := mkC_congr (by omega) _ fun a b hab hb => by
        have := is_cc hx (a := a) (b := b) (by omega) (by omega) (by omega)
        rw [mapL_get _ _ _ (by omega), Int.toNat_of_nonneg this.1]
      rw [e3] at e2
      rw [joined_q hk x hx c d, e1]
      refine ⟨hx, h1, by simp, ?_⟩
      simp only [letO, decide_true, Bool.not_true, Bool.false_eq_true, if_false, if_true, Option.bind_some, e2]
      have : w64 ((mkC x.p.toNat x.k (fun a b => impl_JoinColours_c2 (x.cc a b) d c)).k - 1) = x.k - 1 := w64_id (by show -9223372036854775808 ≤ x.k - 1 ∧ x.k - 1 < 9223372036854775808; omega)
      rw [this]
      rfl
    · left
      rw [decide_eq_false h1]
      refine ⟨noC, 2, by omega, by simp, ?_⟩
      by_cases h2 : 0 ≤ c ∧ c ≤ x.k - 1
      · rw [if_pos ⟨h2, hin⟩, specIn_eq, w64_id (n := c + 1) (by omega), w64_id (n := x.k - 1) (by omega), decide_eq_false (show ¬ (c + 1 ≤ d ∧ d ≤ x.k - 1) by omega)]
        simp [letO]
      · rw [if_neg (fun q => h2 q.1)]
        simp [letO]
  · rw [if_neg hx, decide_eq_false hx]
    left
    exact ⟨noC, 1, by omega, by simp, by simp [letO]⟩
theorem jo_range {x : Col} (h : x.is) {c d : Int} (hcd : 0 ≤ c ∧ c < d ∧ d < x.k) (u : Int) (h0 : 0 ≤ u) (h1 : u < x.k) : 0 ≤ impl_JoinColours_c2 u d c ∧ impl_JoinColours_c2 u d c < x.k - 1 ∧ (impl_JoinColours_c2 u d c = c ↔ u = c ∨ u = d) := by
  have hkk := h.2.1
  unfold impl_JoinColours_c2
  rw [w64_id (n := u - 1) (by omega)]
  rcases Int.lt_trichotomy u d with q | q | q
  · rw [decide_eq_false (show ¬ u = d by omega), decide_eq_false (show ¬ d < u by omega)]
    simp; omega
  · rw [decide_eq_true q]
    simp; omega
  · rw [decide_eq_false (show ¬ u = d by omega), decide_eq_true q]
    simp; omega
theorem joC_is {x : Col} (h : x.is) {c d : Int} (hcd : 0 ≤ c ∧ c < d ∧ d < x.k) : (joC x c d).is := by
  have hp := h.1
  have hkk := h.2.1
  refine mkC_is (by omega) (by omega) (by omega) _ fun a b hab hb => ?_
  have := is_cc h (a := a) (b := b) (by omega) (by omega) (by omega)
  have := jo_range h hcd _ this.1 this.2
  omega
theorem countP_two (l : List Int) (c d : Int) (h : c ≠ d) : l.countP (fun u => decide (u = c ∨ u = d)) = l.countP (fun u => decide (u = c)) + l.countP (fun u => decide (u = d)) := by
  induction l with
  | nil => rfl
  | cons a l ih =>
    rw [List.countP_cons, List.countP_cons, List.countP_cons, ih]
    by_cases h1 : a = c
    · subst h1; simp [h]; omega
    · by_cases h2 : a = d
      · subst h2; simp [h1]; omega
      · simp [h1, h2]
theorem joC_cnt {x : Col} (h : x.is) {c d : Int} (hcd : 0 ≤ c ∧ c < d ∧ d < x.k) : cnt (joC x c d) c = cnt x c + cnt x d := by
  have hkk := h.2.1
  unfold cnt joC
  rw [edL_map h (x.k - 1) (fun u => impl_JoinColours_c2 u d c) (fun u h0 h1 => by have := jo_range h hcd u h0 h1; omega), List.countP_map, ← countP_two _ _ _ (by omega)]
  refine List.countP_congr fun u hu => ?_
  have hu' := edL_lt h hu
  simp only [Function.comp_apply, decide_eq_true_eq]
  exact (jo_range h hcd u hu'.1 hu'.2).2.2
end Go.Proofs.YtkknnbmmcmhngaaGreat
