/- The plain law of FnLesserParts: lesser parts are lesser-coloured and the greatest ones, and cups and caps are as long as their number tells and change places in the mirror, for all dice. No conditions beyond those that each lemma states. -/
import Derived.Test.YtfnbhfobgimnjaaPureDraw28
set_option linter.unusedVariables false
set_option linter.unusedSimpArgs false
namespace Go.Proofs.Ytfnbhfobgimnjaa
open Go Go.RowKit Ab

/-! ### Lesser-coloured sets -/
theorem isL_val {k : Nat} (x : Col) (l : List Int) (hk : l.length + 200 ≤ k) (hl : l.length ≤ 1000) : ∃ b c, impl_IsLesserColoured k x l = some (b, c) ∧ spec_IsLesserColoured k x l = some (b, c) ∧ (x.is → inP x l ∧ inc l → c = 0) ∧ (c = 0 → (x.is ∧ inP x l ∧ inc l) ∧ (b = true ↔ ∀ i : Int, 0 ≤ i → i < l.length → goodL x l i)) ∧ (¬ x.is → c = 1) := by
  classical
  unfold spec_IsLesserColoured impl_IsLesserColoured impl_Colouring_code impl_IsLesserColoured_c1
  rw [specSet_eq _ x l (by omega) (by omega), isColouring_eq _ (by omega)]
  by_cases h : x.is
  · rw [isSet_eq _ x h l (by omega) (by omega), if_pos h]
    by_cases hs : inP x l ∧ inc l
    · rw [if_pos hs, specLesser_eq _ x h l hs.1 hs.2 (by omega) (by omega), implLesser_eq _ x h l hs.1 hs.2 (by omega) (by omega)]
      by_cases hg : ∀ i : Int, 0 ≤ i → i < l.length → goodL x l i
      · refine ⟨true, 0, ?_, ?_, fun _ _ => rfl, fun _ => ⟨⟨h, hs.1, hs.2⟩, fun _ => hg, fun _ => rfl⟩, fun q => absurd h q⟩
        · rw [if_pos hg, decide_eq_true h, decide_eq_true hs]; rfl
        · simp only [decide_eq_true hg]; rfl
      · refine ⟨false, 0, ?_, ?_, fun _ _ => rfl, fun _ => ⟨⟨h, hs.1, hs.2⟩, fun q => (by cases q), fun q => absurd q hg⟩, fun q => absurd h q⟩
        · rw [if_neg hg, decide_eq_true h, decide_eq_true hs]; rfl
        · simp only [decide_eq_false hg]; rfl
    · refine ⟨false, 2, ?_, ?_, fun _ q => absurd q hs, fun q => by omega, fun q => absurd h q⟩
      · rw [decide_eq_true h, decide_eq_false hs]; rfl
      · rw [if_neg hs]; rfl
  · refine ⟨false, 1, ?_, ?_, fun q => absurd q h, fun q => by omega, fun _ => rfl⟩
    · rw [decide_eq_false h]; rfl
    · rw [if_neg h]; rfl

theorem les_ix (f : Int → Int → Int) : ∀ l : List Int, Les f l ↔ ∀ i j k : Nat, i < j → i < k → j < l.length → k < l.length → f (l.getD i 0) (l.getD j 0) = f (l.getD i 0) (l.getD k 0)
  | [] => ⟨fun _ i j k _ _ h => by simp at h, fun _ => trivial⟩
  | p :: s => by
    have ih := les_ix f s
    show ((∀ q ∈ s, ∀ r ∈ s, f p q = f p r) ∧ Les f s) ↔ _
    rw [ih]
    constructor
    · rintro ⟨h1, h2⟩ i j k hij hik hj hk
      obtain ⟨j, rfl⟩ : ∃ q, j = q + 1 := ⟨j - 1, by omega⟩
      obtain ⟨k, rfl⟩ : ∃ q, k = q + 1 := ⟨k - 1, by omega⟩
      simp only [List.length_cons] at hj hk
      cases i with
      | zero => exact h1 _ (mem_getD.2 ⟨j, by omega, rfl⟩) _ (mem_getD.2 ⟨k, by omega, rfl⟩)
      | succ i => exact h2 i j k (by omega) (by omega) (by omega) (by omega)
    · intro h
      refine ⟨fun q hq r hr => ?_, fun i j k a b c d => h (i + 1) (j + 1) (k + 1) (by omega) (by omega) (by simp; omega) (by simp; omega)⟩
      obtain ⟨j, hj, rfl⟩ := mem_getD.1 hq
      obtain ⟨k, hk, rfl⟩ := mem_getD.1 hr
      exact h 0 (j + 1) (k + 1) (by omega) (by omega) (by simp; omega) (by simp; omega)
theorem good_les (x : Col) (l : List Int) : (∀ i : Int, 0 ≤ i → i < l.length → goodL x l i) ↔ Les (fx x) l := by
  rw [les_ix]
  constructor
  · intro h i j k hij hik hj hk
    have key : ∀ j : Nat, i < j → j < l.length → x.cc (l.getD i 0) (l.getD j 0) = x.cc (l.getD i 0) (l.getD (i + 1) 0) := fun j h1 h2 => by
      by_cases e : j = i + 1
      · rw [e]
      · have := h i (by omega) (by omega) j (by omega) (by omega)
        have e1 : ((i : Int) + 1).toNat = i + 1 := by omega
        simp only [li, Int.toNat_natCast, e1] at this
        exact this
    show x.cc _ _ = x.cc _ _
    rw [key j hij hj, key k hik hk]
  · intro h i h0 h1 j hj hjl
    obtain ⟨i, rfl⟩ : ∃ q : Nat, i = q := ⟨i.toNat, by omega⟩
    obtain ⟨j, rfl⟩ : ∃ q : Nat, j = q := ⟨j.toNat, by omega⟩
    have := h i j (i + 1) (by omega) (by omega) (by omega) (by omega)
    have e1 : ((i : Int) + 1).toNat = i + 1 := by omega
    simp only [li, Int.toNat_natCast, e1]
    exact this

theorem inc_pw {l : List Int} : inc l ↔ l.Pairwise (· < ·) := by
  rw [List.pairwise_iff_getElem]
  constructor
  · intro h i j hi hj hij
    have := inc_at h (i := i) (j := j) (by omega) (by omega) (by omega)
    simp only [li, Int.toNat_natCast] at this
    have e1 : l.getD i 0 = l[i] := by simp [List.getD, hi]
    have e2 : l.getD j 0 = l[j] := by simp [List.getD, hj]
    rw [e1, e2] at this
    exact this
  · intro h i h0 h1
    obtain ⟨j, rfl⟩ : ∃ q : Nat, i = (q + 1 : Nat) := ⟨(i - 1).toNat, by omega⟩
    have := h j (j + 1) (by omega) (by omega) (by omega)
    have e1 : l.getD j 0 = l[j]'(by omega) := by simp [List.getD, show j < l.length by omega]
    have e2 : l.getD (j + 1) 0 = l[j + 1]'(by omega) := by simp [List.getD, show j + 1 < l.length by omega]
    show l.getD _ 0 < l.getD _ 0
    rw [show (((j + 1 : Nat) : Int) - 1).toNat = j by omega, Int.toNat_natCast, e1, e2]
    exact this
theorem allP_mem {x : Col} (hp : 1 ≤ x.p) {z : Int} : z ∈ allP x ↔ 0 ≤ z ∧ z < x.p := by
  unfold allP
  rw [pick_mem]
  constructor
  · rintro ⟨v, rfl, h, _⟩; omega
  · intro h; exact ⟨z.toNat, by omega, by omega, rfl⟩
theorem set_sub {x : Col} (hp : 1 ≤ x.p) {l : List Int} (h1 : inP x l) (h2 : inc l) : l.Sublist (allP x) := by
  have hin : ∀ z ∈ l, 0 ≤ z ∧ z < x.p := fun z hz => by
    obtain ⟨i, hi, rfl⟩ := mem_getD.1 hz
    have := h1 i (by omega) (by omega)
    simp only [li, Int.toNat_natCast] at this
    omega
  have e : (allP x).filter (fun z => decide (z ∈ l)) = l := pw_ext _ _ ((pick_pw _ _).filter _) (inc_pw.1 h2) fun z => by
    rw [List.mem_filter, decide_eq_true_eq, allP_mem hp]
    exact ⟨fun h => h.2, fun h => ⟨hin z h, h⟩⟩
  rw [← e]
  exact List.filter_sublist
theorem sub_set {x : Col} (hp : 1 ≤ x.p) {l : List Int} (h : l.Sublist (allP x)) : inP x l ∧ inc l := by
  refine ⟨fun i h0 h1 => ?_, inc_pw.2 ((pick_pw _ _).sublist h)⟩
  have := (allP_mem hp).1 (h.subset (mem_getD.2 ⟨i.toNat, by omega, rfl⟩))
  show 0 ≤ l.getD i.toNat 0 ∧ l.getD i.toNat 0 ≤ x.p - 1
  omega

/-- The lesser part. -/
def LPt (x : Col) : List Int := GG (fx x) none (allP x)
theorem LPt_facts {x : Col} (h : x.is) : (LPt x).Sublist (allP x) ∧ Les (fx x) (LPt x) ∧ (∀ s : List Int, s.Sublist (allP x) → Les (fx x) s → s.length ≤ (LPt x).length) ∧ (LPt x).length ≤ 17 := by
  have hp := h.1
  obtain ⟨m1, m2, m3⟩ := first_main (fx x) _ none (allP x) (Nat.le_refl _) (pick_pw _ _)
  have hlen : (allP x).length ≤ x.p.toNat := pick_length _ _
  refine ⟨m2.1, m2.2.1, fun s hs hl => ?_, ?_⟩
  · have := LL_sub (fx x) (allP x) (pick_pw _ _) s hs hl
    unfold LPt
    omega
  · have := m2.1.length_le
    unfold LPt
    omega
theorem part_val {k : Nat} (hk : 600000 ≤ k) (x : Col) : ∃ o c, impl_LesserPart k x = some (o, c) ∧ spec_LesserPart k x = some (o.getD [], c) ∧ (x.is → o = some (LPt x) ∧ c = 0) ∧ (¬ x.is → o = none ∧ c = 1) := by
  classical
  by_cases h : x.is
  · have hpp := h.1
    refine ⟨some (LPt x), 0, ?_, spec_lesser_eq x h k (by omega), fun _ => ⟨rfl, rfl⟩, fun q => absurd h q⟩
    unfold impl_LesserPart impl_Colouring_code impl_always
    rw [isColouring_eq k (by omega), decide_eq_true h]
    have hpts : impl_Colouring_points k x = some (allP x) := by
      unfold impl_Colouring_points
      rw [that_eq k x hpp (by omega) (fun a0 => some (impl_Colouring_points_c1 a0)) (fun _ => true) (fun j _ => rfl)]
      rfl
    simp [hpts, impl_lesser_eq x hpp k (by omega), LPt]
  · refine ⟨none, 1, ?_, ?_, fun q => absurd q h, fun _ => ⟨rfl, rfl⟩⟩
    · unfold impl_LesserPart impl_Colouring_code impl_always
      rw [isColouring_eq k (by omega), decide_eq_false h]
      simp
    · unfold spec_LesserPart
      rw [specIs_eq k (by omega), decide_eq_false h]
      rfl

/-! ### Cliques -/
theorem grt_mem : ∀ (L : List (List Int)) (s : List Int), grt L s = s ∨ grt L s ∈ L
  | [], s => .inl rfl
  | a :: t, s => by
    show grt t (if s.length < a.length then a else s) = s ∨ grt t (if s.length < a.length then a else s) ∈ a :: t
    rcases grt_mem t (if s.length < a.length then a else s) with h | h
    · rw [h]
      split
      · exact .inr (by simp)
      · exact .inl rfl
    · exact .inr (List.mem_cons_of_mem _ h)
theorem pts_all (x : Col) : pts x = allP x := by
  unfold pts
  refine pw_ext _ _ (ir_pw 0 _) (pick_pw _ _) fun z => ?_
  rw [mem_ir]
  unfold allP
  rw [pick_mem]
  constructor
  · intro h; exact ⟨z.toNat, by omega, by omega, rfl⟩
  · rintro ⟨v, rfl, h, _⟩; omega
theorem pair_les {x : Col} {c : Int} : ∀ l : List Int, l.Pairwise (fun a b => aB x c a b = true) → Les (fx x) l
  | [], _ => trivial
  | p :: s, h => by
    obtain ⟨h1, h2⟩ := List.pairwise_cons.1 h
    refine ⟨fun q hq r hr => ?_, pair_les s h2⟩
    have a := h1 q hq
    have b := h1 r hr
    unfold aB at a b
    simp only [decide_eq_true_eq] at a b
    show x.cc p q = x.cc p r
    rw [a.2, b.2]
theorem clique_le {x : Col} (h : x.is) (c : Int) : (grt (acl x c) []).length ≤ (LPt x).length := by
  obtain ⟨f1, f2, f3, _⟩ := LPt_facts h
  rcases grt_mem (acl x c) [] with e | e
  · rw [e]; simp
  · obtain ⟨a, b⟩ := (mem_ac _ _ _).1 (show grt (acl x c) [] ∈ [] :: ac (aB x c) (pts x) from e)
    rw [pts_all] at a
    exact f3 (grt (acl x c) []) a (pair_les _ b)
theorem cliques_val {k : Nat} (hk : 5000 ≤ k) {x : Col} (h : x.is) : impl_CliqueNumbers k x = some (some (mapL x.k.toNat fun c => ((grt (acl x c) []).length : Int)), 0) := by
  have hkk := h.2.1
  have ek : ((x.k.toNat : Nat) : Int) = x.k := by omega
  unfold impl_CliqueNumbers impl_always
  rw [((code_cases hk x).1 h).1]
  unfold impl_Colouring_cliqueNumbers
  have := collect (fun k' i s => impl_Colouring_cliqueNumbers_l0 k x k' i s) x.k.toNat (fun c => ((grt (acl x c) []).length : Int)) (fun k' i s hi hl => by
    have h1 : (i : Int) < x.k := by omega
    have hl' : s.length + ([(impl_size (grt (acl x i) []))]).length ≤ 1099511627776 := by simp; omega
    rw [impl_Colouring_cliqueNumbers_l0, greatest_eq hk x h.1 i, w64_id (by omega)]
    simp only [h1, decide_true, if_true, Option.bind_some, hl']
    rfl) (fun k' s => by rw [ek, impl_Colouring_cliqueNumbers_l0]; simp) k (by omega)
  simp only [Option.bind_some, decide_true, Bool.not_true, Bool.false_eq_true, if_false, this]
theorem clique_loop {k : Nat} (hk : 100 ≤ k) {x : Col} (h : x.is) (c1 c2 : Int) : laws_FnLesserParts_l1 (some (LPt x), c1) (some (mapL x.k.toNat fun c => ((grt (acl x c) []).length : Int)), c2) k 0 = some (.inl ()) := by
  have hkk := h.2.1
  have hl := mapL_length x.k.toNat (fun c : Nat => ((grt (acl x c) []).length : Int))
  obtain ⟨L, hL⟩ : ∃ L, L = mapL x.k.toNat (fun c : Nat => ((grt (acl x c) []).length : Int)) := ⟨_, rfl⟩
  rw [← hL] at hl ⊢
  rw [loopAll (f := fun k' i => laws_FnLesserParts_l1 (some (LPt x), c1) (some L, c2) k' i) (L.length : Int) false (fun _ => True) 0 ?_ ?_ ?_ k 0 (by omega) (by omega), if_pos (fun _ _ _ => trivial)]
  all_goals intro k' i h0
  · intro h1 _
    show laws_FnLesserParts_l1 (some (LPt x), c1) (some L, c2) (k' + 1) i = _
    rw [laws_FnLesserParts_l1]
    simp only [Option.getD_some]
    obtain ⟨c, rfl⟩ : ∃ c : Nat, i = c := ⟨i.toNat, by omega⟩
    have hg : L.getD c 0 = ((grt (acl x c) []).length : Int) := by rw [hL]; exact mapL_get _ _ c (by omega)
    have := clique_le h c
    rw [if_pos (decide_eq_true h1), if_pos ⟨h0, h1⟩, Int.toNat_natCast, if_neg (show ¬ decide (((LPt x).length : Int) < L.getD c 0) = true from by rw [decide_eq_true_eq, hg]; omega), w64_succ h0 h1 (by omega)]
  · intro h1 hq; exact absurd trivial hq
  · show laws_FnLesserParts_l1 (some (LPt x), c1) (some L, c2) (k' + 1) i = _
    rw [laws_FnLesserParts_l1]
    dsimp only [Option.getD_some]
    rw [if_neg (by simp only [decide_eq_true_eq]; omega)]

/-! ### Cups and caps -/
theorem best_uniq {l : List (List Int)} {s st a b : Int} {n : Nat} (ha : BestC l s st n 0 a) (hb : BestC l s st n 0 b) : a = b := by
  obtain ⟨a1, a2, a3⟩ := ha
  obtain ⟨b1, b2, b3⟩ := hb
  have l1 : a ≤ b := by
    rcases a3 with a3 | ⟨j', i', h1, h2, e'⟩
    · omega
    · rw [e']; exact b2 j' i' h1 h2
  have l2 : b ≤ a := by
    rcases b3 with b3 | ⟨j', i', h1, h2, e'⟩
    · omega
    · rw [e']; exact a2 j' i' h1 h2
  omega
theorem best_range {l : List (List Int)} {s b : Int} {n : Nat} (hn : 1 ≤ n) (hb : BestC l s (if n = 1 then 1 else 2) n 0 b) : 1 ≤ b ∧ (1 < n → 2 ≤ b) ∧ b ≤ n := by
  obtain ⟨b1, b2, b3⟩ := hb
  have hst : (if n = 1 then (1 : Int) else 2) ≤ n ∧ 1 ≤ (if n = 1 then (1 : Int) else 2) ∧ (1 < n → (if n = 1 then (1 : Int) else 2) = 2) := by
    split <;> omega
  refine ⟨by omega, fun h => by have := hst.2.2 h; omega, ?_⟩
  rcases b3 with b3 | ⟨j', i', h1, h2, e'⟩
  · omega
  · have := (V_bound l s i' j').2
    omega
def mir (l : List (List Int)) : List (List Int) := l.map fun q => [q.getD 0 0, -(q.getD 1 0)]
theorem mir_get (l : List (List Int)) (h : Nat) : ((mir l).getD h []).getD 0 0 = (l.getD h []).getD 0 0 ∧ ((mir l).getD h []).getD 1 0 = -((l.getD h []).getD 1 0) := by
  unfold mir
  by_cases hh : h < l.length
  · have e1 : (l.map fun q : List Int => [q.getD 0 0, -(q.getD 1 0)]).getD h [] = [(l.getD h []).getD 0 0, -((l.getD h []).getD 1 0)] := by
      simp [List.getD, hh]
    rw [e1]
    exact ⟨rfl, rfl⟩
  · have e1 : (l.map fun q : List Int => [q.getD 0 0, -(q.getD 1 0)]).getD h [] = [] := by
      have hn : l[h]? = none := List.getElem?_eq_none (by omega)
      simp [List.getD, hn]
    have e2 : l.getD h [] = [] := by simp [List.getD, List.getElem?_eq_none (show l.length ≤ h by omega)]
    rw [e1, e2]
    exact ⟨rfl, rfl⟩
theorem mir_bd (l : List (List Int)) (h i j : Nat) : bd ((mir l).getD h []) ((mir l).getD i []) ((mir l).getD j []) = -(bd (l.getD h []) (l.getD i []) (l.getD j [])) := by
  unfold bd
  rw [(mir_get l h).1, (mir_get l h).2, (mir_get l i).1, (mir_get l i).2, (mir_get l j).1, (mir_get l j).2]
  generalize (l.getD h []).getD 0 0 = a0
  generalize (l.getD h []).getD 1 0 = a1
  generalize (l.getD i []).getD 0 0 = b0
  generalize (l.getD i []).getD 1 0 = b1
  generalize (l.getD j []).getD 0 0 = c0
  generalize (l.getD j []).getD 1 0 = c1
  rw [show -c1 - -b1 = -(c1 - b1) by omega, show -b1 - -a1 = -(b1 - a1) by omega, Int.neg_mul, Int.neg_mul]
  omega
theorem mir_cnd (l : List (List Int)) (s : Int) (h i j : Nat) : cnd (mir l) s h i j ↔ cnd l (-s) h i j := by
  unfold cnd
  rw [mir_bd, Int.mul_neg, Int.neg_mul]
theorem mir_V (l : List (List Int)) (s : Int) (i j : Nat) : Va (mir l) s i j = Va l (-s) i j := by
  have key : ∀ f i j, Vf (mir l) s f i j = Vf l (-s) f i j := by
    intro f
    induction f with
    | zero => intro i j; rw [Vf, Vf]
    | succ f ih =>
      intro i j
      rw [Vf, Vf]
      refine foldl_congr _ _ _ _ fun h _ m => ?_
      rw [ih h i]
      by_cases hc : cnd (mir l) s h i j
      · rw [if_pos hc, if_pos ((mir_cnd l s h i j).1 hc)]
      · rw [if_neg hc, if_neg (fun q => hc ((mir_cnd l s h i j).2 q))]
  exact key i i j
theorem mir_best {l : List (List Int)} {s st b : Int} {n : Nat} (h : BestC (mir l) s st n 0 b) : BestC l (-s) st n 0 b := by
  obtain ⟨h1, h2, h3⟩ := h
  refine ⟨h1, fun j' i' a c => by rw [← mir_V]; exact h2 j' i' a c, ?_⟩
  rcases h3 with h3 | ⟨j', i', a, c, e⟩
  · exact .inl h3
  · exact .inr ⟨j', i', a, c, by rw [← mir_V]; exact e⟩
theorem mir_ok {l : List (List Int)} (h : rOK l) : rOK (mir l) := by
  have hlen : (mir l).length = l.length := by simp [mir]
  refine ⟨by rw [hlen]; exact h.1, fun i hi => ?_⟩
  rw [hlen] at hi
  obtain ⟨p1, p2, p3, p4⟩ := h.2 i hi
  have hl2 : ((mir l).getD i []).length = 2 := by
    have e1 : (mir l).getD i [] = [(l.getD i []).getD 0 0, -((l.getD i []).getD 1 0)] := by simp [mir, List.getD, hi]
    rw [e1]; rfl
  refine ⟨hl2, by rw [(mir_get l i).1]; exact p2, by rw [(mir_get l i).2]; omega, fun h0 => ?_⟩
  rw [(mir_get l i).1, (mir_get l (i - 1)).1]
  exact p4 h0
theorem cups_val {k : Nat} (hk : 5000 ≤ k) (l : List (List Int)) (hl : l.length ≤ 1000) (hq : ∀ q ∈ l, q.length ≤ 100) : ∃ a b c, impl_CupsAndCaps k l = some (a, b, c) ∧ spec_CupsAndCaps k l = some (a, b, c) ∧ (c = 0 → rOK l ∧ BestC l 1 (if l.length = 1 then 1 else 2) l.length 0 a ∧ BestC l (-1) (if l.length = 1 then 1 else 2) l.length 0 b) ∧ (rOK l → c = 0) := by
  classical
  have hq' : ∀ q ∈ l, q.length + 2 ≤ k ∧ (q.length : Int) ≤ 1048576 := fun q h => by have := hq q h; omega
  unfold spec_CupsAndCaps impl_CupsAndCaps
  rw [specRow_eq l k (by omega) (by omega), implRow_eq l k (by omega) (by omega) hq']
  by_cases hr : rOK l
  · obtain ⟨a, a1, a2⟩ := chains l 1 hr (.inl rfl) k (by omega)
    obtain ⟨b, b1, b2⟩ := chains l (-1) hr (.inr rfl) k (by omega)
    obtain ⟨a', a3, a4⟩ := impl_chain l 1 hr (.inl rfl) k (by omega)
    obtain ⟨b', b3, b4⟩ := impl_chain l (-1) hr (.inr rfl) k (by omega)
    have ea : a' = a := by rw [a2] at a3; cases a3; rfl
    have eb : b' = b := by rw [b2] at b3; cases b3; rfl
    subst ea eb
    exact ⟨a', b', 0, by simp [hr, a2, b2], by simp [hr, a1, b1], fun _ => ⟨hr, a4, b4⟩, fun _ => rfl⟩
  · exact ⟨0, 0, 2, by simp [hr], by simp [hr], fun h => by omega, fun h => absurd h hr⟩
theorem mir_loop {k : Nat} (hk : 100 ≤ k) {l : List (List Int)} (h : rOK l) : laws_FnLesserParts_l0 l k 0 [] = some (mir l) := by
  have hl := h.1
  have := loopI (f := fun k' i (s : List (List Int)) => laws_FnLesserParts_l0 l k' i s) (l.length : Int) 0 (fun i s => i ≤ l.length ∧ s = mir (l.take i.toNat)) (fun s => s = mir l) ?_ ?_ k 0 [] (by omega) (by omega) ⟨by omega, rfl⟩
  · obtain ⟨s, e, rfl⟩ := this
    exact e
  · rintro k' i s h0 h1 ⟨q1, rfl⟩
    left
    obtain ⟨a, rfl⟩ : ∃ a : Nat, i = a := ⟨i.toNat, by omega⟩
    have ha : a < l.length := by omega
    obtain ⟨p1, p2, p3, _⟩ := h.2 a ha
    refine ⟨mir (l.take (a + 1)), ?_, by omega, by rw [show ((a : Int) + 1).toNat = a + 1 by omega]⟩
    show laws_FnLesserParts_l0 l (k' + 1) a _ = _
    have hg : 0 ≤ (a : Int) ∧ (a : Int) < (l.length : Int) := ⟨h0, h1⟩
    have hlen : (mir (l.take a)).length ≤ 17 := by simp [mir]; omega
    have hw : w64 (0 - (l.getD a []).getD 1 0) = -((l.getD a []).getD 1 0) := by rw [w64_id (by omega)]; omega
    rw [laws_FnLesserParts_l0, if_pos (decide_eq_true h1), if_pos hg, if_pos hg, Int.toNat_natCast, if_pos (by rw [p1]; omega), if_pos (by rw [p1]; omega), show (0 : Int).toNat = 0 from rfl, show (1 : Int).toNat = 1 from rfl, hw, if_pos (by simp only [List.length_singleton]; omega), w64_succ h0 h1 (by omega)]
    have e2 : mir (l.take (a + 1)) = mir (l.take a) ++ [[(l.getD a []).getD 0 0, -((l.getD a []).getD 1 0)]] := by
      unfold mir
      rw [List.take_succ_eq_append_getElem ha, List.map_append]
      have : l.getD a [] = l[a] := by simp [List.getD, ha]
      rw [this]; rfl
    rw [e2]
  · rintro k' i s h0 h1 ⟨q1, rfl⟩
    refine ⟨mir l, ?_, rfl⟩
    show laws_FnLesserParts_l0 l (k' + 1) i _ = _
    rw [laws_FnLesserParts_l0, if_neg (by simp only [decide_eq_true_eq]; omega), show i.toNat = l.length by omega, List.take_length]

/-! ### The cap and cup number -/
theorem choose_same (n m : Int) : ∀ (k : Nat) (a i : Int), impl_binomial_l0 n m k a i = spec_l08Choose_l0 n m k a i := by
  intro k
  induction k with
  | zero => intro a i; rfl
  | succ k ih =>
    intro a i
    rw [impl_binomial_l0, spec_l08Choose_l0]
    simp only [ih]
theorem choose_some (n m : Int) (hm : m ≤ 100) : ∀ (d k : Nat) (a i : Int), 0 ≤ i → (m - i).toNat ≤ d → d < k → ∃ v, spec_l08Choose_l0 n m k a i = some v := by
  intro d
  induction d with
  | zero =>
    intro k a i h0 h1 h2
    obtain ⟨k, rfl⟩ : ∃ q, k = q + 1 := ⟨k - 1, by omega⟩
    exact ⟨a, by rw [spec_l08Choose_l0, if_neg (by simp only [decide_eq_true_eq]; omega)]⟩
  | succ d ih =>
    intro k a i h0 h1 h2
    obtain ⟨k, rfl⟩ : ∃ q, k = q + 1 := ⟨k - 1, by omega⟩
    by_cases h : i < m
    · have hw : w64 (i + 1) = i + 1 := w64_id (by omega)
      rw [spec_l08Choose_l0, if_pos (decide_eq_true h), hw, if_pos (by omega)]
      exact ih k _ (i + 1) (by omega) (by omega) (by omega)
    · exact ⟨a, by rw [spec_l08Choose_l0, if_neg (by simpa using h)]⟩
theorem cupN_val {k : Nat} (hk : 5000 ≤ k) (a b : Int) : ∃ v c, impl_CupNumber k a b = some (v, c) ∧ spec_CupNumber k a b = some (v, c) := by
  unfold impl_CupNumber spec_CupNumber impl_binomial spec_l08Choose
  rw [in_eq, in_eq, specIn_eq, specIn_eq]
  simp only [choose_same]
  by_cases ha : 2 ≤ a ∧ a ≤ 16
  · by_cases hb : 2 ≤ b ∧ b ≤ 16
    · obtain ⟨v, e⟩ := choose_some (w64 (w64 (a + b) - 4)) (w64 (a - 2)) (by rw [w64_id (by omega)]; omega) 20 k 1 0 (by omega) (by rw [w64_id (by omega)]; omega) (by omega)
      rw [decide_eq_true ha, decide_eq_true hb, e]
      exact ⟨_, 0, rfl, rfl⟩
    · rw [decide_eq_true ha, decide_eq_false hb]
      exact ⟨0, 2, rfl, rfl⟩
  · rw [decide_eq_false ha]
    exact ⟨0, 2, rfl, rfl⟩

/-! ### Draws -/
theorem drawLes_ok {k : Nat} (hk : 600000 ≤ k) (c : List UInt8) (hc : c.length ≤ 4096) : ∃ x l, spec_DrawIsLesserColoured k c = some (x, l) ∧ l.length ≤ 100 := by
  unfold spec_DrawIsLesserColoured
  obtain ⟨s, e1, k1⟩ := from_ok (k := k) (by omega) c hc
  obtain ⟨x, s2, e2, k2⟩ := spoil_ok (k := k) (by omega) s k1
  obtain ⟨l, s3, e3, k3, hl⟩ := drawSet_ok (k := k) (by omega) s2 (if 17 < (if x.p < 1 then 1 else x.p) then 17 else (if x.p < 1 then 1 else x.p)) k2 (by split <;> split <;> omega)
  obtain ⟨o, e, _, e4, h1, h2⟩ := part_val hk x
  have hol : (o.getD []).length ≤ 17 := by
    by_cases h : x.is
    · rw [(h1 h).1]; exact (LPt_facts h).2.2.2
    · rw [(h2 h).1]; simp
  rw [e1, Option.bind_some, e2, Option.bind_some]
  dsimp only
  rw [e3, Option.bind_some, e4, Option.bind_some]
  dsimp only
  obtain ⟨v, s5, e5, _, _⟩ := next_ok s3 2 k3
  by_cases h0 : e = 0
  · rw [if_pos (decide_eq_true h0), e5]
    simp only [Option.bind_some]
    by_cases hv : v = 0
    · rw [if_pos (decide_eq_true hv)]
      exact ⟨x, _, rfl, by omega⟩
    · rw [if_neg (by simpa using hv)]
      exact ⟨x, _, rfl, by omega⟩
  · rw [if_neg (by simpa using h0)]
    simp only [Option.bind_some, Bool.false_eq_true, if_false]
    exact ⟨x, _, rfl, by omega⟩
theorem drawRows_ok {k : Nat} (hk : 5000 ≤ k) (c : List UInt8) (hc : c.length ≤ 4096) : ∃ l, spec_DrawCupsAndCaps k c = some l ∧ l.length ≤ 1000 ∧ ∀ q ∈ l, q.length ≤ 100 := by
  unfold spec_DrawCupsAndCaps
  obtain ⟨s, e1, k1⟩ := from_ok hk c hc
  obtain ⟨v, s2, e2, k2, _, _⟩ := next_ok s 40 k1
  obtain ⟨n, s3, e3, k3, hn, _⟩ := next_ok s2 18 k2
  obtain ⟨n0, n1⟩ := hn (by omega)
  rw [e1, Option.bind_some, e2, Option.bind_some]
  dsimp only
  rw [e3, Option.bind_some]
  dsimp only
  have loop : ∀ (d f : Nat) (a : Int) (t : Src) (l : List (List Int)), d < f → okS t → l.length + d ≤ 17 → (∀ q ∈ l, q.length = 2) → ∃ a' t' l', spec_DrawCupsAndCaps_l0 f a (d : Int) t l = some (a', t', l') ∧ okS t' ∧ l'.length ≤ 17 ∧ ∀ q ∈ l', q.length = 2 := by
    intro d
    induction d with
    | zero =>
      intro f a t l hf ht hl hq
      obtain ⟨f, rfl⟩ : ∃ q, f = q + 1 := ⟨f - 1, by omega⟩
      exact ⟨a, t, l, by rw [spec_DrawCupsAndCaps_l0, if_neg (by simp)], ht, by omega, hq⟩
    | succ d ih =>
      intro f a t l hf ht hl hq
      obtain ⟨f, rfl⟩ : ∃ q, f = q + 1 := ⟨f - 1, by omega⟩
      obtain ⟨u1, t1, g1, j1, _⟩ := next_ok t 41 ht
      obtain ⟨u2, t2, g2, j2, _⟩ := next_ok t1 3 j1
      obtain ⟨u3, t3, g3, j3, _⟩ := next_ok t2 5 j2
      have hw : w64 (((d + 1 : Nat) : Int) - 1) = (d : Int) := by rw [w64_id (by omega)]; omega
      obtain ⟨y, ey⟩ : ∃ y, ((if decide (u2 = 0) then some (w64 ((w64 ((w64 (a * a)).tdiv 20)) - 10), t2) else some (w64 (u1 - 20), t2)) : Option (Int × Src)) = some (y, t2) := by
        by_cases h : u2 = 0
        · exact ⟨_, by rw [if_pos (decide_eq_true h)]⟩
        · exact ⟨_, by rw [if_neg (by simpa using h)]⟩
      rw [spec_DrawCupsAndCaps_l0, if_pos (decide_eq_true (by omega)), g1, Option.bind_some]
      dsimp only
      rw [g2, Option.bind_some]
      dsimp only
      rw [ey, Option.bind_some]
      dsimp only
      rw [if_pos (by omega), g3, Option.bind_some, Option.bind_some]
      dsimp only
      rw [hw]
      exact ih f _ t3 _ (by omega) j3 (by simp; omega) fun q hq2 => by
        rcases List.mem_append.1 hq2 with h | h
        · exact hq q h
        · simp at h; rw [h]; rfl
  obtain ⟨a, t, l, e4, k4, hl, hq⟩ := loop n.toNat k (w64 (0 - v)) s3 [] (by omega) k3 (by simp; omega) (fun q hq => by simp at hq)
  rw [show ((n.toNat : Nat) : Int) = n by omega] at e4
  rw [e4, Option.bind_some]
  dsimp only
  obtain ⟨w, s5, e5, k5, _, _⟩ := next_ok t 24 k4
  rw [e5, Option.bind_some]
  dsimp only
  have hq100 : ∀ q ∈ l, q.length ≤ 100 := fun q h => by have := hq q h; omega
  by_cases h0 : w = 0
  · rw [if_pos (decide_eq_true h0), if_pos (by omega)]
    refine ⟨_, rfl, by simp; omega, fun q h => ?_⟩
    rcases List.mem_append.1 h with h | h
    · exact hq100 q h
    · simp at h; rw [h]; simp
  · rw [if_neg (by simpa using h0)]
    by_cases h1 : w = 1
    · rw [if_pos (decide_eq_true h1)]
      by_cases h2 : (0 : Int) < (l.length : Int)
      · obtain ⟨u1, t1, g1, j1, hu, _⟩ := next_ok s5 2 k5
        obtain ⟨u2, t2, g2, _, _⟩ := pick_ok t1 [-1001, 1001, -50, 1000] j1 (by simp)
        obtain ⟨m0, m1⟩ := hu (by omega)
        have hw : w64 ((l.length : Int) - 1) = ((l.length - 1 : Nat) : Int) := by rw [w64_id (by omega)]; omega
        have hrow : (l.getD (l.length - 1) []).length = 2 := by
          have e : l.getD (l.length - 1) [] = l[l.length - 1]'(by omega) := by simp [List.getD, show l.length - 1 < l.length by omega]
          rw [e]; exact hq _ (List.getElem_mem _)
        rw [if_pos (decide_eq_true h2), hw, if_pos ⟨by omega, by omega⟩, g1, Option.bind_some]
        dsimp only
        rw [g2, Option.bind_some, Int.toNat_natCast, if_pos (by rw [hrow]; omega)]
        refine ⟨_, rfl, by simp; omega, fun q h => ?_⟩
        rcases List.mem_or_eq_of_mem_set h with h | h
        · exact hq100 q h
        · rw [h, List.length_set, hrow]; omega
      · rw [if_neg (by simpa using h2)]
        exact ⟨l, rfl, by omega, hq100⟩
    · rw [if_neg (by simpa using h1)]
      exact ⟨l, rfl, by omega, hq100⟩
theorem drawCup_ok {k : Nat} (hk : 5000 ≤ k) (c : List UInt8) (hc : c.length ≤ 4096) : ∃ a b, spec_DrawCupNumber k c = some (a, b) := by
  unfold spec_DrawCupNumber spec_l08Two
  obtain ⟨s, e1, k1⟩ := from_ok hk c hc
  obtain ⟨v, s2, e2, k2, _, _⟩ := next_ok s (w64 ((w64 (16 - 2)) + 1)) k1
  obtain ⟨m, s3, e3, k3, _⟩ := pick_ok s2 [4, w64 ((w64 (16 - 2)) + 1)] k2 (by simp)
  obtain ⟨u, s4, e4, k4, _, _⟩ := next_ok s3 m k3
  obtain ⟨w, s5, e5, k5, _, _⟩ := next_ok s4 24 k4
  rw [e1, Option.bind_some, e2, Option.bind_some]
  dsimp only
  rw [e3, Option.bind_some]
  dsimp only
  rw [e4, Option.bind_some]
  dsimp only
  rw [e5, Option.bind_some]
  dsimp only
  by_cases h0 : w = 0
  · obtain ⟨q, s6, e6, _⟩ := pick_ok s5 [w64 (2 - 1), w64 (16 + 1), -4611686018427387904] k5 (by simp)
    exact ⟨_, _, by rw [if_pos (decide_eq_true h0), e6]; rfl⟩
  · rw [if_neg (by simpa using h0)]
    by_cases h1 : w = 1
    · obtain ⟨q, s6, e6, _⟩ := pick_ok s5 [w64 (2 - 1), w64 (16 + 1), 1099511627776] k5 (by simp)
      exact ⟨_, _, by rw [if_pos (decide_eq_true h1), e6]; rfl⟩
    · exact ⟨_, _, by rw [if_neg (by simpa using h1)]; rfl⟩

/-! ### The law -/
theorem lesserParts_pure (c : List UInt8) : ∃ k, laws_FnLesserParts k c = some true := by
  obtain ⟨k, hk0⟩ : ∃ k : Nat, k = 600000 := ⟨_, rfl⟩
  refine ⟨k, ?_⟩
  have hk : 600000 ≤ k := by omega
  clear hk0
  unfold laws_FnLesserParts laws_big
  by_cases hb : (4096 : Int) < (c.length : Int)
  · rw [if_pos (decide_eq_true hb)]
  rw [if_neg (by simpa using hb)]
  have hc : c.length ≤ 4096 := by omega
  obtain ⟨x, pl, e0, hpl⟩ := drawLes_ok hk c hc
  obtain ⟨b1, c1, i1, s1, z1, y1, n1⟩ := isL_val (k := k) x pl (by omega) (by omega)
  obtain ⟨o, c2, i2, s2, z2, n2⟩ := part_val hk x
  obtain ⟨row, e3, hr1, hr2⟩ := drawRows_ok (k := k) (by omega) c hc
  obtain ⟨cu, ca, c3, i3, s3, z3, y3⟩ := cups_val (k := k) (by omega) row hr1 hr2
  obtain ⟨a, b, e4⟩ := drawCup_ok (k := k) (by omega) c hc
  obtain ⟨v4, c4, i4, s4⟩ := cupN_val (k := k) (by omega) a b
  have hol : (o.getD []).length ≤ 17 := by
    by_cases h : x.is
    · rw [(z2 h).1]; exact (LPt_facts h).2.2.2
    · rw [(n2 h).1]; simp
  rw [e0, Option.bind_some]
  dsimp only
  have hlk := like_refl k (o.getD []) (by omega) (by omega)
  simp only [i1, s1, i2, s2, e3, i3, s3, e4, i4, s4, hlk, letO, decide_true, Bool.not_true, Bool.false_eq_true, if_false, Option.bind_some, beq_self_eq_true]
  generalize hM : (if decide (c3 = 0) = true then _ else _ : Option (Sum Unit Bool)) = M
  have hMM : M = some (.inl ()) := by
    rw [← hM]
    by_cases h0 : c3 = 0
    · obtain ⟨hok, B1, B2⟩ := z3 h0
      obtain ⟨u1, u2, u3⟩ := best_range hok.1.1 B1
      obtain ⟨w1, w2, w3⟩ := best_range hok.1.1 B2
      have hml : (mir row).length = row.length := by simp [mir]
      obtain ⟨cu', ca', c5, i5, _, z5, y5⟩ := cups_val (k := k) (by omega) (mir row) (by omega) (fun q hq => by
        unfold mir at hq
        obtain ⟨p, _, rfl⟩ := List.mem_map.1 hq
        simp)
      have h5 := y5 (mir_ok hok)
      obtain ⟨_, B3, B4⟩ := z5 h5
      rw [hml] at B3 B4
      have hcu : cu' = ca := best_uniq (mir_best B3) B2
      have hca : ca' = cu := by
        have := mir_best B4
        exact best_uniq this B1
      have cond1 : (if decide (cu < 1) = true then true else if decide (ca < 1) = true then true else if decide (1 < (row.length : Int)) = true then (if decide (cu < 2) = true then true else if decide (ca < 2) = true then true else if decide ((row.length : Int) < cu) = true then true else decide ((row.length : Int) < ca)) else (if decide ((row.length : Int) < cu) = true then true else decide ((row.length : Int) < ca))) = false := by
        rw [decide_eq_false (show ¬ cu < 1 by omega), decide_eq_false (show ¬ ca < 1 by omega), decide_eq_false (show ¬ (row.length : Int) < cu by omega), decide_eq_false (show ¬ (row.length : Int) < ca by omega)]
        by_cases hr : (1 : Int) < (row.length : Int)
        · rw [decide_eq_true hr, decide_eq_false (show ¬ cu < 2 by have := u2 (by omega); omega), decide_eq_false (show ¬ ca < 2 by have := w2 (by omega); omega)]
          rfl
        · rw [decide_eq_false hr]; rfl
      rw [if_pos (decide_eq_true h0), cond1]
      simp only [Bool.false_eq_true, if_false, Option.bind_some]
      rw [mir_loop (by omega) hok, Option.bind_some, i5, Option.bind_some]
      dsimp only
      rw [h5, hcu, hca]
      simp
    · rw [if_neg (by simpa using h0)]
  rw [hMM]
  simp only [Option.bind_some]
  clear hMM hM
  by_cases hx : x.is
  · obtain ⟨rfl, rfl⟩ := z2 hx
    obtain ⟨f1, f2, f3, f4⟩ := LPt_facts hx
    have hp := hx.1
    obtain ⟨t1, t2⟩ := sub_set hp.1 f1
    obtain ⟨b6, c6, i6, _, z6, y6, _⟩ := isL_val (k := k) x (LPt x) (by omega) (by omega)
    have h6 := z6 hx ⟨t1, t2⟩
    have hb6 := (y6 h6).2.2 ((good_les x _).2 f2)
    have hone : 1 ≤ (LPt x).length := by
      have := f3 [0] (by
        rw [List.singleton_sublist]
        exact (allP_mem hp.1).2 (by omega)) (by exact ⟨fun q hq => by simp at hq, trivial⟩)
      simpa using this
    have htwo : 1 < x.p → 2 ≤ (LPt x).length := fun h1 => by
      have hsub : ([0, 1] : List Int).Sublist (allP x) := set_sub hp.1 (fun i h0 hi => by
        simp at hi
        have : i = 0 ∨ i = 1 := by omega
        rcases this with rfl | rfl <;> simp [li] <;> omega) (inc_pw.2 (by simp))
      have := f3 [0, 1] hsub (by
        refine ⟨fun q hq r hr => ?_, fun q hq => by simp at hq, trivial⟩
        simp at hq hr
        rw [hq, hr])
      simpa using this
    have hle : c1 = 0 → b1 = true → pl.length ≤ (LPt x).length := fun h0 h1 => by
      obtain ⟨⟨_, q1, q2⟩, q3⟩ := y1 h0
      exact f3 _ (set_sub hp.1 q1 q2) ((good_les x _).1 (q3.1 h1))
    rw [if_neg (by simp)]
    simp only [Option.getD_some]
    rw [i6, Option.bind_some, h6, hb6]
    have cond2 : (if decide (((LPt x).length : Int) < 1) = true then true else if decide (1 < x.p) = true then decide (((LPt x).length : Int) < 2) else false) = false := by
      rw [decide_eq_false (show ¬ ((LPt x).length : Int) < 1 by omega)]
      by_cases h : 1 < x.p
      · rw [decide_eq_true h, decide_eq_false (show ¬ ((LPt x).length : Int) < 2 by have := htwo h; omega)]; rfl
      · rw [decide_eq_false h]; rfl
    have cond3 : (if decide (c1 = 0) = true then if b1 = true then decide (((LPt x).length : Int) < (pl.length : Int)) else false else false) = false := by
      by_cases h0 : c1 = 0
      · rw [if_pos (decide_eq_true h0)]
        cases hb1 : b1 with
        | false => rfl
        | true =>
          rw [if_pos rfl]
          have := hle h0 hb1
          exact decide_eq_false (by omega)
      · rw [if_neg (by simpa using h0)]
    simp only [decide_true, Bool.not_true, Bool.false_eq_true, if_false, cond2, cond3, Option.bind_some]
    rw [cliques_val (by omega) hx, Option.bind_some, clique_loop (by omega) hx]
    rfl
  · obtain ⟨rfl, rfl⟩ := n2 hx
    have h1 := n1 hx
    rw [h1]
    simp
end Go.Proofs.Ytfnbhfobgimnjaa
