/- The plain law of FnUps, part two: orders come back, closed paths are cliques, and the law. No conditions beyond those that each lemma states. -/
import Derived.Test.YtfpcopidcagdaaaPureUps
set_option linter.unusedVariables false
set_option linter.unusedSimpArgs false
namespace Go.Proofs.Ytfpcopidcagdaaa
open Go Go.RowKit Ab

/-! ### Orders -/
theorem cc_two {x : Col} (hx : x.is) (hk : x.k = 2) (a b : Int) (ha : 0 ≤ a) (h : a < b) (hb : b < x.p) : x.cc a b = 0 ∨ x.cc a b = 1 := by
  have hp := hx.1
  have h136 := eN_136 (i := a.toNat) (j := b.toNat) (by omega) (by omega) (by omega)
  have hlt := eN_lt (i := a.toNat) (j := b.toNat) (n := x.p.toNat) (by omega) (by omega) (by omega)
  have key : ∀ n : Nat, n ≤ 17 → 1 ≤ n → w64 ((w64 ((n : Int) * (w64 ((n : Int) - 1)))).tdiv 2) = (tri n : Nat) := by decide +kernel
  obtain ⟨n, hn⟩ := nat_of (show 0 ≤ x.p by omega)
  have hE : tE x = (tri n : Nat) := by
    unfold tE
    rw [hn]
    exact key n (by omega) (by omega)
  have hok := (hx.2.2 (eN a.toNat b.toNat : Nat) (by omega) (by omega)).1 (by rw [hE]; rw [hn] at hlt; simp at hlt; omega)
  have e : x.cc a b = ((x.get (eN a.toNat b.toNat)).toNat : Int) := rfl
  simp only [Int.toNat_natCast] at hok
  omega

theorem less_iff (x : Col) (i j : Int) : less x i j = true ↔ (j < i ∧ x.cc j i = 0) ∨ (i < j ∧ x.cc i j = 1) := by
  unfold less
  by_cases h1 : j < i
  · have : ¬ i < j := by omega
    simp [h1, this]
  · by_cases h2 : i < j
    · simp [h1, h2]
    · simp [h1, h2]

theorem less_trans {x : Col} (hx : x.is) (hk : x.k = 2) (h0 : closed x 0) (h1 : closed x 1) {i j m : Int} (hi : 0 ≤ i ∧ i < x.p) (hj : 0 ≤ j ∧ j < x.p) (hm : 0 ≤ m ∧ m < x.p) (a : less x i j = true) (b : less x m i = true) : less x m j = true := by
  rw [less_iff] at a b ⊢
  have two := fun u v => cc_two hx hk u v
  have c0 : ∀ u v w : Int, 0 ≤ u → u < v → v < w → w < x.p → x.cc u v = 0 → x.cc v w = 0 → x.cc u w = 0 := fun u v w g0 g1 g2 g3 e1 e2 => by
    have := h0 w v u g3 g2 g1 g0
    unfold bad at this
    exact Classical.byContradiction fun e => this ⟨e1, e2, e⟩
  have c1 : ∀ u v w : Int, 0 ≤ u → u < v → v < w → w < x.p → x.cc u v = 1 → x.cc v w = 1 → x.cc u w = 1 := fun u v w g0 g1 g2 g3 e1 e2 => by
    have := h1 w v u g3 g2 g1 g0
    unfold bad at this
    exact Classical.byContradiction fun e => this ⟨e1, e2, e⟩
  rcases a with ⟨a1, a2⟩ | ⟨a1, a2⟩ <;> rcases b with ⟨b1, b2⟩ | ⟨b1, b2⟩
  · exact .inl ⟨by omega, c0 j i m hj.1 a1 b1 hm.2 a2 b2⟩
  · rcases Int.lt_trichotomy j m with h | h | h
    · rcases two j m hj.1 h hm.2 with e | e
      · exact .inl ⟨h, e⟩
      · have := c1 j m i hj.1 h b1 hi.2 e b2; omega
    · subst h; omega
    · rcases two m j hm.1 h hj.2 with e | e
      · have := c0 m j i hm.1 h a1 hi.2 e a2; omega
      · exact .inr ⟨h, e⟩
  · rcases Int.lt_trichotomy j m with h | h | h
    · rcases two j m hj.1 h hm.2 with e | e
      · exact .inl ⟨h, e⟩
      · have := c1 i j m hi.1 a1 h hm.2 a2 e; omega
    · subst h; omega
    · rcases two m j hm.1 h hj.2 with e | e
      · have := c0 i m j hi.1 b1 h hj.2 b2 e; omega
      · exact .inr ⟨h, e⟩
  · exact .inr ⟨by omega, c1 m i j hm.1 b1 a1 hj.2 b2 a2⟩

theorem lessN_mono {x : Col} {i m : Int} : ∀ n : Nat, (∀ j : Nat, j < n → less x i j = true → less x m j = true) → lessN x i n ≤ lessN x m n ∧ ((∃ j : Nat, j < n ∧ less x i j = false ∧ less x m j = true) → lessN x i n < lessN x m n) := by
  intro n
  induction n with
  | zero => exact fun _ => ⟨Int.le_refl _, fun ⟨j, h, _⟩ => by omega⟩
  | succ n ih =>
    intro h
    obtain ⟨g1, g2⟩ := ih fun j hj => h j (by omega)
    have hn := h n (by omega)
    simp only [lessN]
    by_cases a : less x i n = true
    · have b := hn a
      rw [a, b]
      refine ⟨by simp; omega, fun ⟨j, hj, h1, h2⟩ => ?_⟩
      have : j ≠ n := fun e => by subst e; rw [a] at h1; cases h1
      have := g2 ⟨j, by omega, h1, h2⟩
      simp; omega
    · have a' : less x i n = false := by simpa using a
      by_cases b : less x m n = true
      · rw [a', b]
        exact ⟨by simp; omega, fun _ => by simp; omega⟩
      · have b' : less x m n = false := by simpa using b
        rw [a', b']
        refine ⟨by simp; omega, fun ⟨j, hj, h1, h2⟩ => ?_⟩
        have : j ≠ n := fun e => by subst e; rw [b'] at h2; cases h2
        have := g2 ⟨j, by omega, h1, h2⟩
        simp; omega

theorem ordL_get (x : Col) : ∀ n i : Nat, i < n → (ordL x n).getD i 0 = lessN x i x.p.toNat := by
  intro n
  induction n with
  | zero => intro i h; omega
  | succ n ih =>
    intro i h
    rw [ordL]
    by_cases e : i = n
    · subst e
      rw [getD_app' _ _ _ _ (by rw [ordL_length]; omega), ordL_length]
      simp
    · rw [getD_app _ _ _ _ (by rw [ordL_length]; omega)]
      exact ih i (by omega)

theorem ord_cmp {x : Col} (hx : x.is) (hk : x.k = 2) (h0 : closed x 0) (h1 : closed x 1) (a b : Nat) (h : a < b) (hb : (b : Int) < x.p) :
    (x.cc a b = 0 ∧ (ordL x x.p.toNat).getD a 0 < (ordL x x.p.toNat).getD b 0) ∨ (x.cc a b = 1 ∧ (ordL x x.p.toNat).getD b 0 < (ordL x x.p.toNat).getD a 0) := by
  rw [ordL_get x _ a (by omega), ordL_get x _ b (by omega)]
  rcases cc_two hx hk a b (by omega) (by omega) hb with e | e
  · refine .inl ⟨e, (lessN_mono x.p.toNat fun j hj hl => ?_).2 ⟨a, by omega, ?_, ?_⟩⟩
    · exact less_trans hx hk h0 h1 (i := a) (j := j) (m := b) (by omega) (by omega) (by omega) hl ((less_iff x b a).2 (.inl ⟨by omega, e⟩))
    · unfold less; simp
    · exact (less_iff x b a).2 (.inl ⟨by omega, e⟩)
  · refine .inr ⟨e, (lessN_mono x.p.toNat fun j hj hl => ?_).2 ⟨b, by omega, ?_, ?_⟩⟩
    · exact less_trans hx hk h0 h1 (i := b) (j := j) (m := a) (by omega) (by omega) (by omega) hl ((less_iff x a b).2 (.inr ⟨by omega, e⟩))
    · unfold less; simp
    · exact (less_iff x a b).2 (.inr ⟨by omega, e⟩)

theorem order_back {k : Nat} (hk : 5000 ≤ k) {x : Col} (hx : x.is) (h2 : x.k = 2) (h0 : closed x 0) (h1 : closed x 1) : impl_SequenceColouring k (ordL x x.p.toNat) = some (x, 0) := by
  have hp := hx.1
  have hl : (ordL x x.p.toNat).length = x.p.toNat := ordL_length _ _
  have hd : dist (ordL x x.p.toNat) := fun a b h hb => by
    rcases ord_cmp hx h2 h0 h1 a b h (by omega) with ⟨_, h⟩ | ⟨_, h⟩ <;> omega
  rcases seq_val hk (ordL x x.p.toNat) with ⟨y, e, _, _, hm, _⟩ | ⟨e, e2⟩
  · have : y = x := by
      have hm' : Made x ((ordL x x.p.toNat).length : Nat) 2 (seqG (ordL x x.p.toNat)) := by
        refine ⟨by omega, h2, fun a b h hb => ?_, fun e he h136 => ?_⟩
        · have hE : x.cc a b = ((x.e.get (eN a b)).toNat : Int) := by unfold Col.cc; simp
          unfold seqG
          rcases ord_cmp hx h2 h0 h1 a b h (by omega) with ⟨c, h⟩ | ⟨c, h⟩
          · rw [if_pos h]
            exact u8_zero.1 (by omega)
          · rw [if_neg (by omega)]
            have : (x.e.get (eN a b)).toNat = 1 := by omega
            exact UInt8.toNat_inj.1 (by rw [this]; rfl)
        · have key : ∀ n : Nat, n ≤ 17 → 1 ≤ n → w64 ((w64 ((n : Int) * (w64 ((n : Int) - 1)))).tdiv 2) = (tri n : Nat) := by decide +kernel
          obtain ⟨n, hn⟩ := nat_of (show 0 ≤ x.p by omega)
          have hE : tE x = (tri n : Nat) := by
            unfold tE
            rw [hn]
            exact key n (by omega) (by omega)
          have hn' : (((ordL x x.p.toNat).length : Nat) : Int).toNat = n := by omega
          rw [hn'] at he
          have := (hx.2.2 e (by omega) (by omega)).2 (by omega)
          simp only [Int.toNat_natCast] at this
          exact u8_zero.1 this
      exact Made.eq (by omega) (by omega) hm hm' (fun _ _ _ _ => rfl)
    rw [e, this]
  · exfalso
    obtain ⟨r, er, hr⟩ := implSeq (ordL x x.p.toNat) (by omega) (by omega) k (by omega)
    rcases hr with ⟨_, h3, _⟩ | ⟨h3, _⟩
    · rw [e] at er
      cases er
      exact absurd h3 (by decide)
    · exact h3 hd

/-! ### Paths in a closed colour -/
theorem up_all {x : Col} {c : Int} {r : List Int} (h : UpP x c r) (hc : closed x c) : ∀ (d : Nat) (i j : Int), 0 ≤ i → i < j → j < r.length → j = i + 1 + d → li r i < li r j ∧ x.cc (li r i) (li r j) = c := by
  intro d
  induction d with
  | zero =>
    intro i j h0 h1 h2 h3
    have : j = i + 1 := by omega
    subst this
    exact h.2 i h0 h2
  | succ d ih =>
    intro i j h0 h1 h2 h3
    obtain ⟨a1, a2⟩ := ih i (j - 1) h0 (by omega) (by omega) (by omega)
    obtain ⟨b1, b2⟩ := h.2 (j - 1) (by omega) (by omega)
    rw [show j - 1 + 1 = j by omega] at b1 b2
    refine ⟨by omega, ?_⟩
    have r1 := h.1 i h0 (by omega)
    have r2 := h.1 j (by omega) (by omega)
    have := hc (li r j) (li r (j - 1)) (li r i) r2.2 b1 a1 r1.1
    unfold bad at this
    exact Classical.byContradiction fun e => this ⟨a2, b2, e⟩

theorem goes_true (k : Nat) (x : Col) (hp : x.p ≤ 17) (c : Int) (l : List Int) (v : Int) (hk : l.length + 1 ≤ k) (hl : l.length ≤ 17) (hv : 0 ≤ v ∧ v < x.p) (h : ∀ i : Int, 0 ≤ i → i < l.length → (0 ≤ li l i ∧ li l i < v) ∧ x.cc (li l i) v = c) : impl_Colouring_goesWith k x c l v = some true := by
  unfold impl_Colouring_goesWith slices_ContainsFunc slices_IndexFunc
  have := loopI (f := fun k' i (_ : Unit) => slices_IndexFunc_l0 l (fun a0 => impl_Colouring_goesWith_c1 a0 x v c) k' i) (l.length : Int) 0 (fun _ _ => True) (fun r => r = .inl ()) ?_ ?_ k 0 () (by omega) (by omega) trivial
  · obtain ⟨r, e, rfl⟩ := this
    rw [e]; rfl
  · intro k' i _ h0 h1 _
    left
    obtain ⟨g1, g2⟩ := h i h0 h1
    refine ⟨(), ?_, trivial⟩
    show slices_IndexFunc_l0 l _ (k' + 1) i = _
    rw [slices_IndexFunc_l0, w64_succ h0 h1 (by omega)]
    have e : impl_Colouring_goesWith_c1 (l.getD i.toNat 0) x v c = some false := by
      unfold impl_Colouring_goesWith_c1 impl_Colouring_joins
      have g1' : 0 ≤ l.getD i.toNat 0 ∧ l.getD i.toNat 0 < v := g1
      have g2' : x.cc (l.getD i.toNat 0) v = c := g2
      have hne : ¬ l.getD i.toNat 0 = v := by omega
      rw [implAt_eq x _ v g1'.1 g1'.2 (by omega) (by omega), g2']
      simp only [hne, decide_false, Bool.not_false, if_true, Option.bind_some, decide_true, Bool.not_true]
    simp only [h1, h0, decide_true, if_true, and_self, e, Option.bind_some, Bool.false_eq_true, if_false]
  · intro k' i _ h0 h1 _
    refine ⟨_, ?_, rfl⟩
    show slices_IndexFunc_l0 l _ (k' + 1) i = _
    rw [slices_IndexFunc_l0]
    have : ¬ i < (l.length : Int) := by omega
    simp [this]

theorem clique_val {k : Nat} (hk : 5000 ≤ k) (x : Col) (hx : x.is) (c : Int) (hc : 0 ≤ c ∧ c ≤ x.k - 1) (r : List Int) (hl : r.length ≤ 17) (h1 : ∀ i : Int, 0 ≤ i → i < r.length → 0 ≤ li r i ∧ li r i < x.p) (h : ∀ i j : Int, 0 ≤ i → i < j → j < r.length → li r i < li r j ∧ x.cc (li r i) (li r j) = c) : impl_IsClique k x c r = some (true, 0) := by
  classical
  have hp := hx.1
  have hkk := hx.2.1
  unfold impl_IsClique impl_Colouring_code impl_IsClique_c1 impl_Colouring_hasColour
  have hs : impl_Colouring_isSet k x r = some true := by
    rw [isSet_eq k x hx r (by omega) (by omega)]
    congr 1
    exact decide_eq_true ⟨fun i h0 h2 => by have := h1 i h0 h2; omega, fun i h0 h2 => (h (i - 1) i (by omega) (by omega) h2).1⟩
  have hcl : impl_Colouring_isClique k x c r = some true := by
    unfold impl_Colouring_isClique
    have := loopI (f := fun k' i (_ : Unit) => impl_Colouring_isClique_l0 k x c r k' i) (r.length : Int) 0 (fun _ _ => True) (fun r => r = .inl ()) ?_ ?_ k 0 () (by omega) (by omega) trivial
    · obtain ⟨r, e, rfl⟩ := this
      rw [e]; rfl
    · intro k' i _ h0 h2 _
      left
      refine ⟨(), ?_, trivial⟩
      show impl_Colouring_isClique_l0 k x c r (k' + 1) i = _
      have hlen : ((r.take i.toNat).drop 0).length = i.toNat := by simp; omega
      have e := goes_true k x hp.2 c ((r.take i.toNat).drop 0) (r.getD i.toNat 0) (by omega) (by omega) (h1 i h0 h2) (fun j g0 g1 => by
        have e : li ((r.take i.toNat).drop 0) j = li r j := by
          unfold li
          simp [List.getD, List.getElem?_take, show j.toNat < i.toNat by omega]
        rw [e]
        have := h j i g0 (by omega) h2
        have g := h1 j g0 (by omega)
        exact ⟨⟨g.1, this.1⟩, this.2⟩)
      rw [impl_Colouring_isClique_l0, w64_succ h0 h2 (by omega), e]
      have h3 : i ≤ (r.length : Int) := by omega
      simp [h0, h2, h3]
    · intro k' i _ h0 h2 _
      refine ⟨_, ?_, rfl⟩
      show impl_Colouring_isClique_l0 k x c r (k' + 1) i = _
      rw [impl_Colouring_isClique_l0]
      have : ¬ i < (r.length : Int) := by omega
      simp [this]
  rw [isColouring_eq k (by omega), in_eq, w64_id (by omega), hs, hcl]
  simp [hx, hc]

/-! ### The law -/
theorem l0_max (T : List Int) (e : Int) : ∀ (k : Nat) (a i : Int), laws_FnUps_l0 (some T, e) k a i = slices_Max_l0 T k a i := by
  intro k
  induction k with
  | zero => intro a i; rfl
  | succ k ih => intro a i; rw [laws_FnUps_l0, slices_Max_l0]; simp only [ih, Option.getD_some]

theorem l1_val {k : Nat} (hk : 5000 ≤ k) (x : Col) (hx : x.is) (c : Int) (r : List Int) (hl1 : 1 ≤ r.length) (hl : r.length ≤ 17) (h : UpP x c r) (e : Int) : laws_FnUps_l1 k (x, c) (some r, e) k 0 = some (.inl ()) := by
  have := loopI (f := fun k' i (_ : Unit) => laws_FnUps_l1 k (x, c) (some r, e) k' i) ((r.length : Int) - 1) 0 (fun i _ => i ≤ (r.length : Int) - 1) (fun r => r = .inl ()) ?_ ?_ k 0 () (by omega) (by omega) (by omega)
  · obtain ⟨r, e, rfl⟩ := this
    exact e
  · intro k' i _ h0 h1 _
    left
    refine ⟨(), ?_, by omega⟩
    show laws_FnUps_l1 k (x, c) (some r, e) (k' + 1) i = _
    have g1 := h.1 i h0 (by omega)
    have g2 := h.1 (i + 1) (by omega) (by omega)
    have g3 := h.2 i h0 (by omega)
    have ec := colourOf_val hk x hx (li r i) (li r (i + 1)) g1 g2 (by omega)
    rw [laws_FnUps_l1, w64_id (n := i + 1) (by omega)]
    simp only [li] at ec g3
    have a1 : i < (r.length : Int) := by omega
    have a2 : i + 1 < (r.length : Int) := by omega
    have a3 : 0 ≤ i + 1 := by omega
    have a4 : ¬ (r.getD (i + 1).toNat 0 ≤ r.getD i.toNat 0) := by omega
    simp only [Option.getD_some, a1, a2, a3, h0, decide_true, if_true, and_self, ec, Option.bind_some, Bool.not_true, Bool.false_eq_true, if_false, g3.2, a4, decide_false]
  · intro k' i _ h0 h1 q
    refine ⟨_, ?_, rfl⟩
    show laws_FnUps_l1 k (x, c) (some r, e) (k' + 1) i = _
    rw [laws_FnUps_l1, w64_id (n := i + 1) (by omega)]
    have a2 : ¬ (i + 1 < (r.length : Int)) := by omega
    simp only [Option.getD_some, a2, decide_false, Bool.false_eq_true, if_false]

theorem drawSeq_ok {k : Nat} (hk : 5000 ≤ k) (c : List UInt8) (hc : c.length ≤ 4096) : ∃ l, spec_DrawSequenceColouring k c = some l := by
  unfold spec_DrawSequenceColouring
  obtain ⟨s, e, hs⟩ := from_ok hk c hc
  obtain ⟨v, s1, e1, hs1, hv, _⟩ := next_ok s 17 hs
  have hv' := hv (by omega)
  obtain ⟨n, hn⟩ := nat_of (show 0 ≤ w64 (1 + v) by rw [w64_id (by omega)]; omega)
  have hn' : (n : Int) = 1 + v := by rw [← hn, w64_id (by omega)]
  obtain ⟨l, s2, e2, hs2, hl⟩ := order_ok hk s1 n hs1 (by omega)
  have hl1 := hl.1
  rw [e]
  simp only [Option.bind_some]
  rw [e1]
  simp only [Option.bind_some]
  rw [hn, e2]
  simp only [Option.bind_some]
  have := loopI (f := fun k' i (t : Src × List Int) => spec_DrawSequenceColouring_l0 (l, s2) k' i t.1 t.2) (l.length : Int) 0 (fun i t => i ≤ l.length ∧ okS t.1 ∧ (t.2.length : Int) = i) (fun t => okS t.1 ∧ t.2.length = l.length) ?_ ?_ k 0 (s2, []) (by omega) (by omega) ⟨by omega, hs2, rfl⟩
  · obtain ⟨⟨s3, out⟩, e3, hs3, ho⟩ := this
    simp only at e3 ho
    rw [e3]
    simp only [Option.bind_some]
    obtain ⟨w, s4, e4, hs4, _⟩ := next_ok s3 12 hs3
    rw [e4]
    simp only [Option.bind_some]
    by_cases w0 : w = 0
    · exact ⟨[], by simp [w0]⟩
    · by_cases w1 : w = 1
      · have : ∀ (m k' : Nat) (out : List Int), 18 - out.length = m → m < k' → ∃ l, spec_DrawSequenceColouring_l1 k' out = some (.inl l) := by
          intro m
          induction m with
          | zero =>
            intro k' out h1 h2
            obtain ⟨k', rfl⟩ : ∃ q, k' = q + 1 := ⟨k' - 1, by omega⟩
            refine ⟨out, ?_⟩
            rw [spec_DrawSequenceColouring_l1]
            have : ¬ ((out.length : Int) < 18) := by omega
            simp [this]
          | succ m ih =>
            intro k' out h1 h2
            obtain ⟨k', rfl⟩ : ∃ q, k' = q + 1 := ⟨k' - 1, by omega⟩
            obtain ⟨l, hl⟩ := ih k' (out ++ [w64 (100 + (out.length : Int))]) (by simp; omega) (by omega)
            refine ⟨l, ?_⟩
            rw [spec_DrawSequenceColouring_l1]
            have h3 : (out.length : Int) < 18 := by omega
            rw [if_pos (by simpa using h3), if_pos (by simp; omega)]
            exact hl
        obtain ⟨l', e5⟩ := this _ k out rfl (by omega)
        exact ⟨l', by simp [w1, e5]⟩
      · by_cases w2 : w = 2
        · obtain ⟨a, s5, e5, hs5, _⟩ := pick_ok s4 [-9223372036854775808, 4611686018427387904, 0] hs4 (by simp)
          have hpos : (0 : Int) < (out.length : Int) := by omega
          refine ⟨out.set (0 : Int).toNat a, ?_⟩
          have h20 : ¬ ((2 : Int) = 0) := by omega
          have h21 : ¬ ((2 : Int) = 1) := by omega
          simp only [w2, h20, h21, decide_true, decide_false, if_true, Bool.false_eq_true, if_false, e5, Option.bind_some, hpos, Int.le_refl, and_self]
        · exact ⟨out, by simp [w0, w1, w2]⟩
  · rintro k' i ⟨t, out⟩ h0 h1 ⟨_, q1, q2⟩
    left
    simp only at q1 q2
    obtain ⟨a, t1, e3, ht1, _⟩ := pick_ok t [1, 3, 3] q1 (by simp)
    obtain ⟨b, t2, e4, ht2, _⟩ := next_ok t1 4 ht1
    refine ⟨(t2, out ++ [w64 ((w64 ((l.getD i.toNat 0) * a)) - b)]), ?_, by omega, ht2, by simp; omega⟩
    show spec_DrawSequenceColouring_l0 (l, s2) (k' + 1) i t out = _
    rw [spec_DrawSequenceColouring_l0, w64_succ h0 h1 (by omega), e3]
    simp only [Option.bind_some, e4, h1, h0, decide_true, if_true, and_self]
    rw [if_pos (by simp; omega)]
  · rintro k' i ⟨t, out⟩ h0 h1 ⟨q0, q1, q2⟩
    refine ⟨(t, out), ?_, q1, by simp only at q2 ⊢; omega⟩
    show spec_DrawSequenceColouring_l0 (l, s2) (k' + 1) i t out = _
    rw [spec_DrawSequenceColouring_l0]
    have : ¬ i < (l.length : Int) := by omega
    simp [this]

theorem ups_law {k : Nat} (hk : 5000 ≤ k) (code : List UInt8) : laws_FnUps k code = some true := by
  unfold laws_FnUps laws_big
  by_cases hb : 4096 < (code.length : Int)
  · simp [hb]
  have hc : code.length ≤ 4096 := by omega
  obtain ⟨x, c, ed⟩ := with10_ok hk code hc
  obtain ⟨l, el⟩ := drawSeq_ok hk code hc
  have ed1 : spec_DrawLongestUp k code = some (x, c) := by unfold spec_DrawLongestUp; rw [ed]; rfl
  have ed2 : spec_DrawOrderOf k code = some x := by unfold spec_DrawOrderOf; rw [ed]; rfl
  obtain ⟨cb, ce, hc1, hc2, hc3⟩ := closed_val hk x c
  have hup : ∃ (o o2 : Option (List Int)) (e : Int), impl_LongestUp k x c = some (o, e) ∧ spec_LongestUp k x c = some (o.getD [], e) ∧ impl_UpLengths k x c = some (o2, e) ∧ spec_UpLengths k x c = some (o2.getD [], e) ∧ (o.getD []).length ≤ 17 ∧ (o2.getD []).length ≤ 17 ∧
      ((e ≠ 0 ∧ o = none) ∨ (e = 0 ∧ x.is ∧ (0 ≤ c ∧ c ≤ x.k - 1) ∧ ∃ r T m, o = some r ∧ o2 = some T ∧ UpP x c r ∧ (r.length : Int) = m ∧ isMax T m ∧ 1 ≤ m)) := by
    rcases up_cases hk x c with ⟨hx, hcc, r, m, h1, h2, h3, h4, h5, h6, h7, h8⟩ | ⟨e, he, h1, h2, h3, h4, _⟩
    · refine ⟨some r, some (upL x c x.p.toNat), 0, h1, h2, h3, h4, by simp; omega, by simp [upL_length]; have := hx.1; omega, .inr ⟨rfl, hx, hcc, r, _, m, rfl, rfl, h5, h6, h7, h8.1⟩⟩
    · exact ⟨none, none, e, h1, h2, h3, h4, by simp, by simp, .inl ⟨he, rfl⟩⟩
  obtain ⟨o, o2, e, u1, u2, u3, u4, u5, u6, u7⟩ := hup
  have hor : ∃ (p : Option (List Int)) (f : Int), impl_OrderOf k x = some (p, f) ∧ spec_OrderOf k x = some (p.getD [], f) ∧ (p.getD []).length ≤ 17 ∧ (f ≠ 0 ∨ (f = 0 ∧ impl_SequenceColouring k (p.getD []) = some (x, 0))) := by
    rcases order_val hk x with ⟨h1, h2, hx, h3, h4, h5⟩ | ⟨f, hf, h1, h2⟩
    · refine ⟨_, 0, h1, h2, by simp [ordL_length]; have := hx.1; omega, .inr ⟨rfl, order_back hk hx h3 h4 h5⟩⟩
    · exact ⟨none, f, h1, h2, by simp, .inl hf⟩
  obtain ⟨p, f, p1, p2, p3, p4⟩ := hor
  have lk1 := like_refl k (o.getD []) (by omega) (by omega)
  have lk2 := like_refl k (o2.getD []) (by omega) (by omega)
  have lk3 := like_refl k (p.getD []) (by omega) (by omega)
  have hseq : ∃ y g, impl_SequenceColouring k l = some (y, g) ∧ spec_SequenceColouring k l = some (y, g) ∧ (g ≠ 0 ∨ (g = 0 ∧ ∃ r0 r1, impl_IsClosedColour k y 0 = some (true, 0) ∧ impl_IsClosedColour k y 1 = some (true, 0) ∧ impl_LongestUp k y 0 = some (some r0, 0) ∧ impl_LongestUp k y 1 = some (some r1, 0) ∧
      impl_ErdosNumber (w64 ((r0.length : Int) + 1)) (w64 ((r1.length : Int) + 1)) = ((r0.length : Int) * r1.length + 1, 0) ∧ y.p < (r0.length : Int) * r1.length + 1)) := by
    rcases seq_val hk l with ⟨y, e1, e2, hd, hm, l1, l2⟩ | ⟨e1, e2⟩
    · refine ⟨y, 0, e1, e2, .inr ⟨rfl, ?_⟩⟩
      have hy := made_is hm l1 l2
      have hyk := hm.k
      have hyp := hm.p
      obtain ⟨c0, c1⟩ := seq_closed hm
      rcases up_cases hk y 0 with ⟨_, _, r0, m0, a1, _, _, _, _, a6, a7, a8⟩ | ⟨e, he, a1, a2, a3, a4, a5⟩
      · rcases up_cases hk y 1 with ⟨_, _, r1, m1, b1, _, _, _, _, b6, b7, b8⟩ | ⟨e, he, b1, b2, b3, b4, b5⟩
        · obtain ⟨v0, f0, g1, _, g3⟩ := closed_val hk y 0
          obtain ⟨v1, f1, g4, _, g6⟩ := closed_val hk y 1
          obtain ⟨z1, z2⟩ := g3 hy (by omega)
          obtain ⟨z3, z4⟩ := g6 hy (by omega)
          have hz2 := z2.2 c0
          have hz4 := z4.2 c1
          subst z1 z3 hz2 hz4
          subst a6 b6
          have her := erdos hm a7 b7
          refine ⟨r0, r1, g1, g4, a1, b1, erdos_val _ _ (by omega) (by omega), ?_⟩
          have : (l.length : Int) ≤ (r0.length : Int) * r1.length := by exact_mod_cast her
          omega
        · exact (b5 ⟨hy, by omega⟩).elim
      · exact (a5 ⟨hy, by omega⟩).elim
    · exact ⟨Col.zero, 2, e1, e2, .inl (by decide)⟩
  obtain ⟨y, g, s1, s2, s3⟩ := hseq
  have hbb : (cb == cb) = true := by simp
  simp only [hb, decide_false, Bool.false_eq_true, if_false, ed1, Option.bind_some, u1, u2, decide_true, Bool.not_true, lk1, u3, u4, lk2, hc1, hc2, letO, hbb, el, s1, s2, eqb_refl' y, ed2, p1, p2, lk3]
  rcases u7 with ⟨he, rfl⟩ | ⟨rfl, hx, hcc, r, T, m, rfl, rfl, hup, hrl, hmax, hm1⟩
  · rcases p4 with hf | ⟨rfl, hp4⟩ <;> rcases s3 with hg | ⟨rfl, r0, r1, q1, q2, q3, q4, q5, q6⟩
    · simp [hf, hg, he]
    · have q6' : ¬ ((r0.length : Int) * r1.length + 1 ≤ y.p) := by omega
      simp [hf, he, q1, q2, q3, q4, q5, q6']
    · simp [hg, he, hp4, eqb_refl']
    · have q6' : ¬ ((r0.length : Int) * r1.length + 1 ≤ y.p) := by omega
      simp [he, hp4, eqb_refl', q1, q2, q3, q4, q5, q6']
  · simp only [Option.getD_some] at u5 u6
    obtain ⟨z1, z2⟩ := hc3 hx hcc
    subst z1
    have t0 : laws_FnUps_l0 (some T, 0) k 0 0 = some m := by
      rw [l0_max]
      obtain ⟨w, w1, w2, w3, w4⟩ := max_is T (by omega) (T.length : Int).toNat 0 0 (by omega) (by omega)
      rw [w1 k (by omega)]
      obtain ⟨⟨i, i0, i1, i2⟩, m2⟩ := hmax
      have h1 := w3 i i0 i1
      rcases w4 with w4 | ⟨j, j0, j1, j2⟩
      · omega
      · have h2 := m2 j j0 j1
        congr 1; omega
    have t1 := l1_val hk x hx c r (by omega) u5 hup 0
    have t2 : cb = true → impl_IsClique k x c r = some (true, 0) := fun hcb =>
      clique_val hk x hx c hcc r u5 hup.1 fun i j h0 h1 h2 => up_all hup (z2.1 hcb) (j - i - 1).toNat i j h0 h1 h2 (by omega)
    rcases p4 with hf | ⟨rfl, hp4⟩ <;> rcases s3 with hg | ⟨rfl, r0, r1, q1, q2, q3, q4, q5, q6⟩ <;> cases cb
    · simp [hf, hg, t0, t1, hrl]
    · simp [hf, hg, t0, t1, hrl, t2 rfl]
    · have q6' : ¬ ((r0.length : Int) * r1.length + 1 ≤ y.p) := by omega
      simp [hf, q1, q2, q3, q4, q5, q6', t0, t1, hrl]
    · have q6' : ¬ ((r0.length : Int) * r1.length + 1 ≤ y.p) := by omega
      simp [hf, q1, q2, q3, q4, q5, q6', t0, t1, hrl, t2 rfl]
    · simp [hg, hp4, eqb_refl', t0, t1, hrl]
    · simp [hg, hp4, eqb_refl', t0, t1, hrl, t2 rfl]
    · have q6' : ¬ ((r0.length : Int) * r1.length + 1 ≤ y.p) := by omega
      simp [hp4, eqb_refl', q1, q2, q3, q4, q5, q6', t0, t1, hrl]
    · have q6' : ¬ ((r0.length : Int) * r1.length + 1 ≤ y.p) := by omega
      simp [hp4, eqb_refl', q1, q2, q3, q4, q5, q6', t0, t1, hrl, t2 rfl]
end Go.Proofs.Ytfpcopidcagdaaa
