/- The plain law of FnCliques. No conditions beyond those that each lemma states. -/
import Derived.Test.YtfoijbdnkkaceaaPureX18
import Derived.Test.YtfoijbdnkkaceaaPureDraw18
set_option linter.unusedVariables false
set_option linter.unusedSimpArgs false
namespace Go.Proofs.Ytfoijbdnkkaceaa
open Go Go.RowKit Ab

/-! ### Cliques at points -/
theorem mem_bits {l : List Int} {v : Int} : (∃ a, a < l.length ∧ l.getD a 0 = v) ↔ v ∈ l := by
  constructor
  · rintro ⟨a, h, rfl⟩; exact getD_mem h
  · intro h
    obtain ⟨a, ha, rfl⟩ := List.getElem_of_mem h
    exact ⟨a, ha, getD_el ha⟩

def atN (x : Col) (c : Int) (n : Nat) (p : Int) : Nat := (cl (aB x c) n (pts x)).countP fun l => decide (p ∈ l)

theorem implAt_val {k : Nat} (hk : 5000 ≤ k) (x : Col) (h : x.is) (c p : Int) (hc : 0 ≤ c ∧ c ≤ x.k - 1) (hp : 0 ≤ p ∧ p ≤ x.p - 1) (n : Nat) (hn : 1 ≤ n ∧ n ≤ 17) : impl_CliquesAt k x c p n = some ((atN x c n p : Int), 0) := by
  obtain ⟨c1, c2⟩ := code_cases hk x
  unfold impl_CliquesAt
  have hc1 : impl_CliquesAt_c1 x c p n = true := by
    unfold impl_CliquesAt_c1 letO
    rw [hasColour_val h c, has_val h p, in_eq, decide_eq_true hc, decide_eq_true hp, decide_eq_true (show (1 : Int) ≤ n ∧ (n : Int) ≤ 17 by omega)]; rfl
  rw [hc1, (c1 h).1, count_eq hk x h.1 c n (fun a0 => impl_CliquesAt_c2 k a0 p) (fun l => decide (p ∈ l)) (fun l hl => by
    unfold impl_CliquesAt_c2
    have := mem_acl_len x h.1 c l hl
    rw [index_eq k l p (by omega) (by omega)]
    simp only [Option.bind_some]
    congr 1
    rw [decide_eq_decide]
    exact mem_bits)]
  simp only [Option.bind_some, decide_true, Bool.not_true, Bool.false_eq_true, if_false]
  congr 3
  unfold atN
  rw [← acl_flt, List.countP_filter]
  apply List.countP_congr
  intro l _
  rw [Bool.and_comm]

theorem specAt_val {k : Nat} (hk : 5000 ≤ k) (x : Col) (h : x.is) (c : Int) (p : Nat) (hp : (p : Int) < x.p) (n : Nat) (hn : 1 ≤ n ∧ n ≤ 17) : spec_l02Count k (rws x c x.p.toNat) ((nb x c p : Nat) : Int) (w64 ((n : Int) - 1)) = some (atN x c n p : Int) := by
  obtain ⟨n, rfl⟩ : ∃ q, n = q + 1 := ⟨n - 1, by omega⟩
  have hw : w64 (((n + 1 : Nat) : Int) - 1) = (n : Int) := by rw [w64_id (by omega)]; omega
  have hmem : mem (nb x c p) 0 x.p.toNat = (pts x).filter (aB x c p) := by
    unfold mem pts
    apply List.filter_congr
    intro a ha
    rw [mem_ir] at ha
    have h1 : a.toNat < x.p.toNat := by omega
    have h2 : ((a.toNat : Nat) : Int) = a := by omega
    rw [nb_test, h2]; simp [h1]
  rw [hw, spec_count x h.1 c n (nb x c p) k (bitsN_lt _ _) (by omega), hmem]
  congr 2
  unfold atN
  refine (cl_at (aB x c) (aB_comm x c) (aB_irr x c) p (pts x) n (ir_nodup _ _) ?_).symm
  unfold pts
  rw [mem_ir]; omega

theorem given1_cases {k : Nat} (hk : 5000 ≤ k) (x : Col) (c p : Int) : (x.is → (0 ≤ c ∧ c ≤ x.k - 1) → (0 ≤ p ∧ p ≤ x.p - 1) → spec_l01Given k x c [p] = some 0) ∧ (x.is → ¬ ((0 ≤ c ∧ c ≤ x.k - 1) ∧ (0 ≤ p ∧ p ≤ x.p - 1)) → spec_l01Given k x c [p] = some 2) ∧ (¬ x.is → spec_l01Given k x c [p] = some 1) := by
  classical
  have hin : inP x [p] ↔ (0 ≤ p ∧ p ≤ x.p - 1) := by
    constructor
    · intro h
      have := h 0 (by omega) (by simp)
      simpa [li] using this
    · intro h i h0 h1
      have : i = 0 := by simp at h1; omega
      subst this
      simpa [li] using h
  have hg := specGiven_eq k x c [p] (by simp; omega) (by simp)
  refine ⟨fun h hc hp => ?_, fun h hc => ?_, fun h => ?_⟩
  · rw [if_pos h, if_pos ⟨hc, hin.2 hp⟩] at hg; exact hg
  · rw [if_pos h, if_neg (fun q => hc ⟨q.1, hin.1 q.2⟩)] at hg; exact hg
  · rw [if_neg h] at hg; exact hg

theorem cliquesAt_val {k : Nat} (hk : 5000 ≤ k) (x : Col) (c p m : Int) :
    (∃ e, e ≠ 0 ∧ impl_CliquesAt k x c p m = some (0, e) ∧ spec_CliquesAt k x c p m = some (0, e)) ∨
    (x.is ∧ (0 ≤ c ∧ c ≤ x.k - 1) ∧ (0 ≤ p ∧ p ≤ x.p - 1) ∧ ∃ n : Nat, m = n ∧ (1 ≤ n ∧ n ≤ 17) ∧ impl_CliquesAt k x c p m = some ((atN x c n p : Int), 0) ∧ spec_CliquesAt k x c p m = some ((atN x c n p : Int), 0)) := by
  obtain ⟨c1, c2⟩ := code_cases hk x
  obtain ⟨g1, g2, g3⟩ := given1_cases hk x c p
  by_cases h : x.is
  · have hcol := hasColour_val h c
    have hpt := has_val h p
    by_cases hc : (0 ≤ c ∧ c ≤ x.k - 1) ∧ (0 ≤ p ∧ p ≤ x.p - 1)
    · by_cases hm : 1 ≤ m ∧ m ≤ 17
      · right
        obtain ⟨n, rfl⟩ := nat_of (show 0 ≤ m by omega)
        obtain ⟨q, rfl⟩ := nat_of hc.2.1
        refine ⟨h, hc.1, hc.2, n, rfl, by omega, implAt_val hk x h c q hc.1 hc.2 n (by omega), ?_⟩
        have hs : spec_l01In (n : Int) 1 17 = true := by rw [specIn_eq, decide_eq_true hm]
        have hlt : (0 : Int) ≤ q ∧ (q : Int) < ((rws x c x.p.toNat).length : Int) := by rw [rws_length]; omega
        unfold spec_CliquesAt
        rw [g1 h hc.1 hc.2]
        simp only [Option.bind_some, decide_true, Bool.not_true, Bool.false_eq_true, if_false, if_true, hs, letO]
        rw [rows_val hk x h.1 c]
        simp only [Option.bind_some, if_pos hlt]
        rw [Int.toNat_natCast, rws_get x c _ q (by omega), specAt_val hk x h c q (by omega) n (by omega)]
        rfl
      · left
        have hc1 : impl_CliquesAt_c1 x c p m = false := by
          unfold impl_CliquesAt_c1 letO
          rw [hcol, hpt, in_eq, decide_eq_true hc.1, decide_eq_true hc.2, decide_eq_false hm]; rfl
        have hs : spec_l01In m 1 17 = false := by rw [specIn_eq, decide_eq_false hm]
        unfold impl_CliquesAt spec_CliquesAt
        rw [hc1, (c1 h).2, g1 h hc.1 hc.2, hs]
        exact ⟨2, by decide, by simp, by simp [letO]⟩
    · left
      have hc1 : impl_CliquesAt_c1 x c p m = false := by
        unfold impl_CliquesAt_c1 letO
        rw [hcol, hpt]
        by_cases q : 0 ≤ c ∧ c ≤ x.k - 1
        · have : ¬ (0 ≤ p ∧ p ≤ x.p - 1) := fun z => hc ⟨q, z⟩
          rw [decide_eq_true q, decide_eq_false this]; rfl
        · rw [decide_eq_false q]; rfl
      unfold impl_CliquesAt spec_CliquesAt
      rw [hc1, (c1 h).2, g2 h hc]
      exact ⟨2, by decide, by simp, by simp [letO]⟩
  · left
    unfold impl_CliquesAt spec_CliquesAt
    rw [c2 h, g3 h]
    exact ⟨1, by decide, by simp, by simp [letO]⟩

/-- The cliques at all points, added up. -/
def atS (x : Col) (c : Int) (n : Nat) (j : Nat) : Nat := ((ir 0 j).map fun q => atN x c n q).sum
theorem ir_snoc (j : Nat) : ir 0 (j + 1) = ir 0 j ++ [(j : Int)] := by
  unfold ir
  rw [show j + 1 - 0 = j + 1 by omega, List.range'_concat]
  simp
theorem atS_succ (x : Col) (c : Int) (n j : Nat) : atS x c n (j + 1) = atS x c n j + atN x c n j := by
  unfold atS
  rw [ir_snoc, List.map_append, List.sum_append]
  simp
theorem atN_le {x : Col} (h : x.is) (c : Int) (n : Nat) (p : Int) : atN x c n p ≤ 131072 := by
  unfold atN
  have h1 := cl_le (aB x c) n (pts x)
  have h2 := (pts_len x h.1).2
  have h3 : 2 ^ (pts x).length ≤ 2 ^ 17 := Nat.pow_le_pow_right (by omega) h2
  exact Nat.le_trans List.countP_le_length (Nat.le_trans h1 h3)
theorem cl_len_le {x : Col} (h : x.is) (c : Int) (n : Nat) : (cl (aB x c) n (pts x)).length ≤ 131072 := by
  have h1 := cl_le (aB x c) n (pts x)
  have h2 := (pts_len x h.1).2
  have h3 : 2 ^ (pts x).length ≤ 2 ^ 17 := Nat.pow_le_pow_right (by omega) h2
  exact Nat.le_trans h1 h3
theorem at_sum {x : Col} (h : x.is) (c : Int) (n : Nat) : atS x c n x.p.toNat = n * (cl (aB x c) n (pts x)).length := by
  unfold atS atN
  rw [show ir 0 x.p.toNat = pts x from rfl, sum_mem (pts x) (ir_nodup _ _) (cl (aB x c) n (pts x)) fun l hl => by
    obtain ⟨h1, _⟩ := (mem_cl _ _ _ _).1 hl
    exact ⟨(ir_nodup 0 x.p.toNat).sublist h1, fun z hz => h1.subset hz⟩]
  have : ∀ L : List (List Int), (∀ l ∈ L, l.length = n) → (L.map List.length).sum = n * L.length := by
    intro L
    induction L with
    | nil => intro _; rfl
    | cons a t ih =>
      intro hL
      rw [List.map_cons, List.sum_cons, ih fun l hl => hL l (List.mem_cons_of_mem _ hl), hL a (List.mem_cons_self ..), List.length_cons, Nat.mul_succ]
      omega
  exact this _ fun l hl => cl_len _ _ _ l hl

theorem at_loop {k : Nat} (hk : 5000 ≤ k) (x : Col) (h : x.is) (c p : Int) (hc : 0 ≤ c ∧ c ≤ x.k - 1) (n : Nat) (hn : 1 ≤ n ∧ n ≤ 17) :
    laws_FnCliques_l0 k (x, c, p, (n : Int)) k 0 0 = some (.inl ((n * (cl (aB x c) n (pts x)).length : Nat) : Int)) := by
  have hp := h.1
  have bound : ∀ j : Nat, atS x c n j ≤ 131072 * j := fun j => by
    induction j with
    | zero => simp [atS, ir_end]
    | succ j ih => rw [atS_succ]; have := atN_le h c n j; omega
  have := loopI (f := fun k' q (s : Int) => laws_FnCliques_l0 k (x, c, p, (n : Int)) k' s q) x.p 0 (fun q s => q ≤ x.p ∧ s = (atS x c n q.toNat : Int)) (fun r => r = .inl (atS x c n x.p.toNat : Int)) ?_ ?_ k 0 0 (by omega) (by omega) ⟨by omega, by simp [atS, ir_end]⟩
  · obtain ⟨r, e, rfl⟩ := this
    rw [at_sum h] at e
    exact e
  · intro k' q s h0 h1 ⟨_, e⟩
    left
    obtain ⟨m, rfl⟩ := nat_of h0
    refine ⟨_, ?_, by omega, rfl⟩
    show laws_FnCliques_l0 k (x, c, p, (n : Int)) (k' + 1) s m = _
    have e0 : ((m : Int) + 1).toNat = m + 1 := by omega
    simp only [Int.toNat_natCast] at e
    have b1 := bound m
    have b2 := atN_le h c n m
    rw [laws_FnCliques_l0, w64_succ h0 h1 (by omega), e0, implAt_val hk x h c m hc (by omega) n hn, atS_succ]
    simp only [h1, decide_true, if_true, Option.bind_some, Bool.not_true, Bool.false_eq_true, if_false]
    rw [w64_id (by omega), e, Int.natCast_add]
  · intro k' q s h0 h1 ⟨q1, q2⟩
    have : q = x.p := by omega
    subst this
    refine ⟨.inl s, ?_, by rw [q2]⟩
    show laws_FnCliques_l0 k (x, c, p, (n : Int)) (k' + 1) s x.p = _
    rw [laws_FnCliques_l0]; simp

/-! ### Draws -/
theorem with02_ok {k : Nat} (hk : 5000 ≤ k) (c : List UInt8) (hc : c.length ≤ 4096) : ∃ x v, spec_l02With k c = some (x, v) := by
  unfold spec_l02With
  obtain ⟨s, e, hs⟩ := from_ok hk c hc
  obtain ⟨x, s1, e1, h1⟩ := spoil_ok hk s hs
  obtain ⟨v, s2, e2, h2⟩ := near_ok s1 (if 3 < (if w64 (x.k - 1) < 0 then 0 else w64 (x.k - 1)) then 3 else (if w64 (x.k - 1) < 0 then 0 else w64 (x.k - 1))) h1
  exact ⟨x, v, by rw [e]; simp only [Option.bind_some, e1, e2]⟩
theorem drawList_ok {k : Nat} (hk : 5000 ≤ k) (c : List UInt8) (hc : c.length ≤ 4096) : ∃ x v m, spec_DrawCliqueList k c = some (x, v, m) := by
  unfold spec_DrawCliqueList spec_DrawCountCliques
  obtain ⟨x, v, e⟩ := with02_ok hk c hc
  obtain ⟨s, e1, h1⟩ := from_ok hk c hc
  obtain ⟨m, s2, e2, h2⟩ := near_ok s 17 h1
  obtain ⟨z, s3, e3, h3, _⟩ := pick_ok s2 [2, 3, 3, 4, 5, m] h2 (by simp)
  exact ⟨x, v, z, by simp only [e, e1, e2, e3, Option.bind_some]⟩
theorem drawAt_ok {k : Nat} (hk : 5000 ≤ k) (c : List UInt8) (hc : c.length ≤ 4096) : ∃ x v p m, spec_DrawCliquesAt k c = some (x, v, p, m) := by
  unfold spec_DrawCliquesAt
  obtain ⟨x, v, e⟩ := with02_ok hk c hc
  obtain ⟨s, e1, h1⟩ := from_ok hk c hc
  obtain ⟨m, s2, e2, h2⟩ := near_ok s (if 16 < (if w64 (x.p - 1) < 0 then 0 else w64 (x.p - 1)) then 16 else (if w64 (x.p - 1) < 0 then 0 else w64 (x.p - 1))) h1
  obtain ⟨z, s3, e3, h3, _⟩ := pick_ok s2 [1, 2, 3, 3, 4, 18] h2 (by simp)
  exact ⟨x, v, m, z, by simp only [e, e1, e2, e3, Option.bind_some]⟩

theorem drawSet_ok {k : Nat} (hk : 5000 ≤ k) (s : Src) (n : Int) (h : okS s) (hn : 1 ≤ n ∧ n ≤ 17) : ∃ l s', spec_l01DrawSet k s n = some (l, s') ∧ okS s' ∧ l.length ≤ 18 := by
  unfold spec_l01DrawSet
  obtain ⟨w, s1, e1, h1, _⟩ := pick_ok s [1, 2, 3] h (by simp)
  have := loopI (f := fun k' i (t : Src × List Int) => spec_l01DrawSet_l0 n (w, s1) k' i t.1 t.2) n 0 (fun i t => i ≤ n ∧ okS t.1 ∧ (t.2.length : Int) ≤ i) (fun t => okS t.1 ∧ t.2.length ≤ 17) ?_ ?_ k 0 (s1, []) (by omega) (by omega) ⟨by omega, h1, by simp⟩
  · obtain ⟨⟨s2, l⟩, e2, h2, h3⟩ := this
    simp only at e2 h2 h3
    obtain ⟨v, s3, e3, h4, _, _⟩ := next_ok s2 24 h2
    rw [e1]
    simp only [Option.bind_some, e2, e3]
    by_cases hv : v = 0
    · obtain ⟨u, s4, e4, h5, _⟩ := pick_ok s3 [0, (-1), n] h4 (by simp)
      have hl : l.length + ([u]).length ≤ 1099511627776 := by simp; omega
      exact ⟨l ++ [u], s4, by simp only [hv, decide_true, if_true, e4, Option.bind_some, hl], h5, by simp; omega⟩
    · exact ⟨l, s3, by simp [hv], h4, by omega⟩
  · rintro k' i ⟨t, l⟩ h0 h2 ⟨_, q1, q2⟩
    left
    obtain ⟨v, t', e, ht, _, _⟩ := next_ok t 4 q1
    simp only at q2
    by_cases hv : v < w
    · have hl : l.length + ([i]).length ≤ 1099511627776 := by simp; omega
      refine ⟨(t', l ++ [i]), ?_, by omega, ht, by simp; omega⟩
      show spec_l01DrawSet_l0 n (w, s1) (k' + 1) i t l = _
      rw [spec_l01DrawSet_l0, w64_succ h0 h2 (by omega), e]
      simp only [h2, decide_true, if_true, Option.bind_some, hv, hl]
    · refine ⟨(t', l), ?_, by omega, ht, by simp only; omega⟩
      show spec_l01DrawSet_l0 n (w, s1) (k' + 1) i t l = _
      rw [spec_l01DrawSet_l0, w64_succ h0 h2 (by omega), e]
      simp only [h2, decide_true, if_true, Option.bind_some, hv, decide_false, Bool.false_eq_true, if_false]
  · rintro k' i ⟨t, l⟩ h0 h2 ⟨q0, q1, q2⟩
    simp only at q2
    refine ⟨(t, l), ?_, q1, by simp only; omega⟩
    show spec_l01DrawSet_l0 n (w, s1) (k' + 1) i t l = _
    rw [spec_l01DrawSet_l0]
    have : ¬ i < n := by omega
    simp [this]

theorem drawIs_ok {k : Nat} (hk : 5000 ≤ k) (c : List UInt8) (hc : c.length ≤ 4096) : ∃ x v l, spec_DrawIsClique k c = some (x, v, l) ∧ l.length ≤ 1000 := by
  unfold spec_DrawIsClique
  obtain ⟨s, e, hs⟩ := from_ok hk c hc
  obtain ⟨x, v, e1⟩ := with02_ok hk c hc
  obtain ⟨a, s2, e2, h2, _, _⟩ := next_ok s 3 hs
  have hset : ∀ t, okS t → ∃ l s', spec_l01DrawSet k t (if 17 < (if x.p < 1 then 1 else x.p) then 17 else (if x.p < 1 then 1 else x.p)) = some (l, s') ∧ l.length ≤ 1000 := fun t ht => by
    obtain ⟨l, s', e, _, hl⟩ := drawSet_ok hk t (if 17 < (if x.p < 1 then 1 else x.p) then 17 else (if x.p < 1 then 1 else x.p)) ht (by split <;> split <;> omega)
    exact ⟨l, s', e, by omega⟩
  rw [e]
  simp only [Option.bind_some, e1, e2]
  rcases cliqueList_val hk x v (w64 (1 + a)) with ⟨b, hb, _, h4⟩ | ⟨_, _, n, _, hn, _, h4, h5⟩
  · rw [h4]
    obtain ⟨l, s', e5, h6⟩ := hset s2 h2
    exact ⟨x, v, l, by simp [hb, e5], h6⟩
  · rw [h4]
    simp only [Option.bind_some, decide_true, if_true]
    by_cases hl : (0 : Int) < ((cl (aB x v) n (pts x)).length : Int)
    · rw [decide_eq_true hl]
      obtain ⟨d, s3, e6, h6, _, _⟩ := next_ok s2 2 h2
      simp only [if_true, e6, Option.bind_some]
      by_cases hd : d = 0
      · obtain ⟨g, s4, e7, h7, h8, _⟩ := next_ok s3 ((cl (aB x v) n (pts x)).length : Int) h6
        have h8' := h8 (by omega)
        refine ⟨x, v, (cl (aB x v) n (pts x)).getD g.toNat [], by simp only [hd, decide_true, if_true, e7, Option.bind_some, h8', and_self], ?_⟩
        have hg : g.toNat < (cl (aB x v) n (pts x)).length := by omega
        have em : (cl (aB x v) n (pts x)).getD g.toNat [] = (cl (aB x v) n (pts x))[g.toNat] := by simp [List.getD, hg]
        rw [em, cl_len _ _ _ _ (List.getElem_mem hg)]; omega
      · obtain ⟨l, s', e5, h9⟩ := hset s3 h6
        exact ⟨x, v, l, by simp [hd, e5], h9⟩
    · rw [decide_eq_false hl]
      obtain ⟨l, s', e5, h9⟩ := hset s2 h2
      exact ⟨x, v, l, by simp [e5], h9⟩

/-! ### The law -/
theorem good_loop {k : Nat} (hk : 5000 ≤ k) (x : Col) (h : x.is) (c : Int) (hc : 0 ≤ c ∧ c ≤ x.k - 1) (n : Nat) (hn : 1 ≤ n ∧ n ≤ 17) (hl : (cl (aB x c) n (pts x)).length ≤ 200) (e : Int) :
    laws_FnCliques_l1 k (x, c, (n : Int)) (some (cl (aB x c) n (pts x)), e) k 0 = some (.inl ()) := by
  have := loopI (f := fun k' i (_ : Unit) => laws_FnCliques_l1 k (x, c, (n : Int)) (some (cl (aB x c) n (pts x)), e) k' i) 6 0 (fun i _ => i ≤ 6) (fun r => r = .inl ()) ?_ ?_ k 0 () (by omega) (by omega) (by omega)
  · obtain ⟨r, e, rfl⟩ := this
    exact e
  · intro k' i _ h0 h1 _
    by_cases hi : i < ((cl (aB x c) n (pts x)).length : Int)
    · left
      refine ⟨(), ?_, by omega⟩
      show laws_FnCliques_l1 k (x, c, (n : Int)) (some (cl (aB x c) n (pts x)), e) (k' + 1) i = _
      have hg : i.toNat < (cl (aB x c) n (pts x)).length := by omega
      have em : (cl (aB x c) n (pts x)).getD i.toNat [] ∈ cl (aB x c) n (pts x) := by
        have : (cl (aB x c) n (pts x)).getD i.toNat [] = (cl (aB x c) n (pts x))[i.toNat] := by simp [List.getD, hg]
        rw [this]; exact List.getElem_mem hg
      have eg := isClique_good hk h hc (by omega) em
      have el := cl_len _ _ _ _ em
      rw [laws_FnCliques_l1, w64_succ h0 h1 (by omega)]
      simp only [Option.getD_some, hi, h1, h0, decide_true, if_true, letO, Option.bind_some, and_self, eg, Bool.not_true, Bool.false_eq_true, if_false, el]
    · right
      refine ⟨.inl (), ?_, rfl⟩
      show laws_FnCliques_l1 k (x, c, (n : Int)) (some (cl (aB x c) n (pts x)), e) (k' + 1) i = _
      rw [laws_FnCliques_l1]
      simp [letO, hi]
  · intro k' i _ h0 h1 h2
    have : i = 6 := by omega
    subst this
    refine ⟨.inl (), ?_, rfl⟩
    show laws_FnCliques_l1 k (x, c, (n : Int)) (some (cl (aB x c) n (pts x)), e) (k' + 1) 6 = _
    rw [laws_FnCliques_l1]
    simp [letO]

theorem cliques_pure (c : List UInt8) : laws_FnCliques 6000 c = some true := by
  classical
  have hk : 5000 ≤ 6000 := by decide
  generalize 6000 = k at hk
  unfold laws_FnCliques
  by_cases hb : laws_big c = true
  · rw [if_pos hb]
  have hc : c.length ≤ 4096 := by
    unfold laws_big at hb
    simp at hb; omega
  rw [if_neg hb]
  obtain ⟨x, a, m, d1⟩ := drawList_ok hk c hc
  obtain ⟨y, b, d2⟩ := with02_ok hk c hc
  have d2' : spec_DrawGreatestClique k c = some (y, b) := by unfold spec_DrawGreatestClique; rw [d2]; rfl
  obtain ⟨z, v, l, d3, hl3⟩ := drawIs_ok hk c hc
  obtain ⟨u, f, p, q, d4⟩ := drawAt_ok hk c hc
  -- lists
  have hlist : ∃ r e, impl_CliqueList k x a m = some (r, e) ∧ spec_CliqueList k x a m = some (r.getD [], e) ∧ laws_rows9 k (r.getD []) (r.getD []) = some true ∧ ((e ≠ 0 ∧ r = none) ∨ (e = 0 ∧ x.is ∧ (0 ≤ a ∧ a ≤ x.k - 1) ∧ ∃ n : Nat, m = n ∧ (1 ≤ n ∧ n ≤ 17) ∧ r = some (cl (aB x a) n (pts x)) ∧ (cl (aB x a) n (pts x)).length ≤ 200)) := by
    rcases cliqueList_val hk x a m with ⟨e, he, h1, h2⟩ | ⟨h1, h2, n, h3, h4, h5, h6, h7⟩
    · exact ⟨none, e, h1, h2, rows9_refl k [] (by simp; omega) (by simp) (fun l hl => by cases hl), .inl ⟨he, rfl⟩⟩
    · refine ⟨_, 0, h5, h6, ?_, .inr ⟨rfl, h1, h2, n, h3, h4, rfl, h7⟩⟩
      exact rows9_refl k _ (by simp only [Option.getD_some]; omega) (by simp only [Option.getD_some]; omega) (fun l hl => by
        have := cl_len _ _ _ l hl
        omega)
  obtain ⟨r, e, l1, l2, l3, l4⟩ := hlist
  -- counts
  have hcount : ∃ s g, impl_CountCliques k x a m = some (s, g) ∧ spec_CountCliques k x a m = some (s, g) := by
    rcases countCliques_val hk x a m with ⟨g, _, h1, h2, _⟩ | ⟨_, _, n, _, _, h1, h2⟩
    · exact ⟨_, _, h1, h2⟩
    · exact ⟨_, _, h1, h2⟩
  obtain ⟨s, g, n1, n2⟩ := hcount
  -- greatest cliques
  have hgrt : ∃ t h, impl_GreatestClique k y b = some (t, h) ∧ spec_GreatestClique k y b = some (t, h) ∧ t.length ≤ 17 ∧ (h ≠ 0 ∨ (h = 0 ∧ y.is ∧ (0 ≤ b ∧ b ≤ y.k - 1) ∧ ∃ w, isGrt y b w t)) := by
    rcases greatestClique_val hk y b with ⟨h, hh, h1, h2⟩ | ⟨h1, h2, w, t, h3, h4, h5⟩
    · exact ⟨[], h, h1, h2, by simp, .inl hh⟩
    · refine ⟨t, 0, h3, h4, ?_, .inr ⟨rfl, h1, h2, w, h5⟩⟩
      rw [cl_len _ _ _ t (List.mem_of_mem_head? (by rw [h5.2.2.1]; rfl))]
      exact h5.2.1
  obtain ⟨t, h, t1, t2, t3, t4⟩ := hgrt
  have lk := like_refl k t (by omega) (by omega)
  -- cliques
  have his : ∃ bb g2, impl_IsClique k z v l = some (bb, g2) ∧ spec_IsClique k z v l = some (bb, g2) := by
    rcases isClique_val hk z v l hl3 with ⟨g2, _, h1, h2, _⟩ | ⟨_, _, _, _, h1, h2⟩
    · exact ⟨_, _, h1, h2⟩
    · exact ⟨_, _, h1, h2⟩
  obtain ⟨bb, g2, i1, i2⟩ := his
  -- cliques at points
  have hat : ∃ o g3, impl_CliquesAt k u f p q = some (o, g3) ∧ spec_CliquesAt k u f p q = some (o, g3) ∧ (g3 ≠ 0 ∨ (g3 = 0 ∧ ∃ w, impl_CountCliques k u f q = some (w, 0) ∧ laws_FnCliques_l0 k (u, f, p, q) k 0 0 = some (.inl (w64 (q * w))))) := by
    rcases cliquesAt_val hk u f p q with ⟨g3, hg, h1, h2⟩ | ⟨h1, h2, h3, n, rfl, h5, h6, h7⟩
    · exact ⟨_, _, h1, h2, .inl hg⟩
    · refine ⟨_, 0, h6, h7, .inr ⟨rfl, ?_⟩⟩
      rcases countCliques_val hk u f n with ⟨g, _, _, _, hno⟩ | ⟨_, _, n', hn', _, hcn, _⟩
      · exact absurd ⟨h1, h2, by omega, by omega⟩ hno
      · obtain rfl : n' = n := by omega
        refine ⟨_, hcn, ?_⟩
        have hbd := cl_len_le h1 f n'
        have hmul : n' * (cl (aB u f) n' (pts u)).length ≤ 17 * 131072 := Nat.mul_le_mul h5.2 hbd
        rw [at_loop hk u h1 f p h2 n' h5, ← Int.natCast_mul, w64_id (by omega)]
  obtain ⟨o, g3, o1, o2, o3⟩ := hat
  have key1 : ∀ (X : Option (Sum Unit Bool)) (n : Int), (n = 0 → X = some (.inl ())) → (if decide (n = 0) = true then X else some (.inl ())) = some (.inl ()) := fun X n hX => by
    by_cases hz : n = 0
    · rw [decide_eq_true hz, if_pos rfl, hX hz]
    · rw [decide_eq_false hz, if_neg (by simp)]
  rw [d1]
  simp only [Option.bind_some, l1, l2, n1, n2, d2', t1, t2, d3, i1, i2, d4, o1, o2, decide_true, Bool.not_true, Bool.false_eq_true, if_false, l3, lk, letO, BEq.rfl]
  rw [key1 _ g3 (fun hz => by
    rcases o3 with h' | ⟨_, w, hw, hlp⟩
    · exact absurd hz h'
    · rw [hw, hlp]; simp)]
  simp only [Option.bind_some]
  rw [key1 _ h (fun hz => by
    rcases t4 with h' | ⟨_, hy, hbc, w, hg⟩
    · exact absurd hz h'
    · have hmem := List.mem_of_mem_head? (show t ∈ (cl (aB y b) w (pts y)).head? by rw [hg.2.2.1]; rfl)
      have hlen := cl_len _ _ _ t hmem
      have hgood := isClique_good hk hy hbc hg.2.1 hmem
      rw [hgood, hlen, w64_id (by have := hg.2.1; omega)]
      simp only [decide_true, if_true, Option.bind_some]
      rcases countCliques_val hk y b (if 17 < (w : Int) + 1 then 17 else (w : Int) + 1) with ⟨g, _, _, _, hno⟩ | ⟨_, _, n', hn', _, hcn, _⟩
      · exfalso
        have := hg.2.1
        exact hno ⟨hy, hbc, by split <;> omega, by split <;> omega⟩
      · rw [hcn]
        have h1 := hg.1
        have : ¬ (w : Int) < 1 := by omega
        by_cases h17 : w < 17
        · have : n' = w + 1 := by
            rw [if_neg (by omega)] at hn'; omega
          rw [this, hg.2.2.2]
          have h17' : (w : Int) < 17 := by omega
          simp [‹¬ (w : Int) < 1›]
        · have h17' : ¬ (w : Int) < 17 := by omega
          simp [‹¬ (w : Int) < 1›, h17'])]
  rcases l4 with ⟨he, rfl⟩ | ⟨rfl, hx, hac, n, rfl, hn, rfl, hlen⟩
  · simp [he]
  · rcases countCliques_val hk x a n with ⟨g', _, _, _, hno⟩ | ⟨_, _, n', hn', _, hcn, _⟩
    · exact absurd ⟨hx, hac, by omega, by omega⟩ hno
    · obtain rfl : n' = n := by omega
      rw [n1] at hcn
      cases hcn
      have hgl := good_loop hk x hx a hac n' hn hlen 0
      simp only [decide_true, Bool.not_true, Bool.false_eq_true, if_false, Option.getD_some, Option.bind_some, hgl]
end Go.Proofs.Ytfoijbdnkkaceaa
