/- The plain law of FnCirculant. No conditions beyond those that each lemma states. -/
import Derived.Test.YtkknnbmmcmhngaaGreatPureDraw23
set_option linter.unusedVariables false
set_option linter.unusedSimpArgs false
namespace Go.Proofs.YtkknnbmmcmhngaaGreat
open Go Go.RowKit Ab

/-! ### Draws -/
theorem spoil2 {k : Nat} (hk : 5000 ≤ k) (s : Src) (h : okS s) : ∃ x s', spec_l01Spoil k s = some (x, s') ∧ okS s' := by
  unfold spec_l01Spoil
  obtain ⟨x, s1, e1, hs1, _⟩ := draw2 hk s h
  obtain ⟨y, s2, e2, hs2⟩ := bad_ok s1 x hs1
  exact ⟨y, s2, by rw [e1]; simp only [Option.bind_some, e2], hs2⟩
theorem drawList_ok {K : Nat} (hK : 5000 ≤ K) (s : Src) (h : okS s) (n : Nat) (hn : n ≤ 100) (c : Int) : ∃ l s', spec_l03DrawList K s n c = some (l, s') ∧ okS s' ∧ l.length = n := by
  unfold spec_l03DrawList
  have := loopI (f := fun k' i (t : Src × List Int) => spec_l03DrawList_l0 n c k' i t.1 t.2) (n : Int) 0 (fun i t => i ≤ n ∧ okS t.1 ∧ (t.2.length : Int) = i) (fun t => okS t.1 ∧ t.2.length = n) ?_ ?_ K 0 (s, []) (by omega) (by omega) ⟨by omega, h, by simp⟩
  · obtain ⟨⟨s2, l⟩, e2, h2, h3⟩ := this
    simp only at e2 h2 h3
    exact ⟨l, s2, by rw [e2]; rfl, h2, h3⟩
  · rintro k' i ⟨t, l⟩ g0 g1 ⟨_, q1, q2⟩
    left
    obtain ⟨v, t', e, ht, _, _⟩ := next_ok t c q1
    simp only at q2
    have hl : l.length + ([v]).length ≤ 1099511627776 := by simp; omega
    refine ⟨(t', l ++ [v]), ?_, by omega, ht, by simp; omega⟩
    show spec_l03DrawList_l0 n c (k' + 1) i t l = _
    rw [spec_l03DrawList_l0, w64_succ g0 g1 (by omega)]
    simp only [e, g1, decide_true, if_true, Option.bind_some, hl]
  · rintro k' i ⟨t, l⟩ g0 g1 ⟨q0, q1, q2⟩
    simp only at q2
    refine ⟨(t, l), ?_, q1, by simp only; omega⟩
    show spec_l03DrawList_l0 n c (k' + 1) i t l = _
    rw [spec_l03DrawList_l0]
    have : ¬ i < (n : Int) := by omega
    simp [this]
theorem draw03_ok {K : Nat} (hK : 5000 ≤ K) (s : Src) (h : okS s) : ∃ x s', spec_l03Draw K s = some (x, s') ∧ okS s' := by
  unfold spec_l03Draw
  obtain ⟨k, s1, e1, h1, _⟩ := pick_ok s [2, 2, 3, 4] h (by simp)
  obtain ⟨v, s2, e2, h2, hv, _⟩ := next_ok s1 6 h1
  rw [e1]
  simp only [Option.bind_some, e2]
  by_cases h0 : v = 0
  · obtain ⟨x, s3, e3, h3⟩ := spoil2 hK s2 h2
    exact ⟨x, s3, by simp only [h0, decide_true, if_true, e3, Option.bind_some], h3⟩
  rw [decide_eq_false h0]
  simp only [Bool.false_eq_true, if_false]
  by_cases h1' : v = 1
  · have hlen : (spec_l01Names.length : Int) = 5 := rfl
    obtain ⟨a, s3, e3, h3, ha, _⟩ := next_ok s2 5 h2
    have ha' := ha (by omega)
    obtain ⟨x, e4, _⟩ := named2 hK a.toNat (by omega)
    exact ⟨x, s3, by simp only [h1', decide_true, if_true, e3, Option.bind_some, hlen, ha', and_self, e4], h3⟩
  rw [decide_eq_false h1']
  simp only [Bool.false_eq_true, if_false]
  by_cases h2' : v = 2
  · obtain ⟨n, s3, e3, h3, hn⟩ := pick_ok s2 [2, 4, 8, 16] h2 (by simp)
    obtain ⟨d, hd, rfl⟩ : ∃ d : Nat, (1 ≤ d ∧ d ≤ 4) ∧ n = ((2 ^ d : Nat) : Int) := by
      simp only [List.mem_cons, List.not_mem_nil, or_false] at hn
      rcases hn with rfl | rfl | rfl | rfl
      · exact ⟨1, by omega, rfl⟩
      · exact ⟨2, by omega, rfl⟩
      · exact ⟨3, by omega, rfl⟩
      · exact ⟨4, by omega, rfl⟩
    have hp := pow_le hd.2
    have hpos : 1 ≤ 2 ^ d := Nat.one_le_two_pow
    obtain ⟨l, s4, e4, h4, hl⟩ := drawList_ok hK s3 h3 (2 ^ d - 1) (by omega) k
    have e4' : spec_l03DrawList K s3 (w64 (((2 ^ d : Nat) : Int) - 1)) k = some (l, s4) := by
      rw [w64_id (by omega), ← e4]
      congr 1
      omega
    have e5 := specDigital_val (k := K) (d := d) (by omega) hd.2 k (L := l) (by omega)
    obtain ⟨y, s6, e6, h6⟩ := bad_ok s4 (digC (2 ^ d) k l) h4
    rw [h2', decide_eq_true rfl, if_pos rfl, e3]
    simp only [Option.bind_some, e4', e5, e6]
    exact ⟨y, s6, rfl, h6⟩
  rw [decide_eq_false h2']
  simp only [Bool.false_eq_true, if_false]
  by_cases h3' : v = 3
  · obtain ⟨n, s3, e3, h3, hn⟩ := pick_ok s2 [5, 13, 17] h2 (by simp)
    have hn' : n = 5 ∨ n = 13 ∨ n = 17 := by simpa using hn
    obtain ⟨m, rfl⟩ := nat_of (show 0 ≤ n by omega)
    have e5 := specSq_val (k := K) (p := m) (by omega) (by omega)
    obtain ⟨y, s6, e6, h6⟩ := bad_ok s3 (sqC m) h3
    rw [h3', decide_eq_true rfl, if_pos rfl, e3]
    simp only [Option.bind_some, e5, e6]
    exact ⟨y, s6, rfl, h6⟩
  rw [decide_eq_false h3']
  simp only [Bool.false_eq_true, if_false]
  obtain ⟨a, s3, e3, h3, ha, _⟩ := next_ok s2 16 h2
  have ha' := ha (by omega)
  obtain ⟨m, rfl⟩ := nat_of ha'.1
  obtain ⟨l, s4, e4, h4, hl⟩ := drawList_ok hK s3 h3 ((2 + m) / 2) (by omega) k
  have ew : w64 (2 + (m : Int)) = ((2 + m : Nat) : Int) := by rw [w64_id (by omega)]; omega
  have eh := halfI (n := 2 + m) (by omega)
  have e5 := specCircular_val (k := K) (n := 2 + m) (by omega) (by omega) (by omega) k (L := l) (by omega)
  obtain ⟨y, s6, e6, h6⟩ := bad_ok s4 (cirC (2 + m) k l) h4
  rw [e3]
  simp only [Option.bind_some, ew, eh, e4, e5, e6]
  exact ⟨y, s6, rfl, h6⟩
theorem drawCir_ok {K : Nat} (hK : 5000 ≤ K) (c : List UInt8) (hc : c.length ≤ 4096) : ∃ x, spec_DrawListOfCircular K c = some x ∧ spec_DrawListOfDigital K c = some x := by
  unfold spec_DrawListOfCircular spec_DrawListOfDigital
  obtain ⟨s0, e0, h0⟩ := from_ok hK c hc
  obtain ⟨x, s1, e1, h1⟩ := draw03_ok hK s0 h0
  exact ⟨x, by rw [e0]; simp only [Option.bind_some, e1], by rw [e0]; simp only [Option.bind_some, e1]⟩
theorem drawTurn_ok {K : Nat} (hK : 5000 ≤ K) (c : List UInt8) (hc : c.length ≤ 4096) : ∃ x t, spec_DrawTurnColouring K c = some (x, t) := by
  unfold spec_DrawTurnColouring
  obtain ⟨s0, e0, h0⟩ := from_ok hK c hc
  obtain ⟨x, s1, e1, h1⟩ := draw03_ok hK s0 h0
  obtain ⟨a, s2, e2, h2⟩ := near_ok s1 16 h1
  obtain ⟨b, s3, e3, _⟩ := pick_ok s2 [1, 2, 3, 4, 5, 7, a] h2 (by simp)
  rw [e0]
  simp only [Option.bind_some, e1, e2, e3]
  exact ⟨_, _, rfl⟩
theorem drawSq_ok {K : Nat} (hK : 5000 ≤ K) (c : List UInt8) (hc : c.length ≤ 4096) : ∃ p, spec_DrawBySquares K c = some p := by
  unfold spec_DrawBySquares
  obtain ⟨s0, e0, h0⟩ := from_ok hK c hc
  obtain ⟨b, s3, e3, _⟩ := pick_ok s0 [5, 13, 17, 7, 9, 1, 29] h0 (by simp)
  rw [e0]
  simp only [Option.bind_some, e3]
  exact ⟨_, rfl⟩
theorem drawCO_ok {K : Nat} (hK : 5000 ≤ K) (c : List UInt8) (hc : c.length ≤ 4096) : ∃ n k l, spec_DrawCircularOf K c = some (n, k, l) ∧ l.length ≤ 1000 := by
  unfold spec_DrawCircularOf
  obtain ⟨s0, e0, h0⟩ := from_ok hK c hc
  obtain ⟨a, s3, e3, h3, ha, _⟩ := next_ok s0 16 h0
  have ha' := ha (by omega)
  obtain ⟨m, rfl⟩ := nat_of ha'.1
  obtain ⟨k, s1, e1, h1, _⟩ := pick_ok s3 [1, 2, 3, 4] h3 (by simp)
  obtain ⟨l, s4, e4, h4, hl⟩ := drawList_ok hK s1 h1 ((2 + m) / 2) (by omega) k
  have ew : w64 (2 + (m : Int)) = ((2 + m : Nat) : Int) := by rw [w64_id (by omega)]; omega
  have eh := halfI (n := 2 + m) (by omega)
  obtain ⟨v, s5, e5, h5, _, _⟩ := next_ok s4 12 h4
  rw [e0]
  simp only [Option.bind_some, e3, e1, ew, eh, e4, e5]
  by_cases q0 : v = 0
  · obtain ⟨u, s6, e6, _⟩ := pick_ok s5 [1, 18, 0, w64 (((2 + m : Nat) : Int) + 2)] h5 (by simp)
    rw [decide_eq_true q0, if_pos rfl, e6]
    exact ⟨_, _, _, rfl, by show l.length ≤ 1000; omega⟩
  rw [decide_eq_false q0]
  simp only [Bool.false_eq_true, if_false]
  by_cases q1 : v = 1
  · obtain ⟨u, s6, e6, _⟩ := pick_ok s5 [0, 5] h5 (by simp)
    rw [decide_eq_true q1, if_pos rfl, e6]
    exact ⟨_, _, _, rfl, by show l.length ≤ 1000; omega⟩
  rw [decide_eq_false q1]
  simp only [Bool.false_eq_true, if_false]
  by_cases q2 : v = 2
  · obtain ⟨u, s6, e6, _⟩ := pick_ok s5 [0, -1, k] h5 (by simp)
    have hl2 : l.length + ([u]).length ≤ 1099511627776 := by simp; omega
    rw [decide_eq_true q2, if_pos rfl, e6]
    simp only [Option.bind_some, hl2, if_true]
    exact ⟨_, _, _, rfl, by simp; omega⟩
  rw [decide_eq_false q2]
  exact ⟨_, _, _, rfl, by show l.length ≤ 1000; omega⟩
theorem drawDO_ok {K : Nat} (hK : 5000 ≤ K) (c : List UInt8) (hc : c.length ≤ 4096) : ∃ n k l, spec_DrawDigitalOf K c = some (n, k, l) ∧ l.length ≤ 1000 := by
  unfold spec_DrawDigitalOf
  obtain ⟨s0, e0, h0⟩ := from_ok hK c hc
  obtain ⟨a, s3, e3, h3, ha, _⟩ := next_ok s0 4 h0
  have ha' := ha (by omega)
  obtain ⟨m, rfl⟩ := nat_of ha'.1
  obtain ⟨k, s1, e1, h1, _⟩ := pick_ok s3 [1, 2, 3, 4] h3 (by simp)
  have hp := pow_le (d := 1 + m) (by omega)
  have hpos : 2 ≤ 2 ^ (1 + m) := by
    have : ∀ m : Nat, m < 4 → 2 ≤ 2 ^ (1 + m) := by decide +kernel
    exact this m (by omega)
  obtain ⟨l, s4, e4, h4, hl⟩ := drawList_ok hK s1 h1 (2 ^ (1 + m) - 1) (by omega) k
  have ew : w64 (1 + (m : Int)) = ((1 + m : Nat) : Int) := by rw [w64_id (by omega)]; omega
  have eu := wrapU (d := 1 + m) (by omega)
  have es := shlI (d := 1 + m) (by omega)
  have e9 : w64 (((2 ^ (1 + m) : Nat) : Int) - 1) = ((2 ^ (1 + m) - 1 : Nat) : Int) := by rw [w64_id (by omega)]; omega
  obtain ⟨v, s5, e5, h5, _, _⟩ := next_ok s4 12 h4
  rw [e0]
  simp only [Option.bind_some, e3, e1, ew, eu, es, e9, e4, e5]
  rw [if_pos (by omega)]
  by_cases q0 : v = 0
  · obtain ⟨u, s6, e6, _⟩ := pick_ok s5 [0, 5, -1, 62] h5 (by simp)
    rw [decide_eq_true q0, if_pos rfl, e6]
    exact ⟨_, _, _, rfl, by show l.length ≤ 1000; omega⟩
  rw [decide_eq_false q0]
  simp only [Bool.false_eq_true, if_false]
  by_cases q1 : v = 1
  · obtain ⟨u, s6, e6, _⟩ := pick_ok s5 [0, 5] h5 (by simp)
    rw [decide_eq_true q1, if_pos rfl, e6]
    exact ⟨_, _, _, rfl, by show l.length ≤ 1000; omega⟩
  rw [decide_eq_false q1]
  simp only [Bool.false_eq_true, if_false]
  by_cases q2 : v = 2
  · obtain ⟨u, s6, e6, _⟩ := pick_ok s5 [-1, k] h5 (by simp)
    rw [decide_eq_true q2, if_pos rfl, e6]
    simp only [Option.bind_some]
    rw [if_pos (by omega)]
    exact ⟨_, _, _, rfl, by rw [List.length_set]; omega⟩
  rw [decide_eq_false q2]
  exact ⟨_, _, _, rfl, by show l.length ≤ 1000; omega⟩

/-! ### The law's parts -/
theorem turn_impl {k : Nat} (hk : 5000 ≤ k) {x : Col} (hx : x.is) {t : Nat} (hT : isT x.p.toNat t) : impl_TurnColouring k x t = some (ren x (turnP x.p.toNat t), 0) := by
  have hp := hx.1
  have hz := toN hp
  have ho := turnP_ord (p := x.p.toNat) (by omega) hT
  rw [hz] at ho
  have hT1 := hT.1
  have hg := implGcd (k := k) (a := t) (b := x.p.toNat) (by omega)
  rw [hz] at hg
  have hc : impl_TurnColouring_c1 k x t = some true := by
    unfold impl_TurnColouring_c1 impl_isTurn
    rw [in_eq, w64_id (n := x.p - 1) (by omega), hg]
    simp only [Option.bind_some, copr_dec, hT.2]
    by_cases h2 : x.p = 1
    · rw [decide_eq_true h2, decide_eq_true (show (t : Int) = 1 by omega)]; rfl
    · rw [decide_eq_false h2, decide_eq_true (show 1 ≤ (t : Int) ∧ (t : Int) ≤ x.p - 1 by omega)]; rfl
  unfold impl_TurnColouring
  rw [hc, ((code_cases hk x).1 hx).1, implTurn_loop (by omega) hp (by omega)]
  simp only [decide_true, Bool.not_true, Bool.false_eq_true, if_false, Option.bind_some]
  rw [implRen_eq x _ hp ho k (by omega)]
  rfl
theorem mul_mem {x : Col} {z : Int} (h : z ∈ mulL x) : ∃ t : Nat, z = t ∧ 1 ≤ t ∧ t < x.p.toNat ∧ isMul x t = true := by
  unfold mulL at h
  obtain ⟨h1, h2⟩ := List.mem_filter.1 h
  unfold ir at h1
  obtain ⟨t, ht, rfl⟩ := List.mem_map.1 h1
  rw [List.mem_range'_1] at ht
  exact ⟨t, rfl, ht.1, by omega, by simpa using h2⟩
theorem mulL_len {x : Col} (hp : 1 ≤ x.p ∧ x.p ≤ 17) : (mulL x).length ≤ 17 := by
  unfold mulL
  exact Nat.le_trans (List.length_filter_le _ _) (by rw [ir_length]; omega)
theorem mul_one {x : Col} (hp : 2 ≤ x.p ∧ x.p ≤ 17) : (1 : Int) ∈ mulL x := by
  unfold mulL
  refine List.mem_filter.2 ⟨?_, ?_⟩
  · unfold ir
    exact List.mem_map.2 ⟨1, List.mem_range'_1.2 (by omega), rfl⟩
  · show isMul x 1 = true
    unfold isMul
    rw [one_copr _ (by omega) (by omega), Bool.true_and, List.all_eq_true]
    intro i hi
    have hi' := List.mem_range.1 hi
    unfold keeps
    rw [one_dst (by omega) (by omega), Nat.add_sub_cancel]
    exact decide_eq_true rfl
theorem cir_range {x : Col} (hx : x.is) : ∀ z ∈ cirL x, 0 ≤ z ∧ z ≤ x.k - 1 := by
  have hp := hx.1
  intro z hz
  obtain ⟨a, ha, rfl⟩ := mem_getD.1 hz
  rw [cirL_len] at ha
  have hg : (cirL x).getD a 0 = x.cc (0 : Nat) ((a + 1 : Nat) : Int) := mapL_get _ _ _ ha
  have := is_cc hx (a := 0) (b := a + 1) (by omega) (by omega) (by omega)
  rw [hg]
  omega
theorem dig_range {x : Col} (hx : x.is) : ∀ z ∈ digL x, 0 ≤ z ∧ z ≤ x.k - 1 := by
  have hp := hx.1
  intro z hz
  obtain ⟨a, ha, rfl⟩ := mem_getD.1 hz
  rw [digL_len] at ha
  have hg : (digL x).getD a 0 = x.cc (0 : Nat) ((a + 1 : Nat) : Int) := mapL_get _ _ _ ha
  have := is_cc hx (a := 0) (b := a + 1) (by omega) (by omega) (by omega)
  rw [hg]
  omega
theorem keep_loop {k : Nat} (hk : 5000 ≤ k) {x : Col} (hx : x.is) (hc : isCir x) : laws_FnCirculant_l0 k x (some (mulL x), 0) k 0 = some (.inl ()) := by
  have hp := hx.1
  have := loopI (f := fun k' i (_ : Unit) => laws_FnCirculant_l0 k x (some (mulL x), 0) k' i) ((min (mulL x).length 6 : Nat) : Int) 0 (fun _ _ => True) (fun r => r = .inl ()) ?_ ?_ k 0 () (by omega) (by omega) trivial
  · obtain ⟨r, e, rfl⟩ := this; exact e
  · intro k' i _ h0 h1 _
    left
    obtain ⟨m, rfl⟩ := nat_of h0
    have h2 : m < (mulL x).length := by omega
    have h6 : m < 6 := by omega
    refine ⟨(), ?_, trivial⟩
    show laws_FnCirculant_l0 k x (some (mulL x), 0) (k' + 1) m = laws_FnCirculant_l0 k x (some (mulL x), 0) k' ((m : Int) + 1)
    obtain ⟨t, e, t1, t2, t3⟩ := mul_mem (mem_getD.2 ⟨m, h2, rfl⟩)
    have hcop : copr t x.p.toNat = true := by
      unfold isMul at t3
      rw [Bool.and_eq_true] at t3
      exact t3.1
    have ht := turn_impl hk hx (t := t) ⟨⟨t1, .inl t2⟩, hcop⟩
    rw [turn_keep hx hc t1 (by omega) t3] at ht
    have c1 : (m : Int) < ((mulL x).length : Int) := by omega
    have c2 : (m : Int) < 6 := by omega
    rw [laws_FnCirculant_l0, w64_id (n := (m : Int) + 1) (by omega)]
    simp only [Option.getD_some, letO, c1, c2, decide_true, if_true, Option.bind_some, Int.natCast_nonneg, and_self, Int.toNat_natCast, e, ht, Bool.not_true, Bool.false_eq_true, if_false, eqb_refl']
  · intro k' i _ h0 h1 _
    refine ⟨.inl (), ?_, rfl⟩
    show laws_FnCirculant_l0 k x (some (mulL x), 0) (k' + 1) i = _
    rw [laws_FnCirculant_l0]
    have hb : (if decide (i < ((mulL x).length : Int)) then decide (i < 6) else false) = false := by
      by_cases q : i < ((mulL x).length : Int)
      · rw [decide_eq_true q, decide_eq_false (by omega)]; rfl
      · rw [decide_eq_false q]; rfl
    simp only [Option.getD_some, letO, hb, Bool.false_eq_true, if_false, Option.bind_some]
theorem ci1 {k : Nat} (hk : 5000 ≤ k) (x : Col) : ∃ (a m : Option (List Int)) (b n : List Int) (c : Int), impl_ListOfCircular k x = some (a, c) ∧ spec_ListOfCircular k x = some (b, c) ∧ impl_MultipliersOf k x = some (m, c) ∧ spec_MultipliersOf k x = some (n, c) ∧ laws_likeInts k (a.getD []) b = some true ∧ laws_likeInts k (m.getD []) n = some true ∧
    (c = 0 → impl_CircularOf k x.p x.k (a.getD []) = some (x, 0) ∧ impl_IsBalanced k x = some (true, 0) ∧ laws_hasInt k (m.getD []) 1 = some true ∧ laws_FnCirculant_l0 k x (m, c) k 0 = some (.inl ())) := by
  classical
  rcases listC_same hk x with ⟨c, hc, e1, e2, e3⟩ | ⟨hx, hcir, e1, e2, e3⟩
  · refine ⟨none, none, [], [], c, e1, e2, ?_, e3, like_refl k [] (by simp; omega) (by simp), like_refl k [] (by simp; omega) (by simp), fun h => absurd h hc⟩
    unfold impl_MultipliersOf
    rw [e1]
    simp only [Option.bind_some, hc, decide_false, Bool.not_false, if_true]
  · have hp := hx.1
    have hz := toN hp
    have hkk := hx.2.1
    obtain ⟨m1, m2⟩ := mul_same hk hx
    have hl1 := cirL_len x
    have hl2 := mulL_len hp
    rw [m2] at e3
    refine ⟨some (cirL x), some (mulL x), cirL x, mulL x, 0, e1, e2, ?_, e3, like_refl k (cirL x) (by omega) (by omega), like_refl k (mulL x) (by omega) (by omega), fun _ => ⟨?_, ?_, ?_, keep_loop hk hx hcir⟩⟩
    · unfold impl_MultipliersOf
      rw [e1]
      simp only [Option.bind_some, decide_true, Bool.not_true, Bool.false_eq_true, if_false, m1]
    · obtain ⟨r, r1, _, r3⟩ := circularOf_same hk x.p x.k (cirL x) (by omega)
      have h2 := hcir.1
      rw [r3 (by omega) hkk (by omega) (cir_range hx), hcir.2] at r1
      exact r1
    · rw [implBal hk hx, decide_eq_true (bal_cir hx hcir)]
    · exact has_val _ _ (by show (mulL x).length + 1 ≤ k; omega) (by show (mulL x).length ≤ 1000; omega) (mul_one (by have := hcir.1; omega))
theorem exp_loop {k : Nat} (hk : 5000 ≤ k) {x : Col} {d : Nat} (hd : 1 ≤ d ∧ d ≤ 4) (hp : x.p = ((2 ^ d : Nat) : Int)) : laws_FnCirculant_l1 x k 0 = some (d : Int) := by
  have key : ∀ d : Nat, d < 5 → ∀ i : Nat, i < 5 → decide (((2 ^ i : Nat) : Int) < ((2 ^ d : Nat) : Int)) = decide (i < d) := by decide +kernel
  have go : ∀ (m i K : Nat), i + m = d → m < K → laws_FnCirculant_l1 x K i = some (d : Int) := by
    intro m
    induction m with
    | zero =>
      intro i K h1 h2
      obtain ⟨K, rfl⟩ : ∃ q, K = q + 1 := ⟨K - 1, by omega⟩
      obtain rfl : i = d := by omega
      rw [laws_FnCirculant_l1, wrapU (by omega), shlI (by omega), hp, key i (by omega) i (by omega), if_pos (by omega), decide_eq_false (by omega)]
      rfl
    | succ m ih =>
      intro i K h1 h2
      obtain ⟨K, rfl⟩ : ∃ q, K = q + 1 := ⟨K - 1, by omega⟩
      rw [laws_FnCirculant_l1, wrapU (by omega), shlI (by omega), hp, key d (by omega) i (by omega), if_pos (by omega), decide_eq_true (by omega), if_pos rfl, w64_id (by omega)]
      exact ih (i + 1) K (by omega) (by omega)
  exact go d 0 k (by omega) (by omega)
theorem ci2 {k : Nat} (hk : 5000 ≤ k) (x : Col) : ∃ (a : Option (List Int)) (b : List Int) (c : Int), impl_ListOfDigital k x = some (a, c) ∧ spec_ListOfDigital k x = some (b, c) ∧ laws_likeInts k (a.getD []) b = some true ∧
    (c = 0 → ∃ d, laws_FnCirculant_l1 x k 0 = some d ∧ impl_DigitalOf k d x.k (a.getD []) = some (x, 0) ∧ impl_IsBalanced k x = some (true, 0)) := by
  classical
  rcases dig_same hk x with ⟨c, hc, e1, e2⟩ | ⟨hx, hdig, e1, e2⟩
  · exact ⟨none, [], c, e1, e2, like_refl k [] (by simp; omega) (by simp), fun h => absurd h hc⟩
  · have hp := hx.1
    have hl := digL_len x
    refine ⟨some (digL x), digL x, 0, e1, e2, like_refl k (digL x) (by omega) (by omega), fun _ => ?_⟩
    have hd0 := hdig
    obtain ⟨d, hd, hpd, hc⟩ := hd0
    have hpos : 1 ≤ 2 ^ d := Nat.one_le_two_pow
    refine ⟨d, exp_loop hk hd (by omega), ?_, ?_⟩
    · obtain ⟨r, r1, _, r3⟩ := digitalOf_same hk d x.k (digL x) (by omega)
      rw [r3 (by omega) hx.2.1 (by rw [Int.toNat_natCast]; omega) (dig_range hx), Int.toNat_natCast, ← hpd, hc] at r1
      exact r1
    · rw [implBal hk hx, decide_eq_true (bal_dig hx hdig)]
theorem bal_same {k : Nat} (hk : 5000 ≤ k) (x : Col) : ∃ r, impl_IsBalanced k x = some r ∧ spec_IsBalanced k x = some r := by
  classical
  by_cases hx : x.is
  · exact ⟨_, implBal hk hx, specBal hk hx⟩
  · refine ⟨(false, 1), ?_, ?_⟩
    · unfold impl_IsBalanced impl_always
      rw [((code_cases hk x).2 hx) true]
      rfl
    · unfold spec_IsBalanced
      rw [specIs_eq k (by omega), decide_eq_false hx]
      rfl

theorem circulant_pure (c : List UInt8) : laws_FnCirculant 6000 c = some true := by
  have hK : 5000 ≤ 6000 := by omega
  unfold laws_FnCirculant
  by_cases hb : laws_big c = true
  · rw [if_pos hb]
  rw [if_neg hb]
  have hc : c.length ≤ 4096 := by
    unfold laws_big at hb
    have : (c.length : Int) ≤ 4096 := by simpa using hb
    omega
  obtain ⟨x, d1, d2⟩ := drawCir_ok hK c hc
  obtain ⟨a, m, b, n, e, a1, a2, a3, a4, a5, a6, a7⟩ := ci1 hK x
  obtain ⟨a', b', e', b1, b2, b3, b4⟩ := ci2 hK x
  obtain ⟨z, t, d3⟩ := drawTurn_ok hK c hc
  have hturn : ∃ r, impl_TurnColouring 6000 z t = some r ∧ spec_TurnColouring 6000 z t = some r := by
    rcases turn_same hK z t with ⟨z, c, _, e1, e2⟩ | ⟨_, _, _, e1, e2⟩ <;> exact ⟨_, e1, e2⟩
  obtain ⟨r1, g1, g2⟩ := hturn
  obtain ⟨p, d4⟩ := drawSq_ok hK c hc
  obtain ⟨n', k', l', d5, hl'⟩ := drawCO_ok hK c hc
  obtain ⟨r2, g3, g4, _⟩ := circularOf_same hK n' k' l' hl'
  obtain ⟨n2, k2, l2, d6, hl2⟩ := drawDO_ok hK c hc
  obtain ⟨r3, g5, g6, _⟩ := digitalOf_same hK n2 k2 l2 hl2
  obtain ⟨r4, g7, g8⟩ := bal_same hK x
  have hsq : ∃ r, impl_BySquares 6000 p = some r ∧ spec_BySquares 6000 p = some r ∧ (r.2 = 0 → ∃ u v, impl_ExchangeColours 6000 r.1 [1, 0] = some (u, 0) ∧ impl_TurnColouring 6000 r.1 (if decide (p = 13) then 2 else (if decide (p = 5) then 2 else 3)) = some (v, 0) ∧ v = u) := by
    rcases sq_same hK p with ⟨e1, e2⟩ | ⟨hp, e1, e2⟩
    · exact ⟨_, e1, e2, fun q => by simp at q⟩
    · obtain ⟨q, rfl⟩ := nat_of (show 0 ≤ p by omega)
      rw [Int.toNat_natCast] at e1 e2
      have hq : q = 5 ∨ q = 13 ∨ q = 17 := by omega
      have hs := sq_turned hq (if q = 17 then 3 else 2) rfl
      have ht := turn_impl hK (sq_is (p := q) (by omega)) (t := if q = 17 then 3 else 2) hs.1
      have hp' : (sqC q).p.toNat = q := Int.toNat_natCast q
      rw [hp', hs.2] at ht
      refine ⟨_, e1, e2, fun _ => ⟨_, _, sq_exch hK (by omega), ?_, rfl⟩⟩
      rw [← ht]
      congr 1
      rcases hq with rfl | rfl | rfl <;> rfl
  obtain ⟨r5, h1, h2, h3⟩ := hsq
  simp only [d1, a1, a2, a3, a4, a5, a6, Option.bind_some, letO, decide_true, Bool.not_true, Bool.false_eq_true, if_false]
  refine bindIf (.inl ()) (fun h => ?_) rfl ?_
  · obtain ⟨t1, t2, t3, t4⟩ := a7 (by simpa using h)
    simp only [t1, t2, t3, t4, Option.bind_some, decide_true, Bool.not_true, eqb_refl', Bool.false_eq_true, if_false]
  simp only [d2, b1, b2, b3, Option.bind_some, letO, decide_true, Bool.not_true, Bool.false_eq_true, if_false]
  refine bindIf (.inl ()) (fun h => ?_) rfl ?_
  · obtain ⟨d, t1, t2, t3⟩ := b4 (by simpa using h)
    simp only [t1, t2, t3, Option.bind_some, decide_true, Bool.not_true, eqb_refl', Bool.false_eq_true, if_false]
  simp only [d3, d4, d5, d6, g1, g2, g3, g4, g5, g6, g7, g8, h1, h2, Option.bind_some, letO, decide_true, Bool.not_true, eqb_refl', Bool.false_eq_true, if_false, beq_self_eq_true]
  by_cases h0 : r5.2 = 0
  · obtain ⟨u, v, t1, t2, t3⟩ := h3 h0
    simp only [h0, t1, t2, t3, Option.bind_some, decide_true, if_true, eqb_refl']
  · simp only [h0, decide_false, Bool.false_eq_true, if_false]
end Go.Proofs.YtkknnbmmcmhngaaGreat
