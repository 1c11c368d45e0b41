/- The plain law of FnParts. (The first lemmas are those of the own text PureComp.) No conditions beyond those that each lemma states. -/
import Derived.Test.YtfpcopidcagdaaaPureSides17
import Derived.Test.YtfpcopidcagdaaaPureDraw17
set_option linter.unusedVariables false
set_option linter.unusedSimpArgs false
namespace Go.Proofs.Ytfpcopidcagdaaa
open Go Go.RowKit Ab

theorem pick_same {n m : Nat} {P Q : Nat → Bool} (h : ∀ v, (v < n ∧ P v = true) ↔ (v < m ∧ Q v = true)) : pick n P = pick m Q :=
  pw_ext _ _ (pick_pw n P) (pick_pw m Q) fun z => by
    rw [pick_mem, pick_mem]
    constructor
    · rintro ⟨v, e, h1, h2⟩; exact ⟨v, e, (h v).1 ⟨h1, h2⟩⟩
    · rintro ⟨v, e, h1, h2⟩; exact ⟨v, e, (h v).2 ⟨h1, h2⟩⟩

theorem points_eq (T : Nat) (hT : T < 2 ^ 63) (k : Nat) (hk : 70 ≤ k) : spec_l01Points k T = some (pick 62 fun v => T.testBit v) := by
  unfold spec_l01Points
  have := loopI (f := fun k' i (s : List Int) => spec_l01Points_l0 T k' i s) 62 0 (fun i s => i ≤ 62 ∧ s = pick i.toNat fun v => T.testBit v) (fun r => r = pick 62 fun v => T.testBit v) ?_ ?_ k 0 [] (by omega) (by omega) ⟨by omega, rfl⟩
  · obtain ⟨r, e, rfl⟩ := this
    rw [e]; rfl
  · intro k' i s h0 h1 ⟨_, q⟩
    left
    obtain ⟨m, rfl⟩ := nat_of h0
    refine ⟨_, ?_, by omega, rfl⟩
    show spec_l01Points_l0 T (k' + 1) m s = _
    have e0 : ((m : Int) + 1).toNat = m + 1 := by omega
    have hl := pick_length m fun v => T.testBit v
    rw [spec_l01Points_l0, w64_succ h0 h1 (by omega), e0, u64_id (by omega), pick_succ, q, bit_eq hT (by omega)]
    simp only [Int.toNat_natCast] at *
    have hl' : (pick m fun v => T.testBit v).length + 1 ≤ 1099511627776 := by omega
    by_cases hb : T.testBit m
    · simp [h1, hb, hl']
    · simp [h1, hb]
  · intro k' i s h0 h1 ⟨q1, q2⟩
    have : i = 62 := by omega
    subst this
    refine ⟨s, ?_, q2⟩
    show spec_l01Points_l0 T (k' + 1) 62 s = _
    rw [spec_l01Points_l0]; simp

theorem comp_len (x : Col) (c : Int) (n : Nat) : (comp x c n).length ≤ x.p.toNat := by
  classical
  unfold comp
  exact pick_length _ _

theorem specComps_l0 (x : Col) (hx : 1 ≤ x.p ∧ x.p ≤ 17) (c : Int) (k : Nat) (hk : 80 ≤ k) : spec_ComponentsOf_l0 k x (rowsB x c x.p.toNat) k 0 0 [] = some (comps x c x.p.toNat) := by
  classical
  obtain ⟨n, hn⟩ := nat_of (show 0 ≤ x.p by omega)
  have := loopI (f := fun k' i (s : Int × List (List Int)) => spec_ComponentsOf_l0 k x (rowsB x c x.p.toNat) k' s.1 i s.2) (n : Int) 0
    (fun i s => i ≤ n ∧ (∃ S : Nat, s.1 = S ∧ S < 2 ^ n ∧ ∀ v, S.testBit v = true ↔ ∃ u, u < i.toNat ∧ Rch (adj x c) u v) ∧ s.2 = comps x c i.toNat) (fun r => r = comps x c n) ?_ ?_ k 0 (0, []) (by omega) (by omega)
    ⟨by omega, ⟨0, rfl, Nat.pow_pos (by omega), fun v => by simp⟩, rfl⟩
  · obtain ⟨r, e, rfl⟩ := this
    rw [hn]
    simp only [Int.toNat_natCast]
    rw [hn] at e
    exact e
  · rintro k' i ⟨d, out⟩ h0 h1 ⟨_, ⟨S, q1, q2, q3⟩, q4⟩
    simp only at q1 q4
    left
    obtain ⟨m, rfl⟩ := nat_of h0
    have hm : m < n := by omega
    simp only [Int.toNat_natCast] at q3 q4
    have e1 : ((m : Int) + 1).toNat = m + 1 := by omega
    have hcl := comps_len x c m
    have hS17 := lt17 q2 (by omega)
    have hS := lt63 hS17
    obtain ⟨T, eT, hT, hb⟩ := compS_eq x hx c m (by omega) k (by omega)
    have hTn : T < 2 ^ n := by rw [hn] at hT; exact hT
    have hT17 := lt17 hTn (by omega)
    by_cases hv : S.testBit m = true
    · obtain ⟨u, hu, hr⟩ := (q3 m).1 hv
      have hnl : ¬ least x c m := fun h => h u hu hr
      refine ⟨(d, out), ?_, by omega, ⟨S, q1, q2, fun v => ?_⟩, ?_⟩
      · show spec_ComponentsOf_l0 k x _ (k' + 1) d m out = _
        rw [spec_ComponentsOf_l0, w64_succ h0 h1 (by omega), u64_id (by omega), q1, bit_eq hS (by omega)]
        simp [hn, h1, hv]
      · rw [q3 v, e1]
        constructor
        · rintro ⟨u', hu', hr'⟩; exact ⟨u', by omega, hr'⟩
        · rintro ⟨u', hu', hr'⟩
          by_cases e : u' = m
          · subst e; exact ⟨u, hu, hr.trans hr'⟩
          · exact ⟨u', by omega, hr'⟩
      · rw [e1, comps_succ, if_neg hnl, List.append_nil]; exact q4
    · have hl : least x c m := fun u hu hr => hv ((q3 m).2 ⟨u, hu, hr⟩)
      have hpts : pick 62 (fun v => T.testBit v) = comp x c m := by
        unfold comp
        refine pick_same fun v => ?_
        rw [hb v]
        constructor
        · rintro ⟨_, h⟩
          exact ⟨by have := Rch.lt (s := m) (by omega) h; omega, by simpa using h⟩
        · rintro ⟨h, h'⟩
          exact ⟨by omega, by simpa using h'⟩
      refine ⟨((S ||| T : Nat), out ++ [comp x c m]), ?_, by omega, ⟨S ||| T, rfl, Nat.or_lt_two_pow q2 hTn, fun v => ?_⟩, ?_⟩
      · show spec_ComponentsOf_l0 k x _ (k' + 1) d m out = _
        have hv' : S.testBit m = false := by simpa using hv
        have hlen : out.length + 1 ≤ 1099511627776 := by rw [q4]; omega
        have e' : spec_l04Component k (rowsB x c (n : Int).toNat) (m : Int) = some (T : Int) := by rw [← hn]; exact eT
        simp only [Int.toNat_natCast] at e'
        rw [spec_ComponentsOf_l0, w64_succ h0 h1 (by omega), u64_id (by omega), q1, bit_eq hS (by omega)]
        simp only [hn, Int.toNat_natCast, e', hv', Option.bind_some, points_eq T (lt63 hT17) k (by omega), hpts, bOr_nat hS (lt63 hT17), h1, decide_true, if_true, h0, List.length_cons, List.length_nil, Nat.zero_add, hlen]
        simp
      · rw [Nat.testBit_or, Bool.or_eq_true, q3 v, hb v, e1]
        constructor
        · rintro (⟨u, hu, hr⟩ | hr)
          · exact ⟨u, by omega, hr⟩
          · exact ⟨m, by omega, hr⟩
        · rintro ⟨u, hu, hr⟩
          by_cases e : u = m
          · subst e; exact .inr hr
          · exact .inl ⟨u, by omega, hr⟩
      · simp only
        rw [e1, comps_succ, if_pos hl, q4]
  · rintro k' i ⟨d, out⟩ h0 h1 ⟨q1, _, q4⟩
    have : i = n := by omega
    subst this
    refine ⟨out, ?_, by simpa using q4⟩
    show spec_ComponentsOf_l0 k x _ (k' + 1) d n out = _
    rw [spec_ComponentsOf_l0, hn]; simp

theorem comps_row (x : Col) (c : Int) (n : Nat) : ∀ l ∈ comps x c n, l.length ≤ x.p.toNat := by
  classical
  intro l hl
  unfold comps at hl
  obtain ⟨v, _, rfl⟩ := List.mem_map.1 hl
  exact comp_len x c v


/-! ### Draws -/
theorem draw4_ok {k : Nat} (hk : 5000 ≤ k) (s : Src) (h : okS s) : ∃ x v s', spec_l04Draw k s = some (x, v, s') ∧ okS s' := by
  unfold spec_l04Draw
  obtain ⟨a, s1, e1, hs1, ha, _⟩ := next_ok s 9 h
  have ha' := ha (by omega)
  obtain ⟨b, s2, e2, hs2, _⟩ := pick_ok s1 [1, 2, 2, 2, 3, 4] hs1 (by simp)
  obtain ⟨x, s3, e3, hs3, _⟩ := drawOf_ok hk s2 (w64 (1 + a)) b hs2 (by rw [w64_id (by omega)]; omega)
  obtain ⟨c, s4, e4, hs4, _⟩ := next_ok s3 3 hs3
  rw [e1]
  simp only [Option.bind_some, e2, e3, e4]
  by_cases h0 : c = 0
  · obtain ⟨y, s5, e5, hs5⟩ := spoil_ok hk s4 hs4
    obtain ⟨v, s6, e6, hs6⟩ := near_ok s5 (if 3 < (if w64 (y.k - 1) < 0 then 0 else w64 (y.k - 1)) then 3 else (if w64 (y.k - 1) < 0 then 0 else w64 (y.k - 1))) hs5
    exact ⟨y, v, s6, by simp only [h0, decide_true, if_true, e5, Option.bind_some, e6], hs6⟩
  · obtain ⟨v, s6, e6, hs6⟩ := near_ok s4 (if 3 < (if w64 (x.k - 1) < 0 then 0 else w64 (x.k - 1)) then 3 else (if w64 (x.k - 1) < 0 then 0 else w64 (x.k - 1))) hs4
    exact ⟨x, v, s6, by simp only [h0, decide_false, Bool.false_eq_true, if_false, Option.bind_some, e6], hs6⟩

theorem drawComp_ok {k : Nat} (hk : 5000 ≤ k) (c : List UInt8) (hc : c.length ≤ 4096) : ∃ x v, spec_DrawComponentsOf k c = some (x, v) := by
  unfold spec_DrawComponentsOf
  obtain ⟨s, e, hs⟩ := from_ok hk c hc
  obtain ⟨v, s1, e1, hs1, _⟩ := next_ok s 2 hs
  rw [e]
  simp only [Option.bind_some, e1]
  by_cases h0 : v = 0
  · obtain ⟨a, s2, e2, hs2, ha, _⟩ := next_ok s1 8 hs1
    have ha' := ha (by omega)
    obtain ⟨x, s3, e3, hs3, _⟩ := drawOf_ok hk s2 (w64 (1 + a)) 4 hs2 (by rw [w64_id (by omega)]; omega)
    obtain ⟨b, s4, e4, hs4, _⟩ := next_ok s3 4 hs3
    exact ⟨x, b, by simp only [h0, decide_true, if_true, e2, e3, e4, Option.bind_some]⟩
  · obtain ⟨x, b, s2, e2, hs2⟩ := draw4_ok hk s1 hs1
    exact ⟨x, b, by simp only [h0, decide_false, Bool.false_eq_true, if_false, e2, Option.bind_some]⟩

theorem drawConn_ok {k : Nat} (hk : 5000 ≤ k) (c : List UInt8) (hc : c.length ≤ 4096) : ∃ z, spec_DrawConnectedColours k c = some z := by
  unfold spec_DrawConnectedColours spec_l04With
  obtain ⟨s, e, hs⟩ := from_ok hk c hc
  obtain ⟨x, v, s1, e1, hs1⟩ := draw4_ok hk s hs
  exact ⟨x, by rw [e]; simp only [Option.bind_some, e1]⟩

/-! ### What the calls answer -/
theorem rows9_refl (k : Nat) (T : List (List Int)) (hk : T.length + 1 ≤ k) (hl : (T.length : Int) ≤ 1099511627776) (hr : ∀ l ∈ T, l.length + 1 ≤ k ∧ (l.length : Int) ≤ 1099511627776) : laws_rows9 k T T = some true := by
  unfold laws_rows9
  have := loopAll (f := fun k' i => laws_rows9_l0 k T T k' i) (T.length : Int) false (fun _ => True) 0
    (fun k' i h0 h1 _ => by
      show laws_rows9_l0 k T T (k' + 1) i = _
      have hlt : i.toNat < T.length := by omega
      have hm : T.getD i.toNat [] ∈ T := by
        have e : T.getD i.toNat [] = T[i.toNat] := by simp [List.getD, hlt]
        rw [e]; exact List.getElem_mem hlt
      rw [laws_rows9_l0, w64_succ h0 h1 (by omega), like_refl k _ (hr _ hm).1 (hr _ hm).2]
      simp [h0, h1])
    (fun k' i h0 h1 hq => (hq trivial).elim)
    (fun k' i h1 => by
      show laws_rows9_l0 k T T (k' + 1) i = _
      rw [laws_rows9_l0]
      have : ¬ i < (T.length : Int) := by omega
      simp [this]) k 0 (by omega) (by omega)
  rw [this]; simp

theorem given_cases {k : Nat} (hk : 5000 ≤ k) (x : Col) (c : Int) : (x.is ∧ (0 ≤ c ∧ c ≤ x.k - 1) ∧ spec_l01Given k x c [] = some 0 ∧ impl_Colouring_colourCode k x c true = some 0) ∨
    ∃ e : Int, e ≠ 0 ∧ spec_l01Given k x c [] = some e ∧ impl_Colouring_colourCode k x c true = some e := by
  classical
  have hin : inP x [] := fun i h0 h1 => by simp at h1; omega
  rw [specGiven_eq k x c [] (by simp; omega) (by simp), colourCode_eq k x c (by omega)]
  by_cases h1 : x.is
  · by_cases h2 : 0 ≤ c ∧ c ≤ x.k - 1
    · exact .inl ⟨h1, h2, by simp [h1, h2, hin], by simp [h1, h2]⟩
    · exact .inr ⟨2, by decide, by simp [h1, h2], by simp [h1, h2]⟩
  · exact .inr ⟨1, by decide, by simp [h1], by simp [h1]⟩

theorem comps_val {k : Nat} (hk : 5000 ≤ k) (x : Col) (c : Int) : (x.is ∧ (0 ≤ c ∧ c ≤ x.k - 1) ∧ impl_ComponentsOf k x c = some (some (comps x c x.p.toNat), 0) ∧ spec_ComponentsOf k x c = some (comps x c x.p.toNat, 0)) ∨
    ∃ e : Int, e ≠ 0 ∧ impl_ComponentsOf k x c = some (none, e) ∧ spec_ComponentsOf k x c = some ([], e) := by
  rcases given_cases hk x c with ⟨hx, hc, g1, g2⟩ | ⟨e, he, g1, g2⟩
  · have hp := hx.1
    obtain ⟨far, hw, _⟩ := walk_eq x hp c k (by omega)
    refine .inl ⟨hx, hc, ?_, ?_⟩
    · unfold impl_ComponentsOf
      rw [g2]
      simp only [Option.bind_some, decide_true, Bool.not_true, Bool.false_eq_true, if_false, hw]
    · unfold spec_ComponentsOf
      rw [g1]
      simp only [Option.bind_some, decide_true, Bool.not_true, Bool.false_eq_true, if_false]
      rw [rows_eq k x hp (by omega) c, Option.bind_some, specComps_l0 x hp c k (by omega)]
      rfl
  · refine .inr ⟨e, he, ?_, ?_⟩
    · unfold impl_ComponentsOf; rw [g2]; simp [he]
    · unfold spec_ComponentsOf; rw [g1]; simp [he]

theorem sides_val {k : Nat} (hk : 5000 ≤ k) (x : Col) (c : Int) : ∃ (o : Option (List Int)) (e : Int), impl_SidesOf k x c = some (o, e) ∧ spec_SidesOf k x c = some (o.getD [], e) ∧ (o.getD []).length ≤ 17 ∧
    ((o = none ∧ e ≠ 0) ∨ (e = 0 ∧ x.is ∧ ∃ out, o = some out ∧ (out.length : Int) = x.p ∧ ∀ a b : Nat, adj x c a b → out.getD a 0 ≠ out.getD b 0)) := by
  rcases given_cases hk x c with ⟨hx, hc, g1, g2⟩ | ⟨e, he, g1, g2⟩
  · have hp := hx.1
    obtain ⟨o, e, h1, h2, h3, h4⟩ := sides_same x hx c k (by omega)
    refine ⟨o, e, ?_, ?_, h3, h4.imp id fun ⟨a, b⟩ => ⟨a, hx, b⟩⟩
    · unfold impl_SidesOf
      rw [g2]
      simp only [Option.bind_some, decide_true, Bool.not_true, Bool.false_eq_true, if_false]
      exact h2
    · unfold spec_SidesOf
      rw [g1]
      simp only [Option.bind_some, decide_true, Bool.not_true, Bool.false_eq_true, if_false]
      rw [rows_eq k x hp (by omega) c]
      simp only [Option.bind_some]
      rw [if_pos ⟨by omega, by omega, by omega⟩, fill_eq x.p.toNat (by omega) k (by omega)]
      exact h1
  · refine ⟨none, e, ?_, ?_, by simp, .inl ⟨rfl, he⟩⟩
    · unfold impl_SidesOf; rw [g2]; simp [he]
    · unfold spec_SidesOf; rw [g1]; simp [he]

open Classical in
theorem conn_val {k : Nat} (hk : 5000 ≤ k) (x : Col) : (x.is ∧ impl_ConnectedColours k x = some (some (pick x.k.toNat fun c => decide (conn x c)), 0) ∧ spec_ConnectedColours k x = some (pick x.k.toNat fun c => decide (conn x c), 0)) ∨
    ∃ e : Int, e ≠ 0 ∧ impl_ConnectedColours k x = some (none, e) ∧ spec_ConnectedColours k x = some ([], e) := by
  unfold spec_ConnectedColours impl_ConnectedColours impl_Colouring_code impl_always
  rw [specIs_eq k (by omega), isColouring_eq k (by omega)]
  by_cases h : x.is
  · rw [specConn_l0 x h k (by omega), implConn_l0 x h k (by omega)]
    exact .inl ⟨h, by simp [h], by simp [h]⟩
  · exact .inr ⟨1, by decide, by simp [h], by simp [h]⟩

open Classical in
theorem has_val (k : Nat) (l : List Int) (v : Int) (hk : l.length + 1 ≤ k) (hl : (l.length : Int) ≤ 1099511627776) : laws_hasInt k l v = some (decide (v ∈ l)) := by
  unfold laws_hasInt
  have := loopI (f := fun k' i (_ : Unit) => laws_hasInt_l0 l v k' i) (l.length : Int) 0 (fun i _ => ∀ a : Nat, (a : Int) < i → l.getD a 0 ≠ v) (fun r => (v ∈ l ∧ r = .inr true) ∨ (v ∉ l ∧ r = .inl ())) ?_ ?_ k 0 () (by omega) (by omega) (fun a h => by omega)
  · obtain ⟨r, e, h⟩ := this
    rw [e]
    rcases h with ⟨h, rfl⟩ | ⟨h, rfl⟩
    · simp [h]
    · simp [h]
  · intro k' i _ h0 h1 q
    obtain ⟨m, rfl⟩ := nat_of h0
    have hm : m < l.length := by omega
    by_cases hc : l.getD m 0 = v
    · right
      refine ⟨.inr true, ?_, .inl ⟨?_, rfl⟩⟩
      · show laws_hasInt_l0 l v (k' + 1) m = _
        rw [laws_hasInt_l0]
        simp only [h1, h0, decide_true, if_true, and_self, Int.toNat_natCast, hc]
      · rw [← hc]
        have e : l.getD m 0 = l[m] := by simp [List.getD, hm]
        rw [e]; exact List.getElem_mem hm
    · left
      refine ⟨(), ?_, fun a ha => ?_⟩
      · show laws_hasInt_l0 l v (k' + 1) m = _
        rw [laws_hasInt_l0, w64_succ h0 h1 (by omega)]
        simp only [h1, h0, decide_true, if_true, and_self, Int.toNat_natCast, hc, decide_false, Bool.false_eq_true, if_false]
      · by_cases e : a = m
        · subst e; exact hc
        · exact q a (by omega)
  · intro k' i _ h0 h1 q
    refine ⟨.inl (), ?_, .inr ⟨fun hv => ?_, rfl⟩⟩
    · show laws_hasInt_l0 l v (k' + 1) i = _
      rw [laws_hasInt_l0]
      have : ¬ i < (l.length : Int) := by omega
      simp [this]
    · obtain ⟨a, ha, e⟩ := List.getElem_of_mem hv
      exact q a (by omega) (by simpa [List.getD, ha] using e)

/-! ### The components part the points -/
def cnt (P : Nat → Bool) (n : Nat) : Nat := ((List.range n).filter P).length
theorem cnt_succ (P : Nat → Bool) (n : Nat) : cnt P (n + 1) = cnt P n + (if P n then 1 else 0) := by
  unfold cnt
  rw [List.range_succ, List.filter_append, List.length_append]
  by_cases h : P n <;> simp [h]
theorem cnt_or (P Q R : Nat → Bool) : ∀ n : Nat, (∀ v, v < n → R v = (P v || Q v)) → (∀ v, v < n → ¬ (P v = true ∧ Q v = true)) → cnt R n = cnt P n + cnt Q n := by
  intro n
  induction n with
  | zero => intro _ _; rfl
  | succ n ih =>
    intro h1 h2
    rw [cnt_succ, cnt_succ, cnt_succ, ih (fun v hv => h1 v (by omega)) (fun v hv => h2 v (by omega)), h1 n (by omega)]
    have := h2 n (by omega)
    cases hp : P n <;> cases hq : Q n
    · simp
    · simp; omega
    · simp; omega
    · exact (this ⟨hp, hq⟩).elim
theorem cnt_same (P Q : Nat → Bool) : ∀ n : Nat, (∀ v, v < n → P v = Q v) → cnt P n = cnt Q n := by
  intro n
  induction n with
  | zero => intro _; rfl
  | succ n ih => intro h; rw [cnt_succ, cnt_succ, ih fun v hv => h v (by omega), h n (by omega)]
theorem cnt_all (P : Nat → Bool) : ∀ n : Nat, (∀ v, v < n → P v = true) → cnt P n = n := by
  intro n
  induction n with
  | zero => intro _; rfl
  | succ n ih => intro h; rw [cnt_succ, ih fun v hv => h v (by omega), h n (by omega)]; simp

def tot (T : List (List Int)) : Nat := (T.map List.length).sum
theorem tot_app (a b : List (List Int)) : tot (a ++ b) = tot a + tot b := by simp [tot]
theorem tot_le (B : Nat) (T : List (List Int)) (h : ∀ l ∈ T, l.length ≤ B) : tot T ≤ T.length * B := by
  induction T with
  | nil => simp [tot]
  | cons a t ih =>
    have h1 := h a (by simp)
    have h2 := ih fun l hl => h l (by simp [hl])
    have : tot (a :: t) = a.length + tot t := by simp [tot]
    rw [this, List.length_cons, Nat.add_mul]
    omega

open Classical in
theorem comps_tot (x : Col) (c : Int) : ∀ m : Nat, m ≤ x.p.toNat → tot (comps x c m) = cnt (fun v => decide (∃ u, u < m ∧ Rch (adj x c) u v)) x.p.toNat := by
  intro m
  induction m with
  | zero =>
    intro _
    have hz : ∀ n, cnt (fun _ => false) n = 0 := fun n => by unfold cnt; simp
    refine Eq.trans ?_ (cnt_same _ (fun _ => false) _ (fun v _ => by simp)).symm
    rw [hz]
    simp [comps, tot]
  | succ m ih =>
    intro hm
    rw [comps_succ, tot_app, ih (by omega)]
    by_cases hl : least x c m
    · rw [if_pos hl]
      have e1 : tot [comp x c m] = cnt (fun v => decide (Rch (adj x c) m v)) x.p.toNat := by
        unfold tot comp pick cnt
        simp
      rw [e1]
      refine (cnt_or _ _ _ _ (fun v _ => ?_) (fun v _ => ?_)).symm
      · rw [Bool.eq_iff_iff]
        simp only [decide_eq_true_eq, Bool.or_eq_true]
        constructor
        · rintro ⟨u, hu, hr⟩
          by_cases e : u = m
          · subst e; exact .inr hr
          · exact .inl ⟨u, by omega, hr⟩
        · rintro (⟨u, hu, hr⟩ | hr)
          · exact ⟨u, by omega, hr⟩
          · exact ⟨m, by omega, hr⟩
      · simp only [decide_eq_true_eq]
        rintro ⟨⟨u, hu, hr⟩, hr'⟩
        exact hl u hu (hr.trans (Rch.symm (fun h => adj_symm h) hr'))
    · rw [if_neg hl]
      have : ∃ u, u < m ∧ Rch (adj x c) u m := by
        apply Classical.byContradiction
        intro hno
        exact hl fun u hu hr => hno ⟨u, hu, hr⟩
      obtain ⟨u0, hu0, hr0⟩ := this
      have e0 : tot [] = 0 := rfl
      rw [e0, Nat.add_zero]
      refine cnt_same _ _ _ fun v _ => ?_
      rw [Bool.eq_iff_iff]
      simp only [decide_eq_true_eq]
      constructor
      · rintro ⟨u, hu, hr⟩; exact ⟨u, by omega, hr⟩
      · rintro ⟨u, hu, hr⟩
        by_cases e : u = m
        · subst e; exact ⟨u0, hu0, hr0.trans hr⟩
        · exact ⟨u, by omega, hr⟩

theorem comps_all (x : Col) (c : Int) : tot (comps x c x.p.toNat) = x.p.toNat := by
  classical
  rw [comps_tot x c _ (Nat.le_refl _)]
  exact cnt_all _ _ fun v hv => decide_eq_true ⟨v, hv, .refl⟩

theorem l2_val (T : List (List Int)) (e : Int) (k : Nat) (hk : T.length + 1 ≤ k) (hl : T.length ≤ 17) (hr : ∀ l ∈ T, l.length ≤ 17) : laws_FnParts_l2 (some T, e) k 0 0 = some (tot T : Int) := by
  have := loopI (f := fun k' i (s : Int) => laws_FnParts_l2 (some T, e) k' s i) (T.length : Int) 0 (fun i s => i ≤ T.length ∧ s = (tot (T.take i.toNat) : Nat)) (fun s => s = (tot T : Nat)) ?_ ?_ k 0 0 (by omega) (by omega) ⟨by omega, by simp [tot]⟩
  · obtain ⟨s, e, rfl⟩ := this
    exact e
  · intro k' i s h0 h1 ⟨_, q⟩
    left
    obtain ⟨j, rfl⟩ := nat_of h0
    have hlt : j < T.length := by omega
    have e1 : ((j : Int) + 1).toNat = j + 1 := by omega
    have ht : T.take (j + 1) = T.take j ++ [T[j]] := by rw [List.take_add_one]; simp [hlt]
    have hb := tot_le 17 (T.take j) fun l hl => hr l (List.mem_of_mem_take hl)
    have hb2 : (T.take j).length * 17 ≤ 17 * 17 := Nat.mul_le_mul_right _ (by simp; omega)
    have hj := hr T[j] (List.getElem_mem hlt)
    have hg : T.getD j [] = T[j] := by simp [List.getD, hlt]
    simp only [Int.toNat_natCast] at q
    refine ⟨(tot (T.take (j + 1)) : Nat), ?_, by omega, by rw [e1]⟩
    show laws_FnParts_l2 (some T, e) (k' + 1) s j = _
    have e2 : tot (T.take (j + 1)) = tot (T.take j) + T[j].length := by rw [ht, tot_app]; simp [tot]
    rw [laws_FnParts_l2, w64_succ h0 h1 (by omega)]
    simp only [Option.getD_some, h1, h0, decide_true, if_true, and_self, Int.toNat_natCast, hg]
    rw [w64_id (by omega), q, e2]
    congr 1
  · intro k' i s h0 h1 ⟨q0, q⟩
    have hi : i = T.length := by omega
    subst hi
    refine ⟨s, ?_, by rw [q]; simp⟩
    show laws_FnParts_l2 (some T, e) (k' + 1) s T.length = _
    rw [laws_FnParts_l2]
    simp

/-! ### One of two colours is connected -/
theorem one_conn (x : Col) (hx : x.is) (hk : x.k ≤ 2) : ∃ c : Nat, (c : Int) < x.k ∧ conn x c := by
  have hp := hx.1
  have hkk := hx.2.1
  -- no colour but 0 and 1
  have two : ∀ a b : Nat, (a : Int) < x.p → (b : Int) < x.p → a ≠ b → x.cc a b = 0 ∨ (x.k = 2 ∧ x.cc a b = 1) := by
    intro a b ha hb hab
    have key : ∀ n : Nat, n ≤ 17 → 1 ≤ n → w64 ((w64 ((n : Int) * (w64 ((n : Int) - 1)))).tdiv 2) = (tri n : Nat) := by decide +kernel
    obtain ⟨n, hn⟩ := nat_of (show 0 ≤ x.p by omega)
    have hE : tE x = (tri n : Nat) := by
      unfold tE
      rw [hn]
      exact key n (by omega) (by omega)
    have hlt : eN a b < tri n := by
      rcases Nat.lt_or_gt_of_ne hab with h | h
      · exact eN_lt h (by omega) (by omega)
      · rw [eN_comm]; exact eN_lt h (by omega) (by omega)
    have h136 := eN_136 (i := a) (j := b) hab (by omega) (by omega)
    have hok := (hx.2.2 (eN a b : Nat) (by omega) (by omega)).1 (by rw [hE]; omega)
    have e : x.cc a b = ((x.get (eN a b)).toNat : Int) := by unfold Col.cc Col.get; simp
    simp only [Int.toNat_natCast] at hok
    omega
  by_cases h0 : conn x 0
  · exact ⟨0, by omega, h0⟩
  · have : ∃ v : Nat, (v : Int) < x.p ∧ ¬ Rch (adj x 0) 0 v := by
      apply Classical.byContradiction
      intro hno
      refine h0 fun v hv => ?_
      apply Classical.byContradiction
      intro hr
      exact hno ⟨v, hv, hr⟩
    obtain ⟨w, hw, hnw⟩ := this
    have cross : ∀ a b : Nat, (a : Int) < x.p → (b : Int) < x.p → Rch (adj x 0) 0 a → ¬ Rch (adj x 0) 0 b → x.k = 2 ∧ adj x 1 a b := by
      intro a b ha hb hra hrb
      have hab : a ≠ b := fun e => by subst e; exact hrb hra
      rcases two a b ha hb hab with h | ⟨h2, h⟩
      · exact (hrb (.step hra ⟨ha, hb, hab, h⟩)).elim
      · exact ⟨h2, ha, hb, hab, h⟩
    have z0 : ((0 : Nat) : Int) < x.p := by omega
    obtain ⟨hk2, hadj⟩ := cross 0 w z0 hw .refl hnw
    refine ⟨1, by omega, fun v hv => ?_⟩
    by_cases hr : Rch (adj x 0) 0 v
    · -- by way of w
      have h1 := (cross v w hv hw hr hnw).2
      exact .step (.step .refl hadj) (adj_symm h1)
    · exact .step .refl (cross 0 v z0 hv .refl hr).2

theorem sides_loop {k : Nat} (hk : 5000 ≤ k) (x : Col) (hx : x.is) (c : Int) (out : List Int) (hl : (out.length : Int) = x.p) (h : ∀ a b : Nat, adj x c a b → out.getD a 0 ≠ out.getD b 0) (e : Int) : laws_FnParts_l0 k (x, c) (some out, e) k 0 = some (.inl ()) := by
  have hp := hx.1
  have := loopI (f := fun k' i (_ : Unit) => laws_FnParts_l0 k (x, c) (some out, e) k' i) x.p 0 (fun _ _ => True) (fun r => r = .inl ()) ?_ ?_ k 0 () (by omega) (by omega) trivial
  · obtain ⟨r, e, rfl⟩ := this
    exact e
  · intro k' i _ h0 h1 _
    left
    have := loopI (f := fun k' j (_ : Unit) => laws_FnParts_l1 k (x, c) (some out, e) i k' j) i 0 (fun _ _ => True) (fun r => r = .inl ()) ?_ ?_ k 0 () (by omega) (by omega) trivial
    · obtain ⟨r, e1, rfl⟩ := this
      refine ⟨(), ?_, trivial⟩
      show laws_FnParts_l0 k (x, c) (some out, e) (k' + 1) i = _
      rw [laws_FnParts_l0, w64_succ h0 h1 (by omega), e1]
      simp [h1]
    · intro k'' j _ g0 g1 _
      left
      refine ⟨(), ?_, trivial⟩
      show laws_FnParts_l1 k (x, c) (some out, e) i (k'' + 1) j = _
      obtain ⟨a, rfl⟩ := nat_of h0
      obtain ⟨b, rfl⟩ := nat_of g0
      have ec := colourOf_val hk x hx b a (by omega) (by omega) (by omega)
      have a1 : (a : Int) < (out.length : Int) := by omega
      have b1 : (b : Int) < (out.length : Int) := by omega
      rw [laws_FnParts_l1, w64_succ g0 g1 (by omega), ec]
      by_cases hc : x.cc b a = c
      · have hne := h a b ⟨by omega, by omega, by omega, by rw [cc_comm]; exact hc⟩
        simp only [g1, decide_true, if_true, Option.bind_some, Bool.not_true, Bool.false_eq_true, if_false, hc, Option.getD_some, a1, b1, h0, g0, and_self, Int.toNat_natCast, hne, decide_false]
      · simp only [g1, decide_true, if_true, Option.bind_some, Bool.not_true, Bool.false_eq_true, if_false, hc, decide_false]
    · intro k'' j _ g0 g1 _
      refine ⟨_, ?_, rfl⟩
      show laws_FnParts_l1 k (x, c) (some out, e) i (k'' + 1) j = _
      rw [laws_FnParts_l1]
      have : ¬ j < i := by omega
      simp [this]
  · intro k' i _ h0 h1 _
    refine ⟨_, ?_, rfl⟩
    show laws_FnParts_l0 k (x, c) (some out, e) (k' + 1) i = _
    rw [laws_FnParts_l0]
    have : ¬ i < x.p := by omega
    simp [this]

theorem parts_law {k : Nat} (hk : 5000 ≤ k) (code : List UInt8) : laws_FnParts k code = some true := by
  classical
  unfold laws_FnParts laws_big
  by_cases hb : 4096 < (code.length : Int)
  · simp [hb]
  have hc : code.length ≤ 4096 := by omega
  obtain ⟨x, c, ed⟩ := drawComp_ok hk code hc
  obtain ⟨z, ez⟩ := drawConn_ok hk code hc
  have ed2 : spec_DrawSidesOf k code = some (x, c) := by unfold spec_DrawSidesOf; rw [ed]; rfl
  obtain ⟨o, f, s1, s2, s3, s4⟩ := sides_val hk x c
  have lk1 := like_refl k (o.getD []) (by omega) (by omega)
  have hconn : ∃ (q : Option (List Int)) (g : Int), impl_ConnectedColours k z = some (q, g) ∧ spec_ConnectedColours k z = some (q.getD [], g) ∧ (q.getD []).length ≤ 17 ∧ (g ≠ 0 ∨ (g = 0 ∧ (z.k ≤ 2 → (q.getD []).length ≠ 0))) := by
    rcases conn_val hk z with ⟨hz, h1, h2⟩ | ⟨e, he, h1, h2⟩
    · have hl := pick_length z.k.toNat fun c => decide (conn z c)
      have := hz.2.1
      refine ⟨_, 0, h1, h2, by simp; omega, .inr ⟨rfl, fun hk2 => ?_⟩⟩
      obtain ⟨a, ha, hca⟩ := one_conn z hz hk2
      have hm : (a : Int) ∈ pick z.k.toNat fun c => decide (conn z c) := pick_mem.2 ⟨a, rfl, by omega, by simpa using hca⟩
      simp only [Option.getD_some]
      intro h
      rw [List.eq_nil_of_length_eq_zero h] at hm
      cases hm
    · exact ⟨none, e, h1, h2, by simp, .inl he⟩
  obtain ⟨q, g, c1, c2, c3, c4⟩ := hconn
  have lk2 := like_refl k (q.getD []) (by omega) (by omega)
  have st1 : (if decide (g = 0) = true then if decide (z.k ≤ 2) = true then decide (((q.getD []).length : Int) = 0) else false else false) = false := by
    rcases c4 with h | ⟨h, h'⟩
    · simp [h]
    · by_cases h2 : z.k ≤ 2
      · have : q.getD [] ≠ [] := fun e => h' h2 (by rw [e]; rfl)
        simp [h, h2, this]
      · simp [h, h2]
  have st2 : (if decide (f = 0) = true then laws_FnParts_l0 k (x, c) (o, f) k 0 else some (Sum.inl ())) = some (Sum.inl ()) := by
    rcases s4 with ⟨_, h⟩ | ⟨rfl, hx, out, rfl, hl, hall⟩
    · simp [h]
    · simp only [decide_true, if_true]
      exact sides_loop hk x hx c out hl hall 0
  rcases comps_val hk x c with ⟨hx, hcc, p1, p2⟩ | ⟨e, he, p1, p2⟩
  · have hp := hx.1
    have hl := comps_len x c x.p.toNat
    have hrow := comps_row x c x.p.toNat
    have hrow' : ∀ l ∈ comps x c x.p.toNat, l.length ≤ 17 := fun l hl => by have := hrow l hl; omega
    have rk := rows9_refl k (comps x c x.p.toNat) (by omega) (by omega) (fun l hl => ⟨by have := hrow' l hl; omega, by have := hrow' l hl; omega⟩)
    have t1 := l2_val (comps x c x.p.toNat) 0 k (by omega) (by omega) hrow'
    have t2 : ((tot (comps x c x.p.toNat) : Nat) : Int) = x.p := by rw [comps_all]; omega
    have hone := comps_one x hp.1 c
    rcases conn_val hk x with ⟨_, h1, h2⟩ | ⟨e, he, h1, h2⟩
    · have hpl := pick_length x.k.toNat fun c => decide (conn x c)
      have hkk := hx.2.1
      have t3 := has_val k (pick x.k.toNat fun c => decide (conn x c)) c (by omega) (by omega)
      have t4 : decide (c ∈ pick x.k.toNat fun c => decide (conn x c)) = decide (((comps x c x.p.toNat).length : Int) = 1) := by
        rw [Bool.eq_iff_iff]
        simp only [decide_eq_true_eq]
        rw [pick_mem]
        constructor
        · rintro ⟨v, rfl, hv, h⟩
          have := hone.2 (by simpa using h)
          omega
        · intro h
          obtain ⟨v, rfl⟩ := nat_of hcc.1
          exact ⟨v, rfl, by omega, by simpa using hone.1 (by omega)⟩
      rw [if_neg (by simpa using hb), ed]
      simp only [Option.bind_some, p1, p2, decide_true, Bool.not_true, Bool.false_eq_true, if_false, Option.getD_some, rk, ed2, s1, s2, lk1, ez, c1, c2, lk2, letO, st1, st2, h1, t1, t2, if_true, t3, t4, BEq.rfl]
    · exfalso
      classical
      unfold impl_ConnectedColours impl_Colouring_code impl_always at h1
      rw [isColouring_eq k (by omega), implConn_l0 x hx k (by omega)] at h1
      simp [hx] at h1
  · have rk := rows9_refl k [] (by simp; omega) (by simp) (fun l hl => by cases hl)
    rw [if_neg (by simpa using hb), ed]
    simp only [Option.bind_some, p1, p2, decide_true, Bool.not_true, Bool.false_eq_true, if_false, Option.getD_none, rk, ed2, s1, s2, lk1, ez, c1, c2, lk2, letO, st1, st2, he, decide_false, Bool.not_false, if_true]
    simp
end Go.Proofs.Ytfpcopidcagdaaa
