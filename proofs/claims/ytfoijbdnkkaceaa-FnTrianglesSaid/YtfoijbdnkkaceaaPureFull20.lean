/- Plain laws of FnTriangles, part two: full cliques. No conditions beyond those that each lemma states. -/
import Derived.Test.YtfoijbdnkkaceaaPureTri20
set_option linter.unusedVariables false
set_option linter.unusedSimpArgs false
namespace Go.Proofs.Ytfoijbdnkkaceaa
open Go Go.RowKit Ab

/-- No point goes with all of a clique. -/
def full (x : Col) (c : Int) (l : List Int) : Bool := (pts x).all fun q => !goesB x c l q
theorem goesB_in (x : Col) (c : Int) (l : List Int) (q : Int) (h : q ∈ l) : goesB x c l q = false := by
  unfold goesB
  rw [List.all_eq_false]
  exact ⟨q, h, by rw [aB_irr]; simp⟩
theorem mem_bits {l : List Int} {v : Int} : (∃ a, a < l.length ∧ l.getD a 0 = v) ↔ v ∈ l := by
  constructor
  · rintro ⟨a, h, rfl⟩; exact getD_mem h
  · intro h
    obtain ⟨a, ha, rfl⟩ := List.getElem_of_mem h
    exact ⟨a, ha, getD_el ha⟩
theorem acl_inR (x : Col) (hp : 1 ≤ x.p ∧ x.p ≤ 17) (c : Int) (l : List Int) (h : l ∈ acl x c) : inR l ∧ inc l := by
  have h1 := ((mem_ac (aB x c) (pts x) l).1 h).1
  refine ⟨fun z hz => ?_, pw_inc ((ir_pw 0 x.p.toNat).sublist h1)⟩
  have := h1.subset hz
  unfold pts at this
  rw [mem_ir] at this; omega

theorem implFull {k : Nat} (hk : 5000 ≤ k) (x : Col) (hp : 1 ≤ x.p ∧ x.p ≤ 17) (c : Int) (l : List Int) (h : l ∈ acl x c) : impl_FullCliques_c2 k l x c = some (full x c l) := by
  have hlen := mem_acl_len x hp c l h
  have hr := (acl_inR x hp c l h).1
  unfold impl_FullCliques_c2
  rw [that_val x hp (by omega) (fun a0 => impl_FullCliques_c2_c1 k a0 l x c) (fun q => goesB x c l q) fun a ha => by
    unfold impl_FullCliques_c2_c1
    rw [index_eq k l a (by omega) (by omega)]
    by_cases hm : (a : Int) ∈ l
    · have : (∃ i, i < l.length ∧ l.getD i 0 = (a : Int)) := mem_bits.2 hm
      rw [decide_eq_true this, goesB_in x c l a hm]
      simp
    · have : ¬ (∃ i, i < l.length ∧ l.getD i 0 = (a : Int)) := fun q => hm (mem_bits.1 q)
      rw [decide_eq_false this, goes_val k x c l a (by omega) (by omega) hr (by omega)]
      simp]
  simp only [Option.bind_some]
  congr 1
  unfold full
  rw [Bool.eq_iff_iff, decide_eq_true_iff, List.all_eq_true]
  show _ ↔ ∀ q ∈ pts x, _
  constructor
  · intro e q hq
    have e' : ((ir 0 x.p.toNat).filter fun q => goesB x c l q) = [] := List.eq_nil_of_length_eq_zero (by omega)
    rw [List.filter_eq_nil_iff] at e'
    have := e' q hq
    simpa using this
  · intro e
    have e' : ((ir 0 x.p.toNat).filter fun q => goesB x c l q) = [] := by
      rw [List.filter_eq_nil_iff]
      intro q hq
      have := e q hq
      simpa using this
    rw [e']; rfl

/-- The full cliques, in order. -/
def fulls (x : Col) (c : Int) : List (List Int) := (acl x c).filter (full x c)

/-! ### How the reference finds them -/
section
variable (x : Col) (hp : 1 ≤ x.p ∧ x.p ≤ 17) (c : Int)
include hp

omit hp in
theorem full_iff (l : List Int) (d : Nat) (hd : d < 2 ^ x.p.toNat) (h : ∀ q : Nat, q < x.p.toNat → d.testBit q = goesB x c l q) : full x c l = decide (d = 0) := by
  unfold full
  rw [Bool.eq_iff_iff, decide_eq_true_iff, List.all_eq_true]
  constructor
  · intro e
    apply Nat.eq_of_testBit_eq
    intro q
    rw [Nat.zero_testBit]
    by_cases hq : q < x.p.toNat
    · have := e q (by unfold pts; rw [mem_ir]; omega)
      rw [h q hq]; simpa using this
    · exact Nat.testBit_lt_two_pow (Nat.lt_of_lt_of_le hd (Nat.pow_le_pow_right (by omega) (by omega)))
  · rintro rfl q hq
    unfold pts at hq
    rw [mem_ir] at hq
    have := h q.toNat (by omega)
    rw [Nat.zero_testBit, show ((q.toNat : Nat) : Int) = q by omega] at this
    rw [← this]; rfl

theorem spec_full (most : Nat) (hmost : most ≤ 1000) : ∀ (N : Nat) (l : List Int) (f d : Nat) (out : List Int) (k : Nat), (mem f 0 x.p.toNat).length ≤ N → inR l → f < 2 ^ x.p.toNat → d < 2 ^ x.p.toNat → (∀ q : Nat, q < x.p.toNat → (f.testBit q || d.testBit q) = goesB x c l q) → out.length ≤ most → N + 200 ≤ k →
    spec_l02Full k (rws x c x.p.toNat) ((bitsOf l : Nat) : Int) (f : Int) (d : Int) out (most : Int) = some ((out ++ ((([] :: ac (aB x c) (mem f 0 x.p.toNat)).map (l ++ ·)).filter (full x c)).map fun z => ((bitsOf z : Nat) : Int)).take most) := by
  have base : ∀ (l : List Int) (d : Nat) (out : List Int) (k : Nat), inR l → d < 2 ^ x.p.toNat → (∀ q : Nat, q < x.p.toNat → d.testBit q = goesB x c l q) → out.length ≤ most → 1 ≤ k →
      spec_l02Full k (rws x c x.p.toNat) ((bitsOf l : Nat) : Int) 0 (d : Int) out (most : Int) = some ((out ++ (([l]).filter (full x c)).map fun z => ((bitsOf z : Nat) : Int)).take most) := by
    intro l d out k hr hd hg hout hk
    obtain ⟨k, rfl⟩ : ∃ q, k = q + 1 := ⟨k - 1, by omega⟩
    have hfull := full_iff x c l d hd hg
    rw [spec_l02Full, spec_l02Full_body]
    by_cases h0 : d = 0
    · subst h0
      have e : ([l]).filter (full x c) = [l] := by simp [hfull]
      rw [e]
      by_cases hl : (out.length : Int) < (most : Int)
      · have h2 : out.length + ([((bitsOf l : Nat) : Int)]).length ≤ 1099511627776 := by simp; omega
        simp only [decide_true, if_true, letO, Int.natCast_zero, hl, if_pos h2, Option.bind_some, List.map_cons, List.map_nil]
        rw [List.take_of_length_le (by simp; omega)]
      · simp only [decide_true, if_true, letO, Int.natCast_zero, hl, decide_false, Bool.false_eq_true, if_false, Option.bind_some, List.map_cons, List.map_nil]
        rw [List.take_append_of_le_length (by omega), List.take_of_length_le (by omega)]
    · have h0' : ¬ (d : Int) = 0 := by omega
      have e : ([l]).filter (full x c) = [] := by simp [hfull, h0]
      rw [e]
      simp only [decide_true, if_true, letO, h0', decide_false, Bool.false_eq_true, if_false, Option.bind_some, List.map_nil, List.append_nil]
      rw [List.take_of_length_le (by omega)]
  intro N
  induction N with
  | zero =>
    intro l f d out k hN hr hf hd hg hout hk
    have hm : mem f 0 x.p.toNat = [] := List.eq_nil_of_length_eq_zero (by omega)
    have h0 : f = 0 := by
      apply Nat.eq_of_testBit_eq
      intro q
      rw [Nat.zero_testBit]
      by_cases hq : q < x.p.toNat
      · cases hb : f.testBit q with
        | false => rfl
        | true =>
          have : (q : Int) ∈ mem f 0 x.p.toNat := by rw [mem_mem]; exact ⟨by omega, by simpa using hb⟩
          rw [hm] at this; cases this
      · exact Nat.testBit_lt_two_pow (Nat.lt_of_lt_of_le hf (Nat.pow_le_pow_right (by omega) (by omega)))
    subst h0
    rw [hm, ac_nil]
    have := base l d out k hr hd (fun q hq => by have := hg q hq; rw [Nat.zero_testBit, Bool.false_or] at this; exact this) hout (by omega)
    simpa using this
  | succ N ih =>
    intro l f d out k hN hr hf hd hg hout hk
    by_cases h0 : f = 0
    · subst h0
      have hm : mem 0 0 x.p.toNat = [] := by
        unfold mem
        rw [List.filter_eq_nil_iff]
        intro a _; simp
      rw [hm, ac_nil]
      have := base l d out k hr hd (fun q hq => by have := hg q hq; rw [Nat.zero_testBit, Bool.false_or] at this; exact this) hout (by omega)
      simpa using this
    obtain ⟨k, rfl⟩ : ∃ q, k = q + 1 := ⟨k - 1, by omega⟩
    have h0' : ¬ (f : Int) = 0 := by omega
    have hnf : full x c l = false := by
      obtain ⟨q, hq⟩ : ∃ q, f.testBit q = true := by
        apply Classical.byContradiction
        intro hno
        apply h0
        apply Nat.eq_of_testBit_eq
        intro q
        rw [Nat.zero_testBit]
        cases hb : f.testBit q with
        | false => rfl
        | true => exact absurd ⟨q, hb⟩ hno
      have hqn : q < x.p.toNat := by
        apply Classical.byContradiction
        intro hge
        have := Nat.testBit_lt_two_pow (x := f) (i := q) (Nat.lt_of_lt_of_le hf (Nat.pow_le_pow_right (by omega) (by omega)))
        rw [this] at hq; cases hq
      unfold full
      rw [List.all_eq_false]
      refine ⟨(q : Int), by unfold pts; rw [mem_ir]; omega, ?_⟩
      have := hg q hqn
      rw [hq, Bool.true_or] at this
      rw [← this]; simp
    rw [spec_l02Full, spec_l02Full_body, decide_eq_false h0', if_neg (by simp)]
    have loop : ∀ (e p fp dp g : Nat) (cur : List Int), x.p.toNat - p = e → e < g → p ≤ x.p.toNat → fp < 2 ^ x.p.toNat → dp < 2 ^ x.p.toNat → (∀ i, i < p → fp.testBit i = false) → (mem fp p x.p.toNat).length ≤ N + 1 → (∀ q : Nat, q < x.p.toNat → (fp.testBit q || dp.testBit q) = goesB x c l q) → cur.length ≤ most →
        spec_l02Full_l0 (spec_l02Full k) (rws x c x.p.toNat) ((bitsOf l : Nat) : Int) (most : Int) g (fp : Int) (dp : Int) (p : Int) cur = some ((cur ++ (((ac (aB x c) (mem fp p x.p.toNat)).map (l ++ ·)).filter (full x c)).map fun z => ((bitsOf z : Nat) : Int)).take most) := by
      intro e
      induction e with
      | zero =>
        intro p fp dp g cur he hg' hpn hfp hdp hlow hN' hcov hc
        obtain ⟨g, rfl⟩ : ∃ q, g = q + 1 := ⟨g - 1, by omega⟩
        have hpe : ¬ (p : Int) < ((rws x c x.p.toNat).length : Int) := by rw [rws_length]; omega
        rw [spec_l02Full_l0, decide_eq_false hpe, mem_end (by omega), ac_nil]
        simp only [letO, Bool.false_eq_true, if_false, Option.bind_some, List.map_nil, List.filter_nil, List.append_nil]
        rw [List.take_of_length_le (by omega)]
      | succ e ihe =>
        intro p fp dp g cur he hg' hpn hfp hdp hlow hN' hcov hc
        obtain ⟨g, rfl⟩ : ∃ q, g = q + 1 := ⟨g - 1, by omega⟩
        have hpl : (p : Int) < ((rws x c x.p.toNat).length : Int) := by rw [rws_length]; omega
        rw [spec_l02Full_l0, decide_eq_true hpl]
        by_cases hfull : (cur.length : Int) < (most : Int)
        · rw [decide_eq_true hfull]
          simp only [letO, if_true, Option.bind_some]
          have hp0 : (0 : Int) ≤ p := by omega
          have h2p : 2 ^ p < 2 ^ x.p.toNat := Nat.pow_lt_pow_right (by omega) (by omega)
          have hand : bAnd .i64 (fp : Int) (bShl .i64 1 (p : Int)) = ((fp &&& 2 ^ p : Nat) : Int) := by
            rw [bShl_one (by omega), bAnd_nat (sp_lt x hp hfp) (sp_lt x hp h2p)]
          rw [u64_id (by omega), hand, Int.toNat_natCast, rws_get x c _ p (by omega), w64_id (n := (p : Int) + 1) (by omega), show (p : Int) + 1 = ((p + 1 : Nat) : Int) by omega]
          have hzero : (fp &&& 2 ^ p = 0) ↔ fp.testBit p = false := by
            constructor
            · intro hz
              have := congrArg (fun w => Nat.testBit w p) hz
              simp only [Nat.testBit_and, Nat.testBit_two_pow_self, Bool.and_true, Nat.zero_testBit] at this
              exact this
            · intro hb
              apply Nat.eq_of_testBit_eq
              intro q
              rw [Nat.testBit_and, Nat.testBit_two_pow, Nat.zero_testBit]
              by_cases e : p = q
              · subst e; rw [hb]; rfl
              · simp [e]
          by_cases hb : fp.testBit p = true
          · obtain ⟨b1, b2, b3, b4, b5, b6, b7⟩ := cntbit x hp c hfp (show p < x.p.toNat by omega) hb hlow
            have hnz : ¬ ((fp &&& 2 ^ p : Nat) : Int) = 0 := fun hz => by
              have : fp &&& 2 ^ p = 0 := by omega
              rw [hzero, hb] at this; cases this
            have hset : bOr .i64 ((bitsOf l : Nat) : Int) (bShl .i64 1 (p : Int)) = ((bitsOf (l ++ [(p : Int)]) : Nat) : Int) := by
              rw [bShl_one (by omega), bOr_nat (lt63 (bitsOf_lt l hr)) (sp_lt x hp h2p), bitsOf_snoc, Int.toNat_natCast]
            have hfn : bAnd .i64 (fp : Int) ((nb x c p : Nat) : Int) = ((fp &&& nb x c p : Nat) : Int) := bAnd_nat (sp_lt x hp hfp) (nb_lt x hp c p)
            have hdn : bAnd .i64 (dp : Int) ((nb x c p : Nat) : Int) = ((dp &&& nb x c p : Nat) : Int) := bAnd_nat (sp_lt x hp hdp) (nb_lt x hp c p)
            have hdo : bOr .i64 (dp : Int) (bShl .i64 1 (p : Int)) = ((dp ||| 2 ^ p : Nat) : Int) := by
              rw [bShl_one (by omega), bOr_nat (sp_lt x hp hdp) (sp_lt x hp h2p)]
            have hdo2 : dp ||| 2 ^ p < 2 ^ x.p.toNat := Nat.or_lt_two_pow hdp h2p
            have hsame : fp &&& nb x c p = (fp ^^^ 2 ^ p) &&& nb x c p := by
              apply Nat.eq_of_testBit_eq
              intro q
              rw [Nat.testBit_and, Nat.testBit_and, Nat.testBit_xor, Nat.testBit_two_pow, nb_test]
              by_cases e : p = q
              · subst e; simp [aB_irr]
              · simp [e]
            rw [b6] at hN'
            simp only [List.length_cons] at hN'
            have hlt := List.length_filter_le (aB x c p) (mem (fp ^^^ 2 ^ p) (p + 1) x.p.toNat)
            have hself := ih (l ++ [(p : Int)]) (fp &&& nb x c p) (dp &&& nb x c p) cur k (by rw [hsame, b7]; omega) (fun z hz => by
              rcases List.mem_append.1 hz with hz | hz
              · exact hr z hz
              · rw [List.mem_singleton] at hz; subst hz; omega) (Nat.lt_of_le_of_lt Nat.and_le_left hfp) (Nat.lt_of_le_of_lt Nat.and_le_left hdp) (fun q hq => by
              rw [Nat.testBit_and, Nat.testBit_and, ← Bool.and_or_distrib_right, hcov q hq, goesB_snoc, nb_test]
              simp [hq]) hc (by omega)
            have hlt1 : (p : Int) < ((rws x c x.p.toNat).length : Int) := hpl
            simp only [hp0, if_true, hnz, decide_false, Bool.false_eq_true, if_false, hlt1, and_self, hset, hfn, hdn, hself, Option.bind_some, b1, hdo]
            rw [ihe (p + 1) _ _ g _ (by omega) (by omega) (by omega) b3 hdo2 b5 (by omega) (fun q hq => by
              rw [← hcov q hq, Nat.testBit_xor, Nat.testBit_or, Nat.testBit_two_pow]
              by_cases e : p = q
              · subst e; simp [hb]
              · simp [e]) (by rw [List.length_take]; omega), take_take_app, List.append_assoc, hsame, b7, b6, ac_cons, List.map_append, List.filter_append, List.map_append, List.map_map]
            have hfun : ((fun z => l ++ z) ∘ fun z => (p : Int) :: z) = fun z => (l ++ [(p : Int)]) ++ z := by funext z; simp
            rw [hfun]
          · have hb' : fp.testBit p = false := by simpa using hb
            have hz : ((fp &&& 2 ^ p : Nat) : Int) = 0 := by rw [hzero.2 hb']; rfl
            simp only [hp0, if_true, hz, decide_true, Option.bind_some]
            rw [ihe (p + 1) fp dp g cur (by omega) (by omega) (by omega) hfp hdp (fun i hi => by
              by_cases e : i = p
              · subst e; exact hb'
              · exact hlow i (by omega)) (by rw [mem_no (by omega) hb'] at hN'; exact hN') hcov hc, mem_no (by omega) hb']
        · rw [decide_eq_false hfull]
          simp only [letO, Bool.false_eq_true, if_true, if_false, Option.bind_some]
          rw [List.take_append_of_le_length (by omega), List.take_of_length_le (by omega)]
    have := loop x.p.toNat 0 f d k out (by omega) (by omega) (by omega) hf hd (fun i hi => by omega) hN hg hout
    rw [show ((0 : Nat) : Int) = 0 from rfl] at this
    rw [this, List.map_cons, List.append_nil, List.filter_cons, if_neg (by rw [hnf]; simp)]
    rfl
end

/-! ### Lists in order -/
def lexB : List Int → List Int → Bool
  | [], [] => false
  | [], _ :: _ => true
  | _ :: _, [] => false
  | a :: s, b :: t => if a = b then lexB s t else decide (a < b)

theorem ac_lex (adj : Int → Int → Bool) (l : List Int) (h : l.Pairwise (· < ·)) : ([] :: ac adj l).Pairwise (fun a b => lexB b a = false) := by
  induction l using len_ind with
  | _ l ih =>
    rw [List.pairwise_cons]
    refine ⟨fun b hb => by
      have := ac_ne adj l b hb
      cases b with
      | nil => exact absurd rfl this
      | cons _ _ => rfl, ?_⟩
    cases l with
    | nil => rw [ac_nil]; exact List.Pairwise.nil
    | cons v t =>
      rw [List.pairwise_cons] at h
      rw [ac_cons, List.pairwise_append]
      refine ⟨?_, ?_, ?_⟩
      · rw [List.pairwise_map]
        exact (ih _ (flt_lt adj v t) (h.2.sublist List.filter_sublist)).imp fun hab => by simpa [lexB] using hab
      · exact (List.pairwise_cons.1 (ih t (by simp) h.2)).2
      · intro a ha b hb
        rw [List.mem_map] at ha
        obtain ⟨y, _, rfl⟩ := ha
        have hb' : b ∈ ([] :: ac adj t) := List.mem_cons_of_mem _ hb
        have hsub := ((mem_ac adj t b).1 hb').1
        have hne := ac_ne adj t b hb
        cases b with
        | nil => exact absurd rfl hne
        | cons w s =>
          have hw := h.1 w (hsub.subset (List.mem_cons_self ..))
          have h1 : ¬ w = v := by omega
          have h2 : ¬ w < v := by omega
          simp [lexB, h1, h2]

theorem before_val {k : Nat} (a b : List Int) (ha : a.length ≤ 1000) (hb : b.length ≤ 1000) (hk : 1100 ≤ k) : spec_l02Before k a b = some (lexB a b) := by
  unfold spec_l02Before
  have key : ∀ (d i f : Nat), a.length - i = d → d < f → i ≤ a.length → i ≤ b.length → (spec_l02Before_l0 a b f i = some (.inl ()) ∧ lexB (a.drop i) (b.drop i) = decide ((a.length : Int) < (b.length : Int))) ∨ spec_l02Before_l0 a b f i = some (.inr (lexB (a.drop i) (b.drop i))) := by
    intro d
    induction d with
    | zero =>
      intro i f hd hf h1 h2
      left
      obtain ⟨f, rfl⟩ : ∃ q, f = q + 1 := ⟨f - 1, by omega⟩
      have hi : i = a.length := by omega
      have hlt : ¬ (i : Int) < (a.length : Int) := by omega
      refine ⟨by rw [spec_l02Before_l0, decide_eq_false hlt]; simp [letO], ?_⟩
      have e1 : a.drop i = [] := by rw [hi]; simp
      rw [e1]
      cases hq : b.drop i with
      | nil =>
        have : b.length ≤ i := by
          have := congrArg List.length hq
          simp at this; omega
        have : ¬ (a.length : Int) < (b.length : Int) := by omega
        rw [decide_eq_false this]; rfl
      | cons z zs =>
        have : i < b.length := by
          have := congrArg List.length hq
          simp at this; omega
        have : (a.length : Int) < (b.length : Int) := by omega
        rw [decide_eq_true this]; rfl
    | succ d ih =>
      intro i f hd hf h1 h2
      obtain ⟨f, rfl⟩ : ∃ q, f = q + 1 := ⟨f - 1, by omega⟩
      have hlt : (i : Int) < (a.length : Int) := by omega
      have hia : i < a.length := by omega
      have e1 : a.drop i = a.getD i 0 :: a.drop (i + 1) := by rw [List.drop_eq_getElem_cons hia, getD_el hia]
      by_cases hib : i < b.length
      · have hlt2 : (i : Int) < (b.length : Int) := by omega
        have e2 : b.drop i = b.getD i 0 :: b.drop (i + 1) := by rw [List.drop_eq_getElem_cons hib, getD_el hib]
        have h0 : (0 : Int) ≤ i := by omega
        rw [spec_l02Before_l0, decide_eq_true hlt, e1, e2, decide_eq_true hlt2, w64_id (by omega)]
        simp only [letO, if_true, Option.bind_some, Int.toNat_natCast, h0, hlt, hlt2, and_self]
        by_cases hq : a.getD i 0 = b.getD i 0
        · have := ih (i + 1) f (by omega) (by omega) (by omega) (by omega)
          rw [decide_eq_true hq]
          simp only [Bool.not_true, Bool.false_eq_true, if_false]
          rw [show (i : Int) + 1 = ((i + 1 : Nat) : Int) by omega]
          simp only [lexB, if_pos hq]
          exact this
        · right
          rw [decide_eq_false hq]
          simp only [Bool.not_false, if_true, lexB, if_neg hq]
      · left
        have hlt2 : ¬ (i : Int) < (b.length : Int) := by omega
        have e2 : b.drop i = [] := by rw [List.drop_eq_nil_iff]; omega
        have : ¬ (a.length : Int) < (b.length : Int) := by omega
        refine ⟨by rw [spec_l02Before_l0, decide_eq_true hlt, decide_eq_false hlt2]; simp [letO], ?_⟩
        rw [e1, e2, decide_eq_false this]; rfl
  have := key a.length 0 k (by omega) (by omega) (by omega) (by omega)
  rw [show ((0 : Nat) : Int) = 0 from rfl, List.drop_zero, List.drop_zero] at this
  rcases this with ⟨h1, h2⟩ | h
  · rw [h1, h2]; rfl
  · rw [h]; rfl

theorem insert_val {k : Nat} (hk : 5000 ≤ k) (Ls : List (List Int)) (hl : Ls.length ≤ 200) (hR : ∀ l ∈ Ls, inR l ∧ inc l ∧ l.length ≤ 17) (hlex : Ls.Pairwise (fun a b => lexB b a = false)) :
    spec_FullCliques_l0 k (Ls.map fun z => ((bitsOf z : Nat) : Int)) k 0 [] = some Ls := by
  have key : ∀ (d i f : Nat), Ls.length - i = d → d < f → i ≤ Ls.length → spec_FullCliques_l0 k (Ls.map fun z => ((bitsOf z : Nat) : Int)) f i (Ls.take i) = some Ls := by
    intro d
    induction d with
    | zero =>
      intro i f hd hf h1
      obtain ⟨f, rfl⟩ : ∃ q, f = q + 1 := ⟨f - 1, by omega⟩
      have hi : i = Ls.length := by omega
      rw [spec_FullCliques_l0, hi]
      simp
    | succ d ih =>
      intro i f hd hf h1
      obtain ⟨f, rfl⟩ : ∃ q, f = q + 1 := ⟨f - 1, by omega⟩
      have hi : i < Ls.length := by omega
      have hlt : (i : Int) < ((Ls.map fun z => ((bitsOf z : Nat) : Int)).length : Int) := by rw [List.length_map]; omega
      have h0 : (0 : Int) ≤ i := by omega
      obtain ⟨r1, r2, r3⟩ := hR _ (List.getElem_mem hi)
      have eg : (Ls.map fun z => ((bitsOf z : Nat) : Int)).getD i 0 = ((bitsOf Ls[i] : Nat) : Int) := by simp [List.getD, hi]
      have et : Ls.take (i + 1) = Ls.take i ++ [Ls[i]] := (List.take_append_getElem hi).symm
      have hlen : (Ls.take i).length = i := by rw [List.length_take]; omega
      have hl2 : (Ls.take i).length + ([Ls[i]]).length ≤ 1099511627776 := by simp; omega
      have hins : ∀ g, spec_FullCliques_l1 k Ls[i] (g + 1) ((Ls.take i).length : Int) (Ls.take i ++ [Ls[i]]) = some ((i : Int), Ls.take i ++ [Ls[i]]) := by
        intro g
        rw [hlen, spec_FullCliques_l1]
        by_cases hz : 0 < i
        · have hz' : (0 : Int) < (i : Int) := by omega
          have hr : 0 ≤ (i : Int) - 1 ∧ (i : Int) - 1 < ((Ls.take i ++ [Ls[i]]).length : Int) := by rw [List.length_append, hlen]; simp; omega
          have hgd : (Ls.take i ++ [Ls[i]]).getD ((i : Int) - 1).toNat [] = Ls[i - 1] := by
            have : ((i : Int) - 1).toNat = i - 1 := by omega
            rw [this, ← et]
            simp [List.getD, List.getElem?_take, show i - 1 < i + 1 by omega, show i - 1 < Ls.length by omega]
          have hb := before_val (k := k) Ls[i] Ls[i - 1] (by omega) (by have := (hR _ (List.getElem_mem (show i - 1 < Ls.length by omega))).2.2; omega) (by omega)
          rw [List.pairwise_iff_getElem] at hlex
          rw [hlex (i - 1) i (by omega) hi (by omega)] at hb
          rw [w64_id (by omega), decide_eq_true hz', hgd, hb]
          simp only [if_true, if_pos hr, Option.bind_some, Bool.false_eq_true, if_false]
        · have hz' : ¬ (0 : Int) < (i : Int) := by omega
          rw [decide_eq_false hz']
          simp
      have hins := hins (k - 1)
      rw [show k - 1 + 1 = k by omega] at hins
      have hset : 0 ≤ (i : Int) ∧ (i : Int) < ((Ls.take i ++ [Ls[i]]).length : Int) := by rw [List.length_append, hlen]; simp; omega
      have hset2 : (Ls.take i ++ [Ls[i]]).set i Ls[i] = Ls.take i ++ [Ls[i]] := by
        rw [List.set_append_right _ _ (by omega), hlen]
        simp
      rw [spec_FullCliques_l0, decide_eq_true hlt, w64_id (by have := hl; omega)]
      simp only [if_true, h0, hlt, and_self, Int.toNat_natCast, eg]
      rw [points_bits hk Ls[i] r1 r2]
      simp only [Option.bind_some, if_pos hl2, hins, if_pos hset, Int.toNat_natCast, hset2]
      rw [← et, show (i : Int) + 1 = ((i + 1 : Nat) : Int) by omega]
      exact ih (i + 1) f (by omega) (by omega) (by omega)
  have := key Ls.length 0 k (by omega) (by omega) (by omega)
  rw [show ((0 : Nat) : Int) = 0 from rfl] at this
  rw [List.take_zero] at this
  exact this

theorem full_val {k : Nat} (hk : 5000 ≤ k) (x : Col) (c : Int) :
    (∃ e, e ≠ 0 ∧ impl_FullCliques k x c = some (none, e) ∧ spec_FullCliques k x c = some ([], e)) ∨
    (x.is ∧ (0 ≤ c ∧ c ≤ x.k - 1) ∧ impl_FullCliques k x c = some (some (fulls x c), 0) ∧ spec_FullCliques k x c = some (fulls x c, 0) ∧ (fulls x c).length ≤ 200) := by
  obtain ⟨c1, c2⟩ := code_cases hk x
  obtain ⟨g1, g2, g3⟩ := given_cases hk x c
  unfold impl_FullCliques spec_FullCliques impl_FullCliques_c1
  by_cases h : x.is
  · rw [hasColour_val h c]
    by_cases hc : 0 ≤ c ∧ c ≤ x.k - 1
    · have hl := list_eq hk x h.1 c (fun a0 => impl_FullCliques_c2 k a0 x c) (full x c) (fun l hl => implFull hk x h.1 c l hl)
      obtain ⟨w1, w2, w3⟩ := whole_bits x h.1
      have hsp := spec_full x h.1 c 201 (by omega) 17 [] (2 ^ x.p.toNat - 1) 0 [] k (by have := mem_length (2 ^ x.p.toNat - 1) 0 x.p.toNat; have := h.1; omega) (fun z hz => by cases hz) w2 (Nat.two_pow_pos _) (fun q hq => by
        rw [Nat.testBit_two_pow_sub_one]; simp [hq, goesB]) (by simp) (by omega)
      rw [mem_all] at hsp
      have hm : (([] :: ac (aB x c) (ir 0 x.p.toNat)).map fun z => ([] : List Int) ++ z) = acl x c := by
        conv => rhs; rw [← List.map_id (acl x c)]
        rfl
      rw [hm] at hsp
      simp only [bitsOf, List.nil_append, Int.natCast_zero] at hsp
      rw [decide_eq_true hc, (c1 h).1, g1 h hc, rows_val hk x h.1 c]
      simp only [Option.bind_some, decide_true, Bool.not_true, Bool.false_eq_true, if_false, if_pos w3, w1, hl]
      rw [show (201 : Int) = ((201 : Nat) : Int) from rfl, hsp]
      simp only [Option.bind_some]
      show (∃ e, e ≠ 0 ∧ _ ∧ _) ∨ _
      by_cases hlen : (fulls x c).length ≤ 200
      · right
        have hlen' : ((acl x c).filter (full x c)).length ≤ 200 := hlen
        refine ⟨h, hc, ?_, ?_, hlen⟩
        · rw [if_pos hlen']; rfl
        · have e1 : (((acl x c).filter (full x c)).map fun z => ((bitsOf z : Nat) : Int)).take 201 = ((fulls x c).map fun z => ((bitsOf z : Nat) : Int)) := List.take_of_length_le (by rw [List.length_map]; omega)
          have : ¬ (200 : Int) < (((fulls x c).map fun z => ((bitsOf z : Nat) : Int)).length : Int) := by rw [List.length_map]; omega
          rw [e1, decide_eq_false this]
          simp only [Bool.false_eq_true, if_false]
          rw [insert_val hk (fulls x c) hlen (fun l hl => by
            have hm := (List.mem_filter.1 hl).1
            have := acl_inR x h.1 c l hm
            exact ⟨this.1, this.2, mem_acl_len x h.1 c l hm⟩) ((ac_lex (aB x c) (pts x) (ir_pw _ _)).sublist List.filter_sublist)]
          rfl
      · left
        have hlen' : ¬ ((acl x c).filter (full x c)).length ≤ 200 := hlen
        refine ⟨3, by decide, ?_, ?_⟩
        · rw [if_neg hlen']
        · have : (200 : Int) < (((((acl x c).filter (full x c)).map fun z => ((bitsOf z : Nat) : Int)).take 201).length : Int) := by rw [List.length_take, List.length_map]; omega
          rw [decide_eq_true this]; rfl
    · left
      rw [decide_eq_false hc, (c1 h).2, g2 h hc]
      exact ⟨2, by decide, by simp, by simp⟩
  · left
    rw [c2 h, g3 h]
    exact ⟨1, by decide, by simp, by simp⟩
end Go.Proofs.Ytfoijbdnkkaceaa
