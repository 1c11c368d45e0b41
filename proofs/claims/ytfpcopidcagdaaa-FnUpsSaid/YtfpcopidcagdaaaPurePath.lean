/- Paths that go up: what the two lists of numbers tell, and the path that is picked. No conditions beyond those that each lemma states. -/
import Derived.Test.YtfpcopidcagdaaaPureCore15
set_option linter.unusedVariables false
set_option linter.unusedSimpArgs false
namespace Go.Proofs.Ytfpcopidcagdaaa
open Go Go.RowKit Ab

/-! ### Paths by their length and ends -/
inductive PL (x : Col) (c : Int) : Nat → Int → Int → Prop
  | one (a : Int) (h0 : 0 ≤ a) (h1 : a < x.p) : PL x c 1 a a
  | cons (m : Nat) (a a' b : Int) (h0 : 0 ≤ a) (h : a < a') (hc : x.cc a a' = c) (t : PL x c m a' b) : PL x c (m + 1) a b
theorem PL.ends {x : Col} {c : Int} {m : Nat} {a b : Int} (h : PL x c m a b) : 0 ≤ a ∧ a ≤ b ∧ b < x.p ∧ 1 ≤ m := by
  induction h with
  | one a h0 h1 => exact ⟨h0, Int.le_refl _, h1, Nat.le_refl _⟩
  | cons m a a' b h0 h hc t ih => omega
theorem PL.snoc {x : Col} {c : Int} {m : Nat} {a b b' : Int} (h : PL x c m a b) (hb : b < b') (hp : b' < x.p) (hc : x.cc b b' = c) : PL x c (m + 1) a b' := by
  induction h with
  | one a h0 h1 => exact .cons 1 a b' b' h0 hb hc (.one b' (by omega) hp)
  | cons m a a' b h0 h hc' t ih => exact .cons (m + 1) a a' b' h0 h hc' (ih hb hc)

def FRi (x : Col) (c : Int) (s : List Int) (t : Int) : Prop :=
  (∀ j, t < j → j < x.p → x.cc t j = c → li s j + 1 ≤ li s t) ∧ (li s t = 1 ∨ ∃ j, t < j ∧ j < x.p ∧ x.cc t j = c ∧ li s t = li s j + 1)
def FRR (x : Col) (c i : Int) (s : List Int) : Prop := frR x i s ∧ ∀ t, i ≤ t → t < x.p → FRi x c s t
def TOi (x : Col) (c : Int) (s : List Int) (t : Int) : Prop :=
  (∀ j, 0 ≤ j → j < t → x.cc j t = c → li s j + 1 ≤ li s t) ∧ (li s t = 1 ∨ ∃ j, 0 ≤ j ∧ j < t ∧ x.cc j t = c ∧ li s t = li s j + 1)

theorem FRi_set {x : Col} {c : Int} {s : List Int} {i t v : Int} (hi : 0 ≤ i) (hil : i < s.length) (ht : i < t) (h : FRi x c s t) : FRi x c (s.set i.toNat v) t := by
  have e : ∀ j, i < j → li (s.set i.toNat v) j = li s j := fun j hj => by rw [li_set _ _ _ _ hi hil (by omega), if_neg (by omega)]
  refine ⟨fun j h1 h2 h3 => ?_, ?_⟩
  · rw [e j (by omega), e t ht]; exact h.1 j h1 h2 h3
  · rw [e t ht]
    rcases h.2 with h | ⟨j, h1, h2, h3, h4⟩
    · exact .inl h
    · exact .inr ⟨j, h1, h2, h3, by rw [e j (by omega)]; exact h4⟩

def B4 (x : Col) (c i j : Int) (s : List Int) : Prop := li s i = 1 ∨ ∃ j', i < j' ∧ j' < j ∧ x.cc i j' = c ∧ li s i = li s j' + 1

theorem fr3 (x : Col) (hp : x.p ≤ 17) (c i : Int) (hi0 : 0 ≤ i) (hi : i < x.p) : ∀ (k : Nat) (j : Int) (s : List Int), i < j → j ≤ x.p → (x.p - j).toNat < k → FRR x c (i + 1) s → 1 ≤ li s i → li s i ≤ x.p - i →
    (∀ j', i < j' → j' < j → x.cc i j' = c → li s j' + 1 ≤ li s i) → B4 x c i j s →
    ∃ r, impl_Colouring_ups_l3 x c i k j s = some r ∧ spec_l10Ups_l1 x c i k j s = some r ∧ FRR x c i r := by
  intro k
  induction k with
  | zero => intro j s _ _ h; omega
  | succ k ih =>
    intro j s h1 h2 hk hs b1 b2 b3 b4
    rw [impl_Colouring_ups_l3, spec_l10Ups_l1]
    by_cases hj : j < x.p
    · rw [w64_id (show -9223372036854775808 ≤ j + 1 ∧ j + 1 < 9223372036854775808 by omega), implAt_eq x i j hi0 h1 (by omega) (by omega), specAt_eq x i j hi0 h1 (by omega) (by omega)]
      have hr := hs.1.2 j (by omega) hj
      rw [w64_id (show -9223372036854775808 ≤ s.getD j.toNat 0 + 1 ∧ s.getD j.toNat 0 + 1 < 9223372036854775808 by simp only [li] at hr; omega)]
      simp only [hj, decide_true, if_true, Option.bind_some]
      have hl := hs.1.1
      by_cases hc : x.cc i j = c
      · simp only [hc, decide_true, if_true]
        rw [if_pos (show 0 ≤ i ∧ i < (s.length : Int) by omega), if_pos (show 0 ≤ j ∧ j < (s.length : Int) by omega), if_pos (show 0 ≤ i ∧ i < (s.length : Int) by omega)]
        simp only [Option.bind_some]
        have e : ∀ v t, i < t → li (s.set i.toNat v) t = li s t := fun v t ht => by rw [li_set _ _ _ _ hi0 (by omega) (by omega), if_neg (by omega)]
        have ei : ∀ v, li (s.set i.toNat v) i = v := fun v => by rw [li_set _ _ _ _ hi0 (by omega) hi0, if_pos rfl]
        have hv : ∀ v, FRR x c (i + 1) (s.set i.toNat v) := fun v => ⟨⟨by simpa using hl, fun t ht ht' => by
          rw [e v t (by omega)]; exact hs.1.2 t ht ht'⟩, fun t ht ht' => FRi_set hi0 (by omega) (by omega) (hs.2 t ht ht')⟩
        change 1 ≤ li s i at b1
        have hval : (if s.getD i.toNat 0 < s.getD j.toNat 0 + 1 then s.getD j.toNat 0 + 1 else s.getD i.toNat 0) = max (li s i) (li s j + 1) := by
          show (if li s i < li s j + 1 then li s j + 1 else li s i) = _
          split <;> omega
        rw [hval]
        refine ih (j + 1) _ (by omega) (by omega) (by omega) (hv _) ?_ ?_ ?_ ?_
        · rw [ei]; omega
        · rw [ei]; omega
        · intro j' h3 h4 h5
          rw [ei, e _ j' h3]
          by_cases hjj : j' = j
          · subst hjj; omega
          · have := b3 j' h3 (by omega) h5; omega
        · unfold B4
          rw [ei]
          by_cases hlt : li s i < li s j + 1
          · refine .inr ⟨j, h1, by omega, hc, ?_⟩
            rw [e _ j h1]; omega
          · rcases b4 with b4 | ⟨j', h3, h4, h5, h6⟩
            · exact .inl (by omega)
            · refine .inr ⟨j', h3, by omega, h5, ?_⟩
              rw [e _ j' h3]; omega
      · simp only [hc, decide_false, Bool.false_eq_true, if_false, Option.bind_some]
        refine ih (j + 1) s (by omega) (by omega) (by omega) hs b1 b2 (fun j' h3 h4 h5 => ?_) ?_
        · by_cases hjj : j' = j
          · subst hjj; exact absurd h5 hc
          · exact b3 j' h3 (by omega) h5
        · rcases b4 with b4 | ⟨j', h3, h4, h5, h6⟩
          · exact .inl b4
          · exact .inr ⟨j', h3, by omega, h5, h6⟩
    · simp only [hj, decide_false, Bool.false_eq_true, if_false]
      have hjp : j = x.p := by omega
      refine ⟨s, rfl, rfl, ⟨hs.1.1, fun t ht ht' => ?_⟩, fun t ht ht' => ?_⟩
      · by_cases e : t = i
        · subst e; exact ⟨b1, b2⟩
        · exact hs.1.2 t (by omega) ht'
      · by_cases e : t = i
        · subst e; exact ⟨fun j' h3 h4 h5 => b3 j' h3 (by omega) h5, b4.imp id fun ⟨j', h3, h4, h5⟩ => ⟨j', h3, by omega, h5⟩⟩
        · exact hs.2 t (by omega) ht'

theorem fr2 (x : Col) (hp : x.p ≤ 17) (c : Int) (k : Nat) (hk : 19 ≤ k) : ∀ (k' : Nat) (i : Int) (s : List Int), i < x.p → -1 ≤ i → (i + 1).toNat < k' → FRR x c (i + 1) s →
    ∃ r, impl_Colouring_ups_l2 k x c k' i s = some r ∧ spec_l10Ups_l0 k x c k' i s = some r ∧ FRR x c 0 r := by
  intro k'
  induction k' with
  | zero => intro i s _ _ h; omega
  | succ k' ih =>
    intro i s h1 h0 hk' q
    rw [impl_Colouring_ups_l2, spec_l10Ups_l0]
    by_cases hi : 0 ≤ i
    · have hl := q.1.1
      have hv : FRR x c (i + 1) (s.set i.toNat 1) := ⟨⟨by simpa using hl, fun t ht ht' => by
        rw [li_set _ _ _ _ hi (by omega) (by omega), if_neg (by omega)]; exact q.1.2 t ht ht'⟩, fun t ht ht' => FRi_set hi (by omega) (by omega) (q.2 t ht ht')⟩
      have e1 : li (s.set i.toNat 1) i = 1 := by rw [li_set _ _ _ _ hi (by omega) hi, if_pos rfl]
      obtain ⟨r, e, e', hr⟩ := fr3 x hp c i hi h1 k (i + 1) (s.set i.toNat 1) (by omega) (by omega) (by omega) hv (by omega) (by omega) (fun j' h3 h4 => by omega) (.inl e1)
      rw [w64_id (show -9223372036854775808 ≤ i + 1 ∧ i + 1 < 9223372036854775808 by omega), w64_id (show -9223372036854775808 ≤ i - 1 ∧ i - 1 < 9223372036854775808 by omega), e, e']
      simp only [hi, decide_true, if_true]
      rw [if_pos (show True ∧ i < (s.length : Int) from ⟨trivial, by omega⟩)]
      exact ih (i - 1) r (by omega) (by omega) (by omega) (by rw [show i - 1 + 1 = i by omega]; exact hr)
    · have : i = -1 := by omega
      subst this
      refine ⟨s, by simp, by simp, ?_⟩
      simpa using q

/-! ### What the lists tell -/
theorem FR.le {x : Col} {c : Int} {L : List Int} (hL : FRR x c 0 L) {m : Nat} {a b : Int} (h : PL x c m a b) : (m : Int) ≤ li L a := by
  induction h with
  | one a h0 h1 => exact (hL.1.2 a h0 h1).1
  | cons m a a' b h0 h hc t ih =>
    have := t.ends
    have := (hL.2 a h0 (by omega)).1 a' h (by omega) hc
    omega
theorem FR.ex {x : Col} {c : Int} {L : List Int} (hL : FRR x c 0 L) : ∀ (d : Nat) (a : Int), 0 ≤ a → a < x.p → (x.p - a).toNat ≤ d → ∃ b, PL x c (li L a).toNat a b := by
  intro d
  induction d with
  | zero => intro a h0 h1 h; omega
  | succ d ih =>
    intro a h0 h1 h
    rcases (hL.2 a h0 h1).2 with e | ⟨j, h2, h3, h4, h5⟩
    · exact ⟨a, by rw [e]; exact .one a h0 h1⟩
    · obtain ⟨b, hb⟩ := ih j (by omega) h3 (by omega)
      have := hL.1.2 j (by omega) h3
      refine ⟨b, ?_⟩
      rw [h5, show (li L j + 1).toNat = (li L j).toNat + 1 by omega]
      exact .cons _ a j b h0 h2 h4 hb
theorem TO.le {x : Col} {c : Int} {T : List Int} (hT : ∀ t, 0 ≤ t → t < x.p → 1 ≤ li T t ∧ TOi x c T t) {m : Nat} {a b : Int} (h : PL x c m a b) : li T a + m ≤ li T b + 1 := by
  induction h with
  | one a h0 h1 => omega
  | cons m a a' b h0 h hc t ih =>
    have := t.ends
    have := (hT a' (by omega) (by omega)).2.1 a h0 h hc
    omega
theorem TO.ex {x : Col} {c : Int} {T : List Int} (hT : ∀ t, 0 ≤ t → t < x.p → 1 ≤ li T t ∧ TOi x c T t) : ∀ (d : Nat) (b : Int), 0 ≤ b → b < x.p → b.toNat ≤ d → ∃ a, PL x c (li T b).toNat a b := by
  intro d
  induction d with
  | zero =>
    intro b h0 h1 h
    rcases (hT b h0 h1).2.2 with e | ⟨j, h2, h3, _⟩
    · exact ⟨b, by rw [e]; exact .one b h0 h1⟩
    · omega
  | succ d ih =>
    intro b h0 h1 h
    rcases (hT b h0 h1).2.2 with e | ⟨j, h2, h3, h4, h5⟩
    · exact ⟨b, by rw [e]; exact .one b h0 h1⟩
    · obtain ⟨a, ha⟩ := ih j h2 (by omega) (by omega)
      have := hT j h2 (by omega)
      refine ⟨a, ?_⟩
      rw [h5, show (li T j + 1).toNat = (li T j).toNat + 1 by omega]
      exact ha.snoc h3 h1 h4

theorem ownUp_facts (x : Col) (c : Int) (l : List Int) (j : Nat) : ∀ i : Nat, (∀ a : Nat, a < i → x.cc a j = c → l.getD a 0 + 1 ≤ ownUp x c l j i) ∧ (ownUp x c l j i = 1 ∨ ∃ a : Nat, a < i ∧ x.cc a j = c ∧ ownUp x c l j i = l.getD a 0 + 1) := by
  intro i
  induction i with
  | zero => exact ⟨fun a h => by omega, .inl rfl⟩
  | succ i ih =>
    unfold ownUp
    by_cases hc : x.cc i j = c
    · rw [if_pos hc]
      by_cases hlt : ownUp x c l j i < l.getD i 0 + 1
      · rw [if_pos hlt]
        refine ⟨fun a ha h => ?_, .inr ⟨i, by omega, hc, rfl⟩⟩
        by_cases e : a = i
        · subst e; exact Int.le_refl _
        · have := ih.1 a (by omega) h; omega
      · rw [if_neg hlt]
        refine ⟨fun a ha h => ?_, ih.2.imp id fun ⟨a, h1, h2⟩ => ⟨a, by omega, h2⟩⟩
        by_cases e : a = i
        · subst e; omega
        · exact ih.1 a (by omega) h
    · rw [if_neg hc]
      refine ⟨fun a ha h => ?_, ih.2.imp id fun ⟨a, h1, h2⟩ => ⟨a, by omega, h2⟩⟩
      by_cases e : a = i
      · subst e; exact absurd h hc
      · exact ih.1 a (by omega) h

theorem upL_pre (x : Col) (c : Int) (i j : Nat) (h : i < j) : ∀ n, j ≤ n → (upL x c n).getD i 0 = (upL x c j).getD i 0 := by
  intro n
  induction n with
  | zero => intro h'; omega
  | succ n ih =>
    intro h'
    by_cases e : j = n + 1
    · rw [e]
    · rw [upL, getD_app _ _ _ _ (by rw [upL_length]; omega)]
      exact ih (by omega)
theorem upL_at (x : Col) (c : Int) (j n : Nat) (h : j < n) : (upL x c n).getD j 0 = ownUp x c (upL x c j) j j := by
  rw [upL_pre x c j (j + 1) (by omega) n (by omega), upL, getD_app' _ _ _ _ (by rw [upL_length]; omega), upL_length]
  simp
theorem upL_TO (x : Col) (c : Int) (hp : 0 ≤ x.p) : ∀ t, 0 ≤ t → t < x.p → 1 ≤ li (upL x c x.p.toNat) t ∧ TOi x c (upL x c x.p.toNat) t := by
  intro t h0 h1
  obtain ⟨j, rfl⟩ := nat_of h0
  have hr := upL_range x c x.p.toNat j (by omega)
  have e := upL_at x c j x.p.toNat (by omega)
  have hf := ownUp_facts x c (upL x c j) j j
  refine ⟨by simp only [li, Int.toNat_natCast]; exact hr.1, fun a ha ha' hc => ?_, ?_⟩
  · obtain ⟨a, rfl⟩ := nat_of ha
    have := hf.1 a (by omega) hc
    simp only [li, Int.toNat_natCast]
    rw [e, upL_pre x c a j (by omega) x.p.toNat (by omega)]
    exact this
  · rcases hf.2 with h | ⟨a, h2, h3, h4⟩
    · exact .inl (by simp only [li, Int.toNat_natCast]; rw [e, h])
    · refine .inr ⟨a, by omega, by omega, h3, ?_⟩
      simp only [li, Int.toNat_natCast]
      rw [e, upL_pre x c a j (by omega) x.p.toNat (by omega)]
      exact h4

/-! ### The path that is picked -/
def UpP (x : Col) (c : Int) (l : List Int) : Prop := (∀ i : Int, 0 ≤ i → i < l.length → 0 ≤ li l i ∧ li l i < x.p) ∧ ∀ i : Int, 0 ≤ i → i + 1 < l.length → li l i < li l (i + 1) ∧ x.cc (li l i) (li l (i + 1)) = c

theorem li_app (l : List Int) (v j : Int) (h0 : 0 ≤ j) (h : j < l.length) : li (l ++ [v]) j = li l j := by unfold li; rw [getD_app _ _ _ _ (by omega)]
theorem li_last (l : List Int) (v : Int) : li (l ++ [v]) (l.length : Int) = v := by unfold li; rw [getD_app' _ _ _ _ (by omega)]; simp

theorem UpP.snoc {x : Col} {c : Int} {l : List Int} {v : Int} (h : UpP x c l) (h0 : 0 ≤ v) (h1 : v < x.p) (hl : l.length = 0 ∨ (li l ((l.length : Int) - 1) < v ∧ x.cc (li l ((l.length : Int) - 1)) v = c)) : UpP x c (l ++ [v]) := by
  refine ⟨fun i g0 g1 => ?_, fun i g0 g1 => ?_⟩
  · by_cases e : i = l.length
    · subst e; rw [li_last]; exact ⟨h0, h1⟩
    · rw [li_app _ _ _ g0 (by simp at g1; omega)]; exact h.1 i g0 (by simp at g1; omega)
  · rw [li_app _ _ _ g0 (by simp at g1; omega)]
    by_cases e : i + 1 = l.length
    · rw [e, li_last]
      rcases hl with hl | hl
      · omega
      · have : (l.length : Int) - 1 = i := by omega
        rw [this] at hl; exact hl
    · rw [li_app _ _ _ (by omega) (by simp at g1; omega)]
      exact h.2 i g0 (by simp at g1; omega)

/-- Where the next point of the path lies. -/
def Nxt (x : Col) (c : Int) (L : List Int) (left i : Int) (out : List Int) : Prop := ∃ q, i ≤ q ∧ q < x.p ∧ li L q = left ∧ (out.length = 0 ∨ x.cc (li out ((out.length : Int) - 1)) q = c)

theorem long2 (x : Col) (hp : x.p ≤ 17) (c : Int) (f L : List Int) (hL : FRR x c 0 L) : ∀ (k : Nat) (left i : Int) (out : List Int), 0 ≤ i → i ≤ x.p → 0 ≤ left → left ≤ 1000 → (x.p - i).toNat < k → (out.length : Int) ≤ i → (∀ j : Int, 0 ≤ j → j < out.length → 0 ≤ li out j ∧ li out j < i) →
    UpP x c out → (left = 0 ∨ Nxt x c L left i out) →
    ∃ r : List Int, impl_LongestUp_l0 x c (f, L) k left i out = some r ∧ (left = 0 → r = out) ∧ (r.length : Int) = out.length + left ∧ UpP x c r ∧ spec_l10Longest_l1 x c L k left i out = some r := by
  intro k
  induction k with
  | zero => intro left i out _ _ _ _ h; omega
  | succ k ih =>
    intro left i out h0 h1 hl hl2 hk ho hin hup hnx
    rw [impl_LongestUp_l0, spec_l10Longest_l1]
    have hlen := hL.1.1
    by_cases hi : i < x.p
    · have hv := hL.1.2 i h0 hi
      rw [w64_id (show -9223372036854775808 ≤ i + 1 ∧ i + 1 < 9223372036854775808 by omega), w64_id (show -9223372036854775808 ≤ left - 1 ∧ left - 1 < 9223372036854775808 by omega)]
      by_cases hz : left = 0
      · subst hz
        have e0 : ¬ L.getD i.toNat 0 = 0 := by simp only [li] at hv; omega
        obtain ⟨r, e, e1, e2, e3, _⟩ := ih 0 (i + 1) out (by omega) (by omega) (by omega) (by omega) (by omega) (by omega) (fun j g0 g1 => by have := hin j g0 g1; omega) hup (.inl rfl)
        have := e1 rfl
        subst this
        refine ⟨r, ?_, fun _ => rfl, e2, e3, ?_⟩
        · simp only [hi, decide_true, if_true]
          rw [if_pos (show 0 ≤ i ∧ i < (L.length : Int) by omega)]
          simp only [e0, decide_false, Bool.false_eq_true, if_false, Option.bind_some]
          exact e
        · simp [letO, hi]
      · have hpos : 0 < left := by omega
        obtain ⟨q, hq1, hq2, hq3, hq4⟩ := hnx.resolve_left hz
        by_cases hm : L.getD i.toNat 0 = left
        · have hw : -9223372036854775808 ≤ (out.length : Int) - 1 ∧ (out.length : Int) - 1 < 9223372036854775808 := by omega
          rw [w64_id hw]
          -- what holds behind the point, if it is taken
          have hnext : left - 1 = 0 ∨ Nxt x c L (left - 1) (i + 1) (out ++ [i]) := by
            rcases (hL.2 i h0 hi).2 with e | ⟨j, g1, g2, g3, g4⟩
            · left
              simp only [li] at e; omega
            · right
              refine ⟨j, by omega, g2, ?_, .inr ?_⟩
              · have : li L i = left := hm
                omega
              · have : ((out ++ [i]).length : Int) - 1 = (out.length : Int) := by simp
                rw [this, li_last]; exact g3
          by_cases he : (out.length : Int) = 0
          · have hup' := hup.snoc h0 hi (.inl (by omega))
            obtain ⟨r, e, e1, e2, e3, e4⟩ := ih (left - 1) (i + 1) (out ++ [i]) (by omega) (by omega) (by omega) (by omega) (by omega) (by simp; omega) (fun j g0 g1 => by
              have : out = [] := List.eq_nil_of_length_eq_zero (by omega)
              subst this
              have hj : j = 0 := by simp at g1; omega
              subst hj
              simp [li]; omega) hup' hnext
            refine ⟨r, ?_, fun h => (hz h).elim, by rw [e2]; simp; omega, e3, ?_⟩
            · simp only [hi, decide_true, if_true, hm, he, Option.bind_some]
              rw [if_pos (show 0 ≤ i ∧ i < (L.length : Int) by omega)]
              simp only [Option.bind_some, if_true]
              rw [if_pos (by simp; omega)]
              exact e
            · simp only [letO, hi, hpos, decide_true, if_true, Option.bind_some, hm, he]
              rw [if_pos (show 0 ≤ i ∧ i < (L.length : Int) by omega)]
              simp only [Option.bind_some, if_true]
              rw [if_pos (by simp; omega)]
              exact e4
          · have hlast := hin ((out.length : Int) - 1) (by omega) (by omega)
            rw [implAt_eq x _ i hlast.1 hlast.2 h0 (by omega), specAt_eq x _ i hlast.1 hlast.2 h0 (by omega)]
            by_cases hcc : x.cc (li out ((out.length : Int) - 1)) i = c
            · have hup' := hup.snoc h0 hi (.inr ⟨hlast.2, hcc⟩)
              obtain ⟨r, e, e1, e2, e3, e4⟩ := ih (left - 1) (i + 1) (out ++ [i]) (by omega) (by omega) (by omega) (by omega) (by omega) (by simp; omega) (fun j g0 g1 => by
                unfold li
                by_cases hj : j < out.length
                · rw [getD_app _ _ _ _ (by omega)]
                  have := hin j g0 hj
                  simp only [li] at this; omega
                · rw [getD_app' _ _ _ _ (by omega)]
                  have hj2 : j.toNat - out.length = 0 := by simp at g1; omega
                  rw [hj2]; simp; omega) hup' hnext
              refine ⟨r, ?_, fun h => (hz h).elim, by rw [e2]; simp; omega, e3, ?_⟩
              · simp only [hi, decide_true, if_true, hm, he, decide_false, Bool.false_eq_true, if_false]
                rw [if_pos (show 0 ≤ i ∧ i < (L.length : Int) by omega), if_pos (show 0 ≤ (out.length : Int) - 1 ∧ (out.length : Int) - 1 < (out.length : Int) by omega)]
                simp only [Option.bind_some, hcc, decide_true, if_true]
                rw [if_pos (by simp; omega)]
                exact e
              · simp only [letO, hi, hpos, decide_true, if_true, Option.bind_some, hm, he, decide_false, Bool.false_eq_true, if_false]
                rw [if_pos (show 0 ≤ i ∧ i < (L.length : Int) by omega), if_pos (show 0 ≤ (out.length : Int) - 1 ∧ (out.length : Int) - 1 < (out.length : Int) by omega)]
                simp only [Option.bind_some, hcc, decide_true, if_true]
                rw [if_pos (by simp; omega)]
                exact e4
            · have hqi : q ≠ i := fun e => by
                subst e
                rcases hq4 with h | h
                · omega
                · exact hcc h
              obtain ⟨r, e, e1, e2, e3, e4⟩ := ih left (i + 1) out (by omega) (by omega) (by omega) (by omega) (by omega) (by omega) (fun j g0 g1 => by have := hin j g0 g1; omega) hup (.inr ⟨q, by omega, hq2, hq3, hq4⟩)
              refine ⟨r, ?_, fun h => (hz h).elim, e2, e3, ?_⟩
              · simp only [hi, decide_true, if_true, hm, he, decide_false, Bool.false_eq_true, if_false]
                rw [if_pos (show 0 ≤ i ∧ i < (L.length : Int) by omega), if_pos (show 0 ≤ (out.length : Int) - 1 ∧ (out.length : Int) - 1 < (out.length : Int) by omega)]
                simp only [Option.bind_some, hcc, decide_false, Bool.false_eq_true, if_false]
                exact e
              · simp only [letO, hi, hpos, decide_true, if_true, Option.bind_some, hm, he, decide_false, Bool.false_eq_true, if_false]
                rw [if_pos (show 0 ≤ i ∧ i < (L.length : Int) by omega), if_pos (show 0 ≤ (out.length : Int) - 1 ∧ (out.length : Int) - 1 < (out.length : Int) by omega)]
                simp only [Option.bind_some, hcc, decide_false, Bool.false_eq_true, if_false]
                exact e4
        · have hqi : q ≠ i := fun e => by subst e; exact hm hq3
          obtain ⟨r, e, e1, e2, e3, e4⟩ := ih left (i + 1) out (by omega) (by omega) (by omega) (by omega) (by omega) (by omega) (fun j g0 g1 => by have := hin j g0 g1; omega) hup (.inr ⟨q, by omega, hq2, hq3, hq4⟩)
          refine ⟨r, ?_, fun h => (hz h).elim, e2, e3, ?_⟩
          · simp only [hi, decide_true, if_true, hm, decide_false, Bool.false_eq_true, if_false]
            rw [if_pos (show 0 ≤ i ∧ i < (L.length : Int) by omega)]
            exact e
          · simp only [letO, hi, hpos, decide_true, if_true, Option.bind_some, hm, decide_false, Bool.false_eq_true, if_false]
            rw [if_pos (show 0 ≤ i ∧ i < (L.length : Int) by omega)]
            exact e4
    · have hz : left = 0 := by
        rcases hnx with h | ⟨q, h1, h2, _⟩
        · exact h
        · omega
      refine ⟨out, by simp [hi], fun _ => rfl, by omega, hup, by simp [letO, hi]⟩

/-- The greatest number of a list. -/
def isMax (L : List Int) (m : Int) : Prop := (∃ i : Int, 0 ≤ i ∧ i < L.length ∧ li L i = m) ∧ ∀ i : Int, 0 ≤ i → i < L.length → li L i ≤ m
theorem max_is (L : List Int) (hL : (L.length : Int) ≤ 1099511627776) : ∀ (d : Nat) (a i : Int), 0 ≤ i → ((L.length : Int) - i).toNat = d → ∃ r, (∀ k, d < k → slices_Max_l0 L k a i = some r) ∧ a ≤ r ∧ (∀ j, i ≤ j → j < L.length → li L j ≤ r) ∧ (r = a ∨ ∃ j, i ≤ j ∧ j < L.length ∧ li L j = r) := by
  intro d
  induction d with
  | zero =>
    intro a i h0 h
    refine ⟨a, fun k hk => ?_, Int.le_refl _, fun j h1 h2 => by omega, .inl rfl⟩
    obtain ⟨k, rfl⟩ : ∃ k', k = k' + 1 := ⟨k - 1, by omega⟩
    rw [slices_Max_l0]
    have : ¬ i < (L.length : Int) := by omega
    simp [this]
  | succ d ih =>
    intro a i h0 h
    have hi : i < (L.length : Int) := by omega
    obtain ⟨r, hk, h1, h2, h3⟩ := ih (if a < L.getD i.toNat 0 then L.getD i.toNat 0 else a) (i + 1) (by omega) (by omega)
    have hge : a ≤ r ∧ li L i ≤ r := by
      simp only [li]
      split at h1 <;> omega
    refine ⟨r, fun k hk' => ?_, hge.1, fun j g1 g2 => ?_, ?_⟩
    · obtain ⟨k, rfl⟩ : ∃ k', k = k' + 1 := ⟨k - 1, by omega⟩
      rw [slices_Max_l0, w64_succ h0 hi (by omega), hk k (by omega)]
      simp [h0, hi]
    · by_cases e : j = i
      · subst e; exact hge.2
      · exact h2 j (by omega) g2
    · rcases h3 with h3 | ⟨j, g1, g2, g3⟩
      · split at h3
        · exact .inr ⟨i, Int.le_refl _, hi, h3.symm⟩
        · exact .inl h3
      · exact .inr ⟨j, by omega, g2, g3⟩

theorem paths_max {x : Col} {c : Int} {L T : List Int} (hL : FRR x c 0 L) (hT : ∀ t, 0 ≤ t → t < x.p → 1 ≤ li T t ∧ TOi x c T t) (hTl : (T.length : Int) = x.p) {m n : Int} (hm : isMax L m) (hn : isMax T n) : m = n := by
  have hLl := hL.1.1
  obtain ⟨⟨i, i0, i1, hi⟩, hm⟩ := hm
  obtain ⟨⟨j, j0, j1, hj⟩, hn⟩ := hn
  obtain ⟨b, hb⟩ := FR.ex hL x.p.toNat i i0 (by omega) (by omega)
  obtain ⟨a, ha⟩ := TO.ex hT x.p.toNat j j0 (by omega) (by omega)
  have e1 := TO.le hT hb
  have e2 := FR.le hL ha
  have b1 := hb.ends
  have a1 := ha.ends
  have v1 := hL.1.2 i i0 (by omega)
  have v2 := (hT j j0 (by omega)).1
  have v3 := (hT i i0 (by omega)).1
  have u1 := hn b (by omega) (by omega)
  have u2 := hm a (by omega) (by omega)
  omega
end Go.Proofs.Ytfpcopidcagdaaa
