/- Plain Lean for the laws: cycles, by a search and by the sets of points. No program in sight. No conditions beyond those that each lemma states. -/
import Derived.Test.YtghhnpdhehjlaaaPath
set_option linter.unusedVariables false
set_option linter.unusedSimpArgs false
namespace Go.Proofs.Ytghhnpdhehjlaaa
open Go Go.RowKit Ab

def lst : Int → List Int → Int
  | a, [] => a
  | _, b :: t => lst b t
def chn (A : Int → Int → Bool) : Int → List Int → Prop
  | _, [] => True
  | a, b :: t => A a b = true ∧ chn A b t
theorem lst_snoc : ∀ (t : List Int) (a b : Int), lst a (t ++ [b]) = b
  | [], a, b => rfl
  | c :: t, a, b => lst_snoc t c b
theorem chn_snoc {A : Int → Int → Bool} : ∀ (t : List Int) (a b : Int), chn A a (t ++ [b]) ↔ chn A a t ∧ A (lst a t) b = true
  | [], a, b => by simp [chn, lst]
  | c :: t, a, b => by
    show (A a c = true ∧ chn A c (t ++ [b])) ↔ (A a c = true ∧ chn A c t) ∧ A (lst c t) b = true
    rw [chn_snoc t c b]
    exact ⟨fun h => ⟨⟨h.1, h.2.1⟩, h.2.2⟩, fun h => ⟨h.1.1, h.1.2, h.2⟩⟩
theorem chn_app {A : Int → Int → Bool} : ∀ (t e : List Int) (a : Int), chn A a (t ++ e) → chn A a t
  | [], e, a, _ => trivial
  | c :: t, e, a, h => ⟨h.1, chn_app t e c h.2⟩
theorem lst_mem : ∀ (t : List Int) (a : Int), lst a t = a ∧ t = [] ∨ lst a t ∈ t
  | [], a => .inl ⟨rfl, rfl⟩
  | b :: t, a => by
    rcases lst_mem t b with ⟨h, rfl⟩ | h
    · exact .inr (by rw [lst, h]; exact List.mem_cons_self ..)
    · exact .inr (List.mem_cons_of_mem _ h)
theorem chn_rev {A : Int → Int → Bool} (hs : ∀ a b, A a b = A b a) : ∀ (t : List Int) (a b : Int), chn A a (t ++ [b]) → chn A b (t.reverse ++ [a])
  | [], a, b, h => ⟨by rw [hs]; exact h.1, trivial⟩
  | c :: t, a, b, h => by
    have h1 := chn_rev hs t c b h.2
    rw [List.reverse_cons, chn_snoc, lst_snoc]
    exact ⟨h1, by rw [hs]; exact h.1⟩

/-- A path from a point through greater ones. -/
structure Pf (A : Int → Int → Bool) (n f : Nat) (t : List Int) : Prop where
  ch : chn A f t
  nd : t.Nodup
  rg : ∀ z ∈ t, (f : Int) < z ∧ z < n
/-- .. that leads back. -/
def Cy (A : Int → Int → Bool) (n f : Nat) (t : List Int) : Prop := Pf A n f t ∧ A (lst f t) f = true

section
variable {A : Int → Int → Bool} {n f : Nat}
theorem Pf.app {t e : List Int} (h : Pf A n f (t ++ e)) : Pf A n f t := ⟨chn_app t e _ h.ch, (List.nodup_append.1 h.nd).1, fun z hz => h.rg z (List.mem_append_left _ hz)⟩
theorem Pf.snoc {t : List Int} {b : Int} (h : Pf A n f t) (ha : A (lst f t) b = true) (hb : b ∉ t) (h1 : (f : Int) < b) (h2 : b < n) : Pf A n f (t ++ [b]) := by
  refine ⟨(chn_snoc t f b).2 ⟨h.ch, ha⟩, List.nodup_append.2 ⟨h.nd, by simp, fun x hx y hy e => ?_⟩, fun z hz => ?_⟩
  · rw [List.mem_singleton] at hy
    subst hy; subst e; exact hb hx
  · rcases List.mem_append.1 hz with hz | hz
    · exact h.rg z hz
    · rw [List.mem_singleton] at hz; subst hz; exact ⟨h1, h2⟩
theorem Cy.rev (hs : ∀ a b, A a b = A b a) {t : List Int} (h : Cy A n f t) : Cy A n f t.reverse := by
  have h1 := chn_rev hs t f f ((chn_snoc t f f).2 ⟨h.1.ch, h.2⟩)
  obtain ⟨h2, h3⟩ := (chn_snoc _ _ _).1 h1
  exact ⟨⟨h2, (List.reverse_perm t).nodup_iff.2 h.1.nd, fun z hz => h.1.rg z (List.mem_reverse.1 hz)⟩, h3⟩
theorem nodup_len' (m : Nat) : ∀ (l : List Int), l.Nodup → (∀ z ∈ l, (f : Int) < z ∧ z < (f : Int) + 1 + m) → l.length ≤ m := by
  induction m with
  | zero =>
    intro l _ h
    cases l with
    | nil => exact Nat.le_refl _
    | cons a l => have := h a (List.mem_cons_self ..); omega
  | succ m ih =>
    intro l hn h
    have h1 := ih (l.filter fun z => !decide (z = (f : Int) + 1 + m)) (hn.filter _) fun z hz => by
      obtain ⟨h2, h3⟩ := List.mem_filter.1 hz
      have := h z h2
      simp at h3
      omega
    by_cases hm : (f : Int) + 1 + m ∈ l
    · have := filter_ne_length hn hm
      omega
    · have : (l.filter fun z => !decide (z = (f : Int) + 1 + m)) = l := List.filter_eq_self.2 fun z hz => by
        have : z ≠ (f : Int) + 1 + m := fun e => hm (e ▸ hz)
        simp [this]
      rw [this] at h1
      omega
theorem Pf.len {t : List Int} (h : Pf A n f t) (hf : f < n) : t.length + f + 1 ≤ n := by
  have := nodup_len' (f := f) (n - f - 1) t h.nd fun z hz => by have := h.rg z hz; omega
  omega

/-! ### By sets -/
def la (A : Int → Int → Bool) (n f S p : Nat) : Bool :=
  if h : S.testBit p = true then (if p = f then decide (S = 2 ^ f) else decide (f < p) && (List.range n).any fun q => la A n f (off S p) q && A q p) else false
termination_by S
decreasing_by exact off_self h
theorem la_bit {S p : Nat} (h : la A n f S p = true) : S.testBit p = true := by
  rw [la] at h
  split at h
  · assumption
  · cases h
theorem la_iff {S p : Nat} (h : S.testBit p = true) : la A n f S p = true ↔ (p = f ∧ S = 2 ^ f) ∨ (f < p ∧ ∃ q, q < n ∧ la A n f (off S p) q = true ∧ A q p = true) := by
  rw [la, dif_pos h]
  by_cases e : p = f
  · subst e; simp
  · rw [if_neg e]
    simp [e]
theorem la_path (hf : f < n) : ∀ (S p : Nat), p < n → (la A n f S p = true ↔ ∃ t, Pf A n f t ∧ lst f t = p ∧ cnt n S = t.length + 1 ∧ ∀ j : Nat, S.testBit j = true ↔ j = f ∨ (j : Int) ∈ t) := by
  have base : cnt n (2 ^ f) = 1 := by
    have e : add 0 f = 2 ^ f := by simp [add]
    rw [← e, cnt_add (by simp) hf]
    unfold cnt; rw [mem_zero]; rfl
  intro S
  induction S using Nat.strongRecOn with
  | _ S ih =>
  intro p hp
  constructor
  · intro h
    have hb := la_bit h
    rcases (la_iff hb).1 h with ⟨rfl, rfl⟩ | ⟨hfp, q, hq, hl, ha⟩
    · refine ⟨[], ⟨trivial, List.nodup_nil, fun z hz => by cases hz⟩, rfl, by rw [base]; rfl, fun j => ?_⟩
      rw [Nat.testBit_two_pow]; simp; exact ⟨fun h => h.symm, fun h => h.symm⟩
    · obtain ⟨t, h1, h2, h3, h4⟩ := (ih (off S p) (off_self hb) q hq).1 hl
      have hpt : (p : Int) ∉ t := fun hm => by
        have := (h4 p).2 (.inr hm)
        rw [off_test hb] at this; simp at this
      refine ⟨t ++ [(p : Int)], h1.snoc (by rw [h2]; exact ha) hpt (by omega) (by omega), lst_snoc _ _ _, ?_, fun j => ?_⟩
      · have := cnt_off hb hp
        rw [List.length_append, List.length_singleton]; omega
      · have h5 := h4 j
        rw [off_test hb] at h5
        simp only [List.mem_append, List.mem_singleton]
        by_cases e : j = p
        · subst e; simp [hb]
        · have : ¬ (j : Int) = p := by omega
          simp [e] at h5
          simp [this, h5]
  · rintro ⟨t, h1, h2, h3, h4⟩
    rcases List.eq_nil_or_concat t with rfl | ⟨t', b, e⟩
    · have : f = p := by
        have h2' : (f : Int) = p := h2
        omega
      subst this
      have hS : S = 2 ^ f := bits_eq fun j => by
        rw [Nat.testBit_two_pow, Bool.eq_iff_iff, h4 j]; simp; exact ⟨fun h => h.symm, fun h => h.symm⟩
      rw [la_iff ((h4 f).2 (.inl rfl))]
      exact .inl ⟨rfl, hS⟩
    · rw [List.concat_eq_append] at e
      subst e
      rw [lst_snoc] at h2
      subst h2
      have hb : S.testBit p = true := (h4 p).2 (.inr (by simp))
      obtain ⟨hc, ha⟩ := (chn_snoc _ _ _).1 h1.ch
      have h1' := h1.app
      have hpt : (p : Int) ∉ t' := fun hm => by
        have := List.nodup_append.1 h1.nd
        exact this.2.2 _ hm _ (List.mem_singleton.2 rfl) rfl
      have hfp := (h1.rg (p : Int) (by simp)).1
      obtain ⟨q, hqn, hq⟩ : ∃ q : Nat, q < n ∧ lst f t' = q := by
        rcases lst_mem t' f with ⟨e, _⟩ | hm
        · exact ⟨f, hf, e⟩
        · have := h1'.rg _ hm
          exact ⟨(lst f t').toNat, by omega, by omega⟩
      rw [la_iff hb]
      refine .inr ⟨by omega, q, hqn, (ih (off S p) (off_self hb) q hqn).2 ⟨t', h1', hq, ?_, fun j => ?_⟩, by rw [← hq]; exact ha⟩
      · have := cnt_off hb hp
        rw [List.length_append, List.length_singleton] at h3; omega
      · rw [off_test hb]
        have h5 := h4 j
        simp only [List.mem_append, List.mem_singleton] at h5
        by_cases e : j = p
        · subst e
          simp
          exact ⟨by omega, hpt⟩
        · have : ¬ (j : Int) = p := by omega
          simp [this] at h5
          simp [e, h5]

/-! ### By a search -/
def dfs (A : Int → Int → Bool) (n f : Nat) : Nat → List Int → Option (List Int)
  | 0, t => bif A (lst f t) f && decide (t.headD 0 < lst f t) then some t else none
  | r + 1, t => (ir (f + 1) n).findSome? fun p => bif !decide (p ∈ t) && A (lst f t) p then dfs A n f r (t ++ [p]) else none
theorem dfs_some : ∀ (r : Nat) (t t' : List Int), Pf A n f t → dfs A n f r t = some t' → ∃ e, e.length = r ∧ t' = t ++ e ∧ Cy A n f t' ∧ t'.headD 0 < lst f t' := by
  intro r
  induction r with
  | zero =>
    intro t t' hP h
    rw [dfs] at h
    cases hc : A (lst f t) f && decide (t.headD 0 < lst f t) with
    | false => rw [hc] at h; cases h
    | true =>
      rw [hc] at h
      cases h
      simp at hc
      exact ⟨[], rfl, by simp, ⟨hP, hc.1⟩, by simpa using hc.2⟩
  | succ r ih =>
    intro t t' hP h
    rw [dfs] at h
    obtain ⟨p, hp, h⟩ := List.exists_of_findSome?_eq_some h
    rw [mem_ir] at hp
    cases hc : !decide (p ∈ t) && A (lst f t) p with
    | false => rw [hc] at h; cases h
    | true =>
      rw [hc, cond_true] at h
      simp at hc
      obtain ⟨e, h1, h2, h3⟩ := ih (t ++ [p]) t' (hP.snoc hc.2 hc.1 (by omega) (by omega)) h
      exact ⟨p :: e, by simp [h1], by rw [h2]; simp, h3⟩
theorem dfs_full : ∀ (r : Nat) (t e : List Int), e.length = r → Cy A n f (t ++ e) → (t ++ e).headD 0 < lst f (t ++ e) → dfs A n f r t ≠ none := by
  intro r
  induction r with
  | zero =>
    intro t e he hC hh
    have : e = [] := List.eq_nil_of_length_eq_zero he
    subst this
    rw [List.append_nil] at hC hh
    rw [dfs, hC.2, decide_eq_true hh]
    exact fun h => by cases h
  | succ r ih =>
    intro t e he hC hh
    cases e with
    | nil => cases he
    | cons p e =>
      have e1 : t ++ p :: e = (t ++ [p]) ++ e := by simp
      rw [e1] at hC hh
      have hP := hC.1.app
      have h1 := ih (t ++ [p]) e (by simpa using he) hC hh
      have hpt : p ∉ t := fun hm => by
        have := List.nodup_append.1 hP.nd
        exact this.2.2 _ hm _ (List.mem_singleton.2 rfl) rfl
      have ha := ((chn_snoc _ _ _).1 hP.ch).2
      have hr := hP.rg p (by simp)
      rw [dfs]
      intro hn
      have := List.findSome?_eq_none_iff.1 hn p (mem_ir.2 ⟨by omega, by omega⟩)
      rw [ha] at this
      simp [hpt] at this
      exact h1 this

theorem dfs_has (hs : ∀ a b, A a b = A b a) (hi : ∀ a, A a a = false) {m : Nat} (hm : 3 ≤ m) (hf : f < n) : (dfs A n f (m - 1) []).isSome = true ↔ ∃ t, Cy A n f t ∧ t.length + 1 = m := by
  constructor
  · intro h
    obtain ⟨t', ht⟩ := Option.isSome_iff_exists.1 h
    obtain ⟨e, h1, h2, h3, _⟩ := dfs_some (m - 1) [] t' ⟨trivial, List.nodup_nil, fun z hz => by cases hz⟩ ht
    rw [List.nil_append] at h2
    subst h2
    exact ⟨t', h3, by omega⟩
  · rintro ⟨t, hC, hl⟩
    have key : ∀ t : List Int, Cy A n f t → t.length + 1 = m → t.headD 0 < lst f t → (dfs A n f (m - 1) []).isSome = true := fun t hC hl hh => by
      have := dfs_full (A := A) (n := n) (f := f) (m - 1) [] t (by omega) hC (by simpa using hh)
      cases h : dfs A n f (m - 1) [] with
      | none => exact absurd h this
      | some _ => rfl
    -- the list's ends
    match t, hC, hl with
    | [], _, hl => simp at hl; omega
    | [a], _, hl => simp at hl; omega
    | a :: b :: t2, hC, hl =>
      obtain ⟨t3, z, e⟩ : ∃ t3 z, b :: t2 = t3 ++ [z] := ⟨(b :: t2).dropLast, (b :: t2).getLast (by simp), (List.dropLast_concat_getLast (by simp)).symm⟩
      have hz : lst f (a :: b :: t2) = z := by rw [e, ← List.cons_append, lst_snoc]
      have hne : a ≠ z := fun h => by
        have hn := hC.1.nd
        rw [e, ← h] at hn
        have := (List.nodup_cons.1 hn).1
        exact this (by simp)
      by_cases hlt : a < z
      · exact key _ hC hl (by rw [hz]; exact hlt)
      · refine key _ (hC.rev hs) (by rw [List.length_reverse]; exact hl) ?_
        have e2 : (a :: b :: t2).reverse = z :: (t3.reverse ++ [a]) := by rw [e]; simp
        rw [e2]
        show z < lst z (t3.reverse ++ [a])
        rw [lst_snoc]
        omega
theorem la_has (hf : f < n) {m : Nat} : (∃ S p, S < 2 ^ n ∧ p < n ∧ la A n f S p = true ∧ cnt n S = m ∧ A p f = true) ↔ ∃ t, Cy A n f t ∧ t.length + 1 = m := by
  constructor
  · rintro ⟨S, p, hS, hp, hl, hc, ha⟩
    obtain ⟨t, h1, h2, h3, h4⟩ := (la_path hf S p hp).1 hl
    exact ⟨t, ⟨h1, by rw [h2]; exact ha⟩, by omega⟩
  · rintro ⟨t, ⟨h1, ha⟩, hl⟩
    obtain ⟨p, hpn, hp⟩ : ∃ p : Nat, p < n ∧ lst f t = p := by
      rcases lst_mem t f with ⟨e, _⟩ | hm
      · exact ⟨f, hf, e⟩
      · have := h1.rg _ hm
        exact ⟨(lst f t).toNat, by omega, by omega⟩
    -- the set
    obtain ⟨S, hS, hbits⟩ : ∃ S, S < 2 ^ n ∧ ∀ j : Nat, S.testBit j = true ↔ j = f ∨ (j : Int) ∈ t := by
      have : ∀ t : List Int, (∀ z ∈ t, (f : Int) < z ∧ z < n) → ∃ S, S < 2 ^ n ∧ ∀ j : Nat, S.testBit j = true ↔ j = f ∨ (j : Int) ∈ t := by
        intro t
        induction t with
        | nil => exact fun _ => ⟨2 ^ f, Nat.pow_lt_pow_right (by decide) hf, fun j => by rw [Nat.testBit_two_pow]; simp; exact ⟨fun h => h.symm, fun h => h.symm⟩⟩
        | cons z t ih =>
          intro h
          obtain ⟨S, h1, h2⟩ := ih fun z hz => h z (List.mem_cons_of_mem _ hz)
          have hz := h z (List.mem_cons_self ..)
          refine ⟨add S z.toNat, add_lt h1 (by omega), fun j => ?_⟩
          rw [add_test, Bool.or_eq_true, h2 j, decide_eq_true_iff, List.mem_cons]
          constructor
          · rintro ((h | h) | h)
            · exact .inl h
            · exact .inr (.inr h)
            · exact .inr (.inl (by omega))
          · rintro (h | h | h)
            · exact .inl (.inl h)
            · exact .inr (by omega)
            · exact .inl (.inr h)
      exact this t h1.rg
    refine ⟨S, p, hS, hpn, (la_path hf S p hpn).2 ⟨t, h1, hp, ?_, hbits⟩, ?_, by rw [← hp]; exact ha⟩
    all_goals
      have hc : cnt n S = t.length + 1 := by
        have : ∀ (t : List Int) (S : Nat), t.Nodup → (∀ z ∈ t, (f : Int) < z ∧ z < n) → (∀ j : Nat, S.testBit j = true ↔ j = f ∨ (j : Int) ∈ t) → cnt n S = t.length + 1 := by
          intro t
          induction t with
          | nil =>
            intro S _ _ h
            have hS : S = add 0 f := bits_eq fun j => by
              rw [add_test, Bool.eq_iff_iff, h j]; simp; exact ⟨fun h => h.symm, fun h => h.symm⟩
            rw [hS, cnt_add (by simp) hf]
            unfold cnt; rw [mem_zero]
          | cons z t ih =>
            intro S hn hr h
            have hz := hr z (List.mem_cons_self ..)
            obtain ⟨hzt, hn'⟩ := List.nodup_cons.1 hn
            have hbz : S.testBit z.toNat = true := (h z.toNat).2 (.inr (by rw [show ((z.toNat : Nat) : Int) = z by omega]; exact List.mem_cons_self ..))
            have h1 := ih (off S z.toNat) hn' (fun y hy => hr y (List.mem_cons_of_mem _ hy)) fun j => by
              rw [off_test hbz]
              have h5 := h j
              by_cases e : j = z.toNat
              · subst e
                have h6 : ((z.toNat : Nat) : Int) = z := by omega
                have h7 : ¬ z.toNat = f := by omega
                simp [h6, hzt, h7]
              · have : ¬ (j : Int) = z := by omega
                simp [this] at h5
                simp [e, h5]
            have h2 := cnt_off hbz (show z.toNat < n by omega)
            rw [List.length_cons]; omega
        exact this t S h1.nd h1.rg hbits
      first | exact hc | omega
end
end Go.Proofs.Ytghhnpdhehjlaaa
