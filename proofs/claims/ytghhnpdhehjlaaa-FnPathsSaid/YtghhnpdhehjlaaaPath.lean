/- Plain Lean for the laws: longest paths, by what is left of the points and by the sets of points. No program in sight. No conditions beyond those that each lemma states. -/
import Derived.Test.YtghhnpdhehjlaaaMat
import Derived.Test.YtghhnpdhehjlaaaPBits
set_option linter.unusedVariables false
set_option linter.unusedSimpArgs false
namespace Go.Proofs.Ytghhnpdhehjlaaa
open Go Go.RowKit Ab

/-! ### The greatest of some numbers -/
def fm (c : Int → Bool) (g : Int → Nat) : List Int → Nat → Nat
  | [], b => b
  | p :: l, b => fm c g l (bif c p then max b (g p + 1) else b)
theorem fm_ge (c : Int → Bool) (g : Int → Nat) : ∀ (l : List Int) (b : Nat), b ≤ fm c g l b
  | [], b => Nat.le_refl _
  | p :: l, b => by
    refine Nat.le_trans ?_ (fm_ge c g l _)
    cases c p
    · exact Nat.le_refl _
    · exact Nat.le_max_left ..
theorem fm_mem (c : Int → Bool) (g : Int → Nat) : ∀ (l : List Int) (b : Nat) (p : Int), p ∈ l → c p = true → g p + 1 ≤ fm c g l b
  | q :: l, b, p, h, hc => by
    rcases List.mem_cons.1 h with rfl | h
    · refine Nat.le_trans ?_ (fm_ge c g l _)
      rw [hc]; exact Nat.le_max_right ..
    · exact fm_mem c g l _ p h hc
theorem fm_cases (c : Int → Bool) (g : Int → Nat) : ∀ (l : List Int) (b : Nat), fm c g l b = b ∨ ∃ p ∈ l, c p = true ∧ fm c g l b = g p + 1
  | [], b => .inl rfl
  | p :: l, b => by
    rcases fm_cases c g l (bif c p then max b (g p + 1) else b) with h | ⟨q, hq, hc, h⟩
    · rw [fm, h]
      cases e : c p
      · exact .inl rfl
      · rw [cond_true]
        rcases Nat.le_total (g p + 1) b with h1 | h1
        · exact .inl (Nat.max_eq_left h1)
        · exact .inr ⟨p, List.mem_cons_self .., e, Nat.max_eq_right h1⟩
    · exact .inr ⟨q, List.mem_cons_of_mem _ hq, hc, h⟩
theorem fm_congr {c c' : Int → Bool} {g g' : Int → Nat} : ∀ (l : List Int) (b : Nat), (∀ p ∈ l, c p = c' p ∧ (c p = true → g p = g' p)) → fm c g l b = fm c' g' l b
  | [], b, _ => rfl
  | p :: l, b, h => by
    obtain ⟨h1, h2⟩ := h p (List.mem_cons_self ..)
    rw [fm, fm, ← h1]
    cases e : c p
    · exact fm_congr l _ fun q hq => h q (List.mem_cons_of_mem _ hq)
    · rw [cond_true, cond_true, h2 e]
      exact fm_congr l _ fun q hq => h q (List.mem_cons_of_mem _ hq)
theorem fm_none {c : Int → Bool} {g : Int → Nat} : ∀ (l : List Int) (b : Nat), (∀ p ∈ l, c p = false) → fm c g l b = b
  | [], b, _ => rfl
  | p :: l, b, h => by
    rw [fm, h p (List.mem_cons_self ..), cond_false]
    exact fm_none l b fun q hq => h q (List.mem_cons_of_mem _ hq)

/-! ### Sets -/
def cnt (n s : Nat) : Nat := (mem s 0 n).length
theorem cnt_le (n s : Nat) : cnt n s ≤ n := by have := mem_length s 0 n; unfold cnt; omega
def add (s p : Nat) : Nat := s ||| 2 ^ p
theorem add_test (s p j : Nat) : (add s p).testBit j = (s.testBit j || decide (p = j)) := add_bit j
theorem add_lt {s p n : Nat} (hs : s < 2 ^ n) (hp : p < n) : add s p < 2 ^ n := Nat.or_lt_two_pow hs (Nat.pow_lt_pow_right (by decide) hp)
theorem off_add {s p : Nat} (h : s.testBit p = false) : off (add s p) p = s := by
  refine bits_eq fun j => ?_
  rw [off_test (by rw [add_test]; simp), add_test]
  by_cases e : j = p
  · subst e; simp [h]
  · have : ¬ p = j := fun h => e h.symm
    simp [e, this]
theorem add_off {s p : Nat} (h : s.testBit p = true) : add (off s p) p = s := by
  refine bits_eq fun j => ?_
  rw [add_test, off_test h]
  by_cases e : j = p
  · subst e; simp [h]
  · have : ¬ p = j := fun h => e h.symm
    simp [e, this]
theorem cnt_off {n s p : Nat} (h : s.testBit p = true) (hp : p < n) : cnt n (off s p) + 1 = cnt n s := by
  unfold cnt
  have hm : (p : Int) ∈ mem s 0 n := mem_mem.2 ⟨⟨by omega, by omega⟩, by simpa using h⟩
  rw [off_mem h, filter_ne_length (mem_nodup _ _ _) hm]
  have := List.length_pos_of_mem hm
  omega
theorem cnt_add {n s p : Nat} (h : s.testBit p = false) (hp : p < n) : cnt n (add s p) = cnt n s + 1 := by
  have := cnt_off (n := n) (s := add s p) (p := p) (by rw [add_test]; simp) hp
  rw [off_add h] at this
  exact this.symm
theorem cnt_full {n s p : Nat} (h : cnt n s = n) (hp : p < n) : s.testBit p = true := by
  cases hb : s.testBit p with
  | true => rfl
  | false => have := cnt_add hb hp; have := cnt_le n (add s p); omega
theorem off_self {s p : Nat} (h : s.testBit p = true) : off s p < s := by
  have h1 : off s p ≤ add (off s p) p := Nat.left_le_or
  rw [add_off h] at h1
  refine Nat.lt_of_le_of_ne h1 fun e => ?_
  have := off_test h p
  rw [e, h] at this
  simp at this
/-! ### How far a path goes on -/
def ext (A : Int → Int → Bool) (n : Nat) : Nat → Nat → Int → Nat
  | 0, _, _ => 0
  | d + 1, u, last => fm (fun p => !u.testBit p.toNat) (fun p => ext A n d (add u p.toNat) p) ((ir 0 n).filter (A last)) 0
/-- How many points a path may have behind its last one. -/
def eX (A : Int → Int → Bool) (n u : Nat) (last : Int) : Nat := ext A n (n - cnt n u) u last
section
variable {A : Int → Int → Bool} {n : Nat}
theorem eX_rec (u : Nat) (last : Int) : eX A n u last = fm (fun p => !u.testBit p.toNat) (fun p => eX A n (add u p.toNat) p) ((ir 0 n).filter (A last)) 0 := by
  have hc := cnt_le n u
  have hlt : ∀ p ∈ (ir 0 n).filter (A last), p.toNat < n := fun p hp => by
    have := mem_ir.1 (List.mem_filter.1 hp).1; omega
  cases hd : n - cnt n u with
  | zero =>
    unfold eX
    rw [hd]
    rw [fm_none]
    · rfl
    · intro p hp
      rw [cnt_full (by omega) (hlt p hp)]; rfl
  | succ d =>
    have e : eX A n u last = ext A n (d + 1) u last := by unfold eX; rw [hd]
    rw [e, ext]
    refine fm_congr _ _ fun p hp => ⟨rfl, fun hb => ?_⟩
    unfold eX
    rw [cnt_add (by simpa using hb) (hlt p hp), show n - (cnt n u + 1) = d by omega]
theorem eX_ge {u : Nat} {last : Int} {p : Nat} (hp : p < n) (ha : A last p = true) (hb : u.testBit p = false) : eX A n (add u p) p + 1 ≤ eX A n u last := by
  rw [eX_rec u last]
  have := fm_mem (fun p => !u.testBit p.toNat) (fun p => eX A n (add u p.toNat) p) ((ir 0 n).filter (A last)) 0 (p : Int) (List.mem_filter.2 ⟨mem_ir.2 ⟨by omega, by omega⟩, ha⟩) (by simp [hb])
  simpa using this
theorem eX_cases (u : Nat) (last : Int) : eX A n u last = 0 ∨ ∃ p : Nat, p < n ∧ A last p = true ∧ u.testBit p = false ∧ eX A n u last = eX A n (add u p) p + 1 := by
  rw [eX_rec u last]
  rcases fm_cases (fun p => !u.testBit p.toNat) (fun p => eX A n (add u p.toNat) p) ((ir 0 n).filter (A last)) 0 with h | ⟨p, hp, hc, h⟩
  · exact .inl h
  · obtain ⟨h1, h2⟩ := List.mem_filter.1 hp
    rw [mem_ir] at h1
    refine .inr ⟨p.toNat, by omega, ?_, by simpa using hc, ?_⟩
    · rw [show ((p.toNat : Nat) : Int) = p by omega]; exact h2
    · rw [h, show ((p.toNat : Nat) : Int) = p by omega]
theorem eX_le : ∀ (d u : Nat) (last : Int), n - cnt n u = d → eX A n u last ≤ d := by
  intro d
  induction d with
  | zero => intro u last h; unfold eX; rw [h]; exact Nat.le_refl _
  | succ d ih =>
    intro u last h
    rcases eX_cases (A := A) (n := n) u last with e | ⟨p, hp, _, hb, e⟩
    · omega
    · have := ih (add u p) p (by rw [cnt_add hb hp]; omega)
      omega

/-! ### Paths through just a set -/
def en (A : Int → Int → Bool) (n S p : Nat) : Bool :=
  if h : S.testBit p = true then (decide (off S p = 0) || (List.range n).any fun q => A p q && en A n (off S p) q) else false
termination_by S
decreasing_by exact off_self h
theorem en_bit {S p : Nat} (h : en A n S p = true) : S.testBit p = true := by
  rw [en] at h
  split at h
  · assumption
  · cases h
theorem en_iff {S p : Nat} (h : S.testBit p = true) : en A n S p = true ↔ off S p = 0 ∨ ∃ q, q < n ∧ A p q = true ∧ en A n (off S p) q = true := by
  rw [en, dif_pos h]
  simp

/-- As many points as a path can have that begins with a point, off some others. -/
theorem en_eX : ∀ (m u p : Nat), p < n → u.testBit p = false → ((∃ S, S < 2 ^ n ∧ cnt n S = m + 1 ∧ (∀ j, S.testBit j = true → u.testBit j = false) ∧ en A n S p = true) ↔ m ≤ eX A n (add u p) p) := by
  intro m
  induction m with
  | zero =>
    intro u p hp hb
    refine ⟨fun _ => Nat.zero_le _, fun _ => ⟨2 ^ p, Nat.pow_lt_pow_right (by decide) hp, ?_, fun j hj => ?_, ?_⟩⟩
    · have e : add 0 p = 2 ^ p := by simp [add]
      rw [← e, cnt_add (by simp) hp]
      unfold cnt; rw [mem_zero]; rfl
    · rw [Nat.testBit_two_pow] at hj
      simp at hj; subst hj; exact hb
    · have e : add 0 p = 2 ^ p := by simp [add]
      have hbp : (2 ^ p).testBit p = true := by rw [Nat.testBit_two_pow]; simp
      rw [en_iff hbp]
      left
      rw [← e]; exact off_add (by simp)
  | succ m ih =>
    intro u p hp hb
    constructor
    · rintro ⟨S, hS, hc, hd, he⟩
      have hbS := en_bit he
      have hco := cnt_off hbS hp
      rcases (en_iff hbS).1 he with h0 | ⟨q, hq, ha, he2⟩
      · have : cnt n (off S p) = 0 := by rw [h0]; unfold cnt; rw [mem_zero]; rfl
        omega
      · have hbq := en_bit he2
        have hbq' := hbq
        rw [off_test hbS] at hbq
        simp at hbq
        have hqu : (add u p).testBit q = false := by
          rw [add_test, hd q hbq.1]
          have : ¬ p = q := fun h => hbq.2 h.symm
          simp [this]
        have h1 := (ih (add u p) q hq hqu).1 ⟨off S p, Nat.lt_trans (off_self hbS) hS, by omega, fun j hj => by
          rw [off_test hbS] at hj
          simp at hj
          rw [add_test, hd j hj.1]
          have : ¬ p = j := fun h => hj.2 h.symm
          simp [this], he2⟩
        have := eX_ge (A := A) hq ha hqu
        omega
    · intro h
      rcases eX_cases (A := A) (n := n) (add u p) p with e | ⟨q, hq, ha, hbq, e⟩
      · omega
      · obtain ⟨S, hS, hc, hd, he⟩ := (ih (add u p) q hq hbq).2 (by omega)
        have hSp : S.testBit p = false := by
          cases hb2 : S.testBit p with
          | false => rfl
          | true => have := hd p hb2; rw [add_test] at this; simp at this
        refine ⟨add S p, add_lt hS hp, by rw [cnt_add hSp hp, hc], fun j hj => ?_, ?_⟩
        · rw [add_test] at hj
          by_cases e2 : p = j
          · subst e2; exact hb
          · simp [e2] at hj
            have := hd j hj
            rw [add_test] at this
            simp at this
            exact this.1
        · have hbS : (add S p).testBit p = true := by rw [add_test]; simp
          rw [en_iff hbS, off_add hSp]
          exact .inr ⟨q, hq, ha, he⟩

/-! ### The first longest path -/
def lpP (A : Int → Int → Bool) (n m u : Nat) (last p : Int) : Bool := A last p && (!u.testBit p.toNat && decide (eX A n (add u p.toNat) p = m))
def lpN (A : Int → Int → Bool) (n : Nat) : Nat → Nat → Int → List Int
  | 0, _, _ => []
  | m + 1, u, last => match (ir 0 n).find? (lpP A n m u last) with
    | some p => p :: lpN A n m (add u p.toNat) p
    | none => []
theorem lp_find {m u : Nat} {last : Int} (h : eX A n u last = m + 1) : ∃ p : Nat, p < n ∧ (ir 0 n).find? (lpP A n m u last) = some (p : Int) ∧ A last p = true ∧ u.testBit p = false ∧ eX A n (add u p) p = m := by
  cases hf : (ir 0 n).find? (lpP A n m u last) with
  | none =>
    exfalso
    rcases eX_cases (A := A) (n := n) u last with e | ⟨p, hp, ha, hb, e⟩
    · omega
    · have := List.find?_eq_none.1 hf (p : Int) (mem_ir.2 ⟨by omega, by omega⟩)
      refine this ?_
      simp [lpP, ha, hb]; omega
  | some p =>
    have hm := mem_ir.1 (List.mem_of_find?_eq_some hf)
    have hP := List.find?_some hf
    simp [lpP] at hP
    have e : ((p.toNat : Nat) : Int) = p := by omega
    refine ⟨p.toNat, by omega, by rw [e], by rw [e]; exact hP.1, hP.2.1, by rw [e]; exact hP.2.2⟩
theorem lpN_length : ∀ (m u : Nat) (last : Int), eX A n u last = m → (lpN A n m u last).length = m := by
  intro m
  induction m with
  | zero => intro u last h; rfl
  | succ m ih =>
    intro u last h
    obtain ⟨p, hp, hf, ha, hb, e⟩ := lp_find h
    rw [lpN, hf]
    simp only [List.length_cons]
    rw [Int.toNat_natCast, ih (add u p) p e]

/-- The point with which the first longest path begins, and how far it goes on. -/
def lpF (A : Int → Int → Bool) (n : Nat) : Nat → Int × Int
  | 0 => (0, -1)
  | i + 1 => if (lpF A n i).2 < (eX A n (add 0 i) i : Int) then ((i : Int), (eX A n (add 0 i) i : Int)) else lpF A n i
theorem lpF_spec : ∀ i, 1 ≤ i → ∃ f m : Nat, lpF A n i = ((f : Int), (m : Int)) ∧ f < i ∧ m = eX A n (add 0 f) f ∧ (∀ j, j < i → eX A n (add 0 j) j ≤ m) ∧ (∀ j, j < f → eX A n (add 0 j) j < m) := by
  intro i
  induction i with
  | zero => intro h; omega
  | succ i ih =>
    intro _
    rw [lpF]
    by_cases hi : i = 0
    · subst hi
      refine ⟨0, eX A n (add 0 0) (0 : Nat), ?_, by omega, rfl, fun j hj => ?_, fun j hj => by omega⟩
      · rw [if_pos (by show (-1 : Int) < _; omega)]
      · have : j = 0 := by omega
        subst this; exact Nat.le_refl _
    · obtain ⟨f, m, e, hf, hm, h1, h2⟩ := ih (by omega)
      rw [e]
      by_cases h : (m : Int) < (eX A n (add 0 i) i : Int)
      · rw [if_pos h]
        refine ⟨i, eX A n (add 0 i) i, rfl, by omega, rfl, fun j hj => ?_, fun j hj => ?_⟩
        · by_cases e2 : j = i
          · subst e2; exact Nat.le_refl _
          · have := h1 j (by omega); omega
        · have := h1 j hj; omega
      · rw [if_neg h]
        refine ⟨f, m, rfl, by omega, hm, fun j hj => ?_, h2⟩
        by_cases e2 : j = i
        · subst e2; omega
        · exact h1 j (by omega)
/-- The first longest path. -/
def lp (A : Int → Int → Bool) (n : Nat) : List Int := (lpF A n n).1 :: lpN A n (lpF A n n).2.toNat (add 0 (lpF A n n).1.toNat) (lpF A n n).1
end
end Go.Proofs.Ytghhnpdhehjlaaa
