/- Plain laws of chapter 3: colourings by squares; lists that have a number. No conditions beyond those that each lemma states. -/
import Derived.Test.YtkknnbmmcmhngaaGreatPureDig
set_option linter.unusedVariables false
set_option linter.unusedSimpArgs false
namespace Go.Proofs.YtkknnbmmcmhngaaGreat
open Go Go.RowKit Ab

/-! ### Squares -/
def sqs (p : Nat) : List Int := mapL (p - 1) (fun i => (((i + 1) * (i + 1) % p : Nat) : Int))
def isSq (p d : Nat) : Bool := (List.range p).any fun a => a != 0 && a * a % p == d
def sqL (p : Nat) : List Int := mapL (p / 2) (fun i => if isSq p (i + 1) then 0 else 1)
theorem sq_mod {p a : Nat} (hp : 1 ≤ p ∧ p ≤ 17) (ha : a ≤ 17) : (w64 ((a : Int) * (a : Int))).tmod (p : Int) = ((a * a % p : Nat) : Int) := by
  have hb : a * a ≤ 17 * 17 := Nat.mul_le_mul ha ha
  have e1 : (a : Int) * (a : Int) = ((a * a : Nat) : Int) := by rw [Int.natCast_mul]
  rw [e1, w64_id (by omega), Int.tmod_eq_emod_of_nonneg (by omega)]
  rfl
theorem implSq_loop {k p : Nat} (hk : 20 ≤ k) (hp : 1 ≤ p ∧ p ≤ 17) : impl_BySquares_l0 p k 1 [] = some (sqs p) := by
  have := collect (fun K i s => impl_BySquares_l0 p K (i + 1) s) (p - 1) (fun i => (((i + 1) * (i + 1) % p : Nat) : Int)) (fun k' i s hi hs => by
    have hl : ∀ z : Int, s.length + ([z]).length ≤ 1099511627776 := fun z => by simp; omega
    have c1 : (i : Int) + 1 < (p : Int) := by omega
    have hq := sq_mod (p := p) hp (a := i + 1) (by omega)
    have hq' : (w64 (((i : Int) + 1) * ((i : Int) + 1))).tmod (p : Int) = (((i + 1) * (i + 1) % p : Nat) : Int) := hq
    show impl_BySquares_l0 p (k' + 1) ((i : Int) + 1) s = impl_BySquares_l0 p k' (((i + 1 : Nat) : Int) + 1) _
    rw [impl_BySquares_l0, hq', w64_id (n := (i : Int) + 1 + 1) (by omega), decide_eq_true c1, if_pos rfl, if_pos (by omega), if_pos (hl _)]
    rfl) (fun k' s => by
    show impl_BySquares_l0 p (k' + 1) (((p - 1 : Nat) : Int) + 1) s = _
    rw [impl_BySquares_l0, decide_eq_false (by omega)]
    rfl) k (by omega)
  exact this
theorem any_snoc (m : Nat) (P : Nat → Bool) : (List.range (m + 1)).any P = ((List.range m).any P || P m) := by
  rw [List.range_succ, List.any_append]; simp
theorem specSq_in {k p : Nat} (hk : 20 ≤ k) (hp : 1 ≤ p ∧ p ≤ 17) (d : Nat) : spec_l03Squares_l1 p d k 1 1 = some (if isSq p d then 0 else 1) := by
  have := loopI (f := fun k' i (c : Int) => spec_l03Squares_l1 p d k' c i) (p : Int) 1 (fun i c => i ≤ p ∧ c = if (List.range i.toNat).any (fun a => a != 0 && a * a % p == d) then 0 else 1) (fun r => r = if isSq p d then 0 else 1) ?_ ?_ k 1 (1 : Int) (by omega) (by omega) ⟨by omega, by rfl⟩
  · obtain ⟨r, e, rfl⟩ := this; exact e
  · intro k' i c h0 h1 ⟨_, q⟩
    left
    obtain ⟨a, rfl⟩ := nat_of (show 0 ≤ i by omega)
    have e0 : ((a : Int) + 1).toNat = a + 1 := by omega
    rw [Int.toNat_natCast] at q
    refine ⟨if a * a % p == d then 0 else c, ?_, by omega, ?_⟩
    · show spec_l03Squares_l1 p d (k' + 1) c a = _
      rw [spec_l03Squares_l1, sq_mod hp (by omega), w64_id (n := (a : Int) + 1) (by omega), decide_eq_true h1, if_pos rfl, if_pos (by omega)]
      by_cases e : a * a % p = d
      · rw [decide_eq_true (by omega), e]; simp
      · rw [decide_eq_false (by omega), beq_eq_false_iff_ne.2 e]; rfl
    · rw [e0, any_snoc, q]
      have : (a != 0) = true := bne_iff_ne.2 (by omega)
      rw [this, Bool.true_and]
      cases (a * a % p == d) <;> cases ((List.range a).any fun a => a != 0 && a * a % p == d) <;> rfl
  · intro k' i c h0 h1 ⟨q1, q⟩
    have : i = p := by omega
    subst this
    refine ⟨c, ?_, by rw [q, Int.toNat_natCast]; rfl⟩
    show spec_l03Squares_l1 p d (k' + 1) c (p : Int) = _
    rw [spec_l03Squares_l1, decide_eq_false (by omega)]; rfl
theorem specSq_loop {k p : Nat} (hk : 20 ≤ k) (hp : 1 ≤ p ∧ p ≤ 17) : spec_l03Squares_l0 k p k 1 [] = some (sqL p) := by
  have hh := halfI (n := p) (by omega)
  have := collect (fun K i s => spec_l03Squares_l0 k p K (i + 1) s) (p / 2) (fun i => if isSq p (i + 1) then 0 else 1) (fun k' i s hi hs => by
    have hl : ∀ z : Int, s.length + ([z]).length ≤ 1099511627776 := fun z => by simp; omega
    have c1 : (i : Int) + 1 ≤ ((p / 2 : Nat) : Int) := by omega
    have hq := specSq_in hk hp (i + 1)
    have hq' : spec_l03Squares_l1 p ((i : Int) + 1) k 1 1 = some (if isSq p (i + 1) then 0 else 1) := hq
    show spec_l03Squares_l0 k p (k' + 1) ((i : Int) + 1) s = spec_l03Squares_l0 k p k' (((i + 1 : Nat) : Int) + 1) _
    rw [spec_l03Squares_l0, hh, hq', w64_id (n := (i : Int) + 1 + 1) (by omega), decide_eq_true c1, if_pos rfl]
    simp only [Option.bind_some, hl, if_true]
    rfl) (fun k' s => by
    show spec_l03Squares_l0 k p (k' + 1) (((p / 2 : Nat) : Int) + 1) s = _
    rw [spec_l03Squares_l0, hh, decide_eq_false (by omega)]
    rfl) k (by omega)
  exact this
def sqC (p : Nat) : Col := cirC p 2 (sqL p)
theorem specSq_val {k p : Nat} (hk : 20 ≤ k) (hp : 2 ≤ p ∧ p ≤ 17) : spec_l03Squares k p = some (sqC p) := by
  unfold spec_l03Squares
  rw [specSq_loop hk (by omega)]
  simp only [Option.bind_some]
  rw [specCircular_val (by omega) (by omega) (by omega) 2 (L := sqL p) (by unfold sqL; rw [mapL_length]; exact Nat.le_refl _)]
  rfl
theorem sq_eq {p : Nat} (hp : p = 5 ∨ p = 13 ∨ p = 17) : mkC p 2 (fun a b => if inLn (sqs p) ((b : Int) - a) || inLn (sqs p) ((p : Int) - b + a) then 0 else 1) = sqC p := by
  unfold sqC cirC
  rcases hp with rfl | rfl | rfl
  · refine mkC_congr (by omega) _ ?_
    have : ∀ b : Nat, b < 5 → ∀ a : Nat, a < b → (if inLn (sqs 5) ((b : Int) - a) || inLn (sqs 5) (((5 : Nat) : Int) - b + a) then (0 : Int) else 1) = (sqL 5).getD (dst 5 a b - 1) 0 := by decide +kernel
    exact fun a b hab hb => this b hb a hab
  · refine mkC_congr (by omega) _ ?_
    have : ∀ b : Nat, b < 13 → ∀ a : Nat, a < b → (if inLn (sqs 13) ((b : Int) - a) || inLn (sqs 13) (((13 : Nat) : Int) - b + a) then (0 : Int) else 1) = (sqL 13).getD (dst 13 a b - 1) 0 := by decide +kernel
    exact fun a b hab hb => this b hb a hab
  · refine mkC_congr (by omega) _ ?_
    have : ∀ b : Nat, b < 17 → ∀ a : Nat, a < b → (if inLn (sqs 17) ((b : Int) - a) || inLn (sqs 17) (((17 : Nat) : Int) - b + a) then (0 : Int) else 1) = (sqL 17).getD (dst 17 a b - 1) 0 := by decide +kernel
    exact fun a b hab hb => this b hb a hab
theorem sq_same {k : Nat} (hk : 5000 ≤ k) (p : Int) : (impl_BySquares k p = some (noC, 2) ∧ spec_BySquares k p = some (noC, 2)) ∨ ((p = 5 ∨ p = 13 ∨ p = 17) ∧ impl_BySquares k p = some (sqC p.toNat, 0) ∧ spec_BySquares k p = some (sqC p.toNat, 0)) := by
  unfold impl_BySquares spec_BySquares
  by_cases h : p = 5 ∨ p = 13 ∨ p = 17
  · right
    obtain ⟨m, rfl⟩ := nat_of (show 0 ≤ p by omega)
    have hc : (if !decide ((m : Int) = 5) then (if !decide ((m : Int) = 13) then !decide ((m : Int) = 17) else false) else false) = false := by
      rcases h with h | h | h
      · rw [decide_eq_true h]; rfl
      · rw [decide_eq_true h, decide_eq_false (show ¬ (m : Int) = 5 by omega)]; rfl
      · rw [decide_eq_true h, decide_eq_false (show ¬ (m : Int) = 5 by omega), decide_eq_false (show ¬ (m : Int) = 13 by omega)]; rfl
    rw [hc]
    have e1 := implSq_loop (k := k) (p := m) (by omega) (by omega)
    have e2 := byDiff_val hk m (by omega) (sqs m) (by unfold sqs; rw [mapL_length]; omega)
    rw [sq_eq (by omega)] at e2
    have e3 := specSq_val (k := k) (p := m) (by omega) (by omega)
    rw [Int.toNat_natCast]
    refine ⟨h, ?_, ?_⟩
    · simp only [letO, Bool.false_eq_true, if_false, Option.bind_some, e1, e2]
    · simp only [letO, Bool.false_eq_true, if_false, Option.bind_some, e3]
  · left
    have hc : (if !decide (p = 5) then (if !decide (p = 13) then !decide (p = 17) else false) else false) = true := by
      rw [decide_eq_false (show ¬ p = 5 by omega), decide_eq_false (show ¬ p = 13 by omega), decide_eq_false (show ¬ p = 17 by omega)]; rfl
    rw [hc]
    exact ⟨rfl, rfl⟩
theorem sqL_range {p i : Nat} (hi : i < p / 2) : (sqL p).getD i 0 = 0 ∨ (sqL p).getD i 0 = 1 := by
  unfold sqL
  rw [mapL_get _ _ _ hi]
  split
  · exact .inl rfl
  · exact .inr rfl
theorem sq_cc {p : Nat} (hp : 2 ≤ p ∧ p ≤ 17) {a b : Nat} (ha : a < p) (hb : b < p) (hab : a ≠ b) : (sqC p).cc a b = (sqL p).getD (dst p a b - 1) 0 := by
  have key : ∀ a b : Nat, a < b → b < p → (sqC p).cc a b = (sqL p).getD (dst p a b - 1) 0 := fun a b hab hb => by
    have hd := dst_range (n := p) (a := a) (b := b) (by omega) hb (by omega)
    have := sqL_range (p := p) (i := dst p a b - 1) (by omega)
    exact mkC_cc (by omega) _ _ hab hb (by omega)
  rcases Nat.lt_or_ge a b with r | r
  · exact key a b r hb
  · rw [cc_comm, dst_comm]
    exact key b a (by omega) ha
theorem sq_is {p : Nat} (hp : 2 ≤ p ∧ p ≤ 17) : (sqC p).is := by
  refine mkC_is (by omega) (by omega) (by omega) _ fun a b hab hb => ?_
  have hd := dst_range (n := p) (a := a) (b := b) (by omega) hb (by omega)
  have := sqL_range (p := p) (i := dst p a b - 1) (by omega)
  omega
def sqE (p : Nat) : Col := mkC p 2 (fun a b => 1 - (sqC p).cc a b)
theorem sqE_is {p : Nat} (hp : 2 ≤ p ∧ p ≤ 17) : (sqE p).is := by
  refine mkC_is (by omega) (by omega) (by omega) _ fun a b hab hb => ?_
  have hd := dst_range (n := p) (a := a) (b := b) (by omega) hb (by omega)
  have := sqL_range (p := p) (i := dst p a b - 1) (by omega)
  rw [sq_cc hp (by omega) hb (by omega)]
  omega
theorem sqE_cc {p : Nat} (hp : 2 ≤ p ∧ p ≤ 17) {a b : Nat} (ha : a < p) (hb : b < p) (hab : a ≠ b) : (sqE p).cc a b = 1 - (sqC p).cc a b := by
  have key : ∀ a b : Nat, a < b → b < p → (sqE p).cc a b = 1 - (sqC p).cc a b := fun a b hab hb => by
    have hd := dst_range (n := p) (a := a) (b := b) (by omega) hb (by omega)
    have h1 := sqL_range (p := p) (i := dst p a b - 1) (by omega)
    have h2 := sq_cc hp (show a < p by omega) hb (by omega)
    exact mkC_cc (by omega) _ (fun a b => 1 - (sqC p).cc a b) hab hb (by omega)
  rcases Nat.lt_or_ge a b with r | r
  · exact key a b r hb
  · rw [cc_comm, cc_comm (sqC p)]
    exact key b a (by omega) ha
/-- The colours of a colouring by squares are exchanged by a turn. -/
theorem sq_turned {p : Nat} (hp : p = 5 ∨ p = 13 ∨ p = 17) (t : Nat) (ht : t = if p = 17 then 3 else 2) : isT p t ∧ ren (sqC p) (turnP p t) = sqE p := by
  have hp2 : 2 ≤ p ∧ p ≤ 17 := by omega
  have hT : isT p t := by
    subst ht
    rcases hp with rfl | rfl | rfl
    · exact ⟨by decide, by decide⟩
    · exact ⟨by decide, by decide⟩
    · exact ⟨by decide, by decide⟩
  have ho := turnP_ord (p := p) (by omega) hT
  refine ⟨hT, ren_eq (sq_is hp2) ho (sqE_is hp2) rfl rfl fun i j hij hj => ?_⟩
  have hj' : j < p := by
    have : (sqC p).p = (p : Int) := rfl
    omega
  rw [turnP_get (show i < p by omega), turnP_get hj']
  have hd := turn_dst p hp2.2 t (by have := hT.1; omega) hT.2 j hj' i hij
  have l1 := Nat.mod_lt (t * i) (show p > 0 by omega)
  have l2 := Nat.mod_lt (t * j) (show p > 0 by omega)
  have hr := dst_range (n := p) (a := i) (b := j) (by omega) hj' (by omega)
  rw [sqE_cc hp2 l1 l2 hd.2, sq_cc hp2 l1 l2 hd.2, sq_cc hp2 (by omega) hj' (by omega), hd.1]
  have key : ∀ d : Nat, 1 ≤ d → d ≤ p / 2 → 1 - (sqL p).getD (dst p 0 (t * d % p) - 1) 0 = (sqL p).getD (d - 1) 0 := by
    subst ht
    rcases hp with rfl | rfl | rfl
    · have : ∀ d : Nat, d < 3 → 1 ≤ d → 1 - (sqL 5).getD (dst 5 0 (2 * d % 5) - 1) 0 = (sqL 5).getD (d - 1) 0 := by decide +kernel
      exact fun d h1 h2 => this d (by omega) h1
    · have : ∀ d : Nat, d < 7 → 1 ≤ d → 1 - (sqL 13).getD (dst 13 0 (2 * d % 13) - 1) 0 = (sqL 13).getD (d - 1) 0 := by decide +kernel
      exact fun d h1 h2 => this d (by omega) h1
    · have : ∀ d : Nat, d < 9 → 1 ≤ d → 1 - (sqL 17).getD (dst 17 0 (3 * d % 17) - 1) 0 = (sqL 17).getD (d - 1) 0 := by decide +kernel
      exact fun d h1 h2 => this d (by omega) h1
  exact key _ hr.1 hr.2
theorem sq_exch {k p : Nat} (hk : 5000 ≤ k) (hp : 2 ≤ p ∧ p ≤ 17) : impl_ExchangeColours k (sqC p) [1, 0] = some (sqE p, 0) := by
  classical
  have hx := sq_is hp
  have ho : isOrd [1, 0] 2 := ⟨rfl, fun a ha => by
    have : a = 0 ∨ a = 1 := by simp at ha; omega
    rcases this with rfl | rfl <;> decide, fun a b hab hb => by
    have : a = 0 ∧ b = 1 := by simp at hb; omega
    rw [this.1, this.2]; decide⟩
  have hc : impl_ExchangeColours_c1 k [1, 0] (sqC p) = some true := by
    unfold impl_ExchangeColours_c1
    rw [show (sqC p).k = 2 from rfl, implOrder_eq k [1, 0] 2 (by simp; omega) (by simp), decide_eq_true ho]
    rfl
  unfold impl_ExchangeColours
  rw [hc, ((code_cases hk (sqC p)).1 hx).1]
  have e := recol_val hx (k := k) 2 (fun a0 => impl_ExchangeColours_c2 a0 [1, 0]) (fun c => 1 - c) (fun c h0 h1 => by
    have : (sqC p).k = 2 := rfl
    have : c = 0 ∨ c = 1 := by omega
    rcases this with rfl | rfl <;> rfl) (by omega)
  have e' : impl_Colouring_recoloured k (sqC p) (sqC p).k (fun a0 => impl_ExchangeColours_c2 a0 [1, 0]) = some (sqE p) := e
  simp only [decide_true, Bool.not_true, Bool.false_eq_true, if_false, Option.bind_some, e']

/-! ### Lists that have a number -/
theorem has_val {k : Nat} (l : List Int) (z : Int) (hk : l.length + 1 ≤ k) (hl : l.length ≤ 1000) (h : z ∈ l) : laws_hasInt k l z = some true := by
  unfold laws_hasInt
  have := loopI (f := fun k' i (_ : Unit) => laws_hasInt_l0 l z k' i) (l.length : Int) 0 (fun i _ => ∀ a : Nat, (a : Int) < i → l.getD a 0 ≠ z) (fun r => r = .inr true) ?_ ?_ k 0 () (by omega) (by omega) (fun a h => by omega)
  · obtain ⟨r, e, rfl⟩ := this
    rw [e]; rfl
  · intro k' i _ h0 h1 q
    obtain ⟨m, rfl⟩ := nat_of h0
    by_cases e : l.getD m 0 = z
    · right
      refine ⟨_, ?_, rfl⟩
      show laws_hasInt_l0 l z (k' + 1) m = _
      rw [laws_hasInt_l0, decide_eq_true h1, if_pos rfl, if_pos ⟨h0, h1⟩, Int.toNat_natCast, decide_eq_true e]
      rfl
    · left
      refine ⟨(), ?_, fun a ha => ?_⟩
      · show laws_hasInt_l0 l z (k' + 1) m = _
        rw [laws_hasInt_l0, w64_succ h0 h1 (by omega), decide_eq_true h1, if_pos rfl, if_pos ⟨h0, h1⟩, Int.toNat_natCast, decide_eq_false e]
        rfl
      · by_cases q2 : a = m
        · rw [q2]; exact e
        · exact q a (by omega)
  · intro k' i _ h0 h1 q
    obtain ⟨a, ha, e⟩ := mem_getD.1 h
    exact absurd e (q a (by omega))
end Go.Proofs.YtkknnbmmcmhngaaGreat
