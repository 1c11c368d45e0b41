/- Plain laws: stars and doubles. No conditions beyond those that each lemma states. -/
import Derived.Test.YtghhnpdhehjlaaaPureMat32
set_option linter.unusedVariables false
set_option linter.unusedSimpArgs false
namespace Go.Proofs.Ytghhnpdhehjlaaa
open Go Go.RowKit Ab

section
variable {x : Col} {c : Int} (hp : 1 ≤ x.p ∧ x.p ≤ 17)

theorem mem_nb (x : Col) (c : Int) (p : Nat) : mem (nb x c p) 0 x.p.toNat = (pts x).filter (aB x c p) := by
  unfold mem pts
  refine List.filter_congr fun a ha => ?_
  rw [mem_ir] at ha
  rw [nb_test, show ((a.toNat : Nat) : Int) = a by omega]
  simp; intro; omega
theorem nb_two (x : Col) (c : Int) (p : Nat) : nb x c p < 2 ^ x.p.toNat := bitsN_lt _ _

/-- The first point with the greatest degree among the first ones, and this. -/
def starAt (x : Col) (c : Int) : Nat → Int × Int
  | 0 => (0, -1)
  | i + 1 => if (starAt x c i).2 < (dgN x c i : Int) then ((i : Int), (dgN x c i : Int)) else starAt x c i
include hp
theorem star_val {k : Nat} (hk : 200 ≤ k) : impl_Colouring_star k x c = some (starAt x c x.p.toNat) := by
  unfold impl_Colouring_star
  rw [degrees_val x hp (by omega) c, Option.bind_some]
  have hl : (mapL x.p.toNat fun a => (dgN x c a : Int)).length = x.p.toNat := mapL_length _ _
  obtain ⟨r, h1, rfl⟩ := loopI (fun k' i (σ : Int × Int) => impl_Colouring_star_l0 (mapL x.p.toNat fun a => (dgN x c a : Int)) k' σ.1 σ.2 i) x.p 0
    (fun i σ => ∃ im : Nat, i = im ∧ im ≤ x.p.toNat ∧ σ = starAt x c im) (fun r => r = starAt x c x.p.toNat)
    (fun k' i σ h0 h1 hI => by
      obtain ⟨im, rfl, him, rfl⟩ := hI
      left
      rw [impl_Colouring_star_l0, hl, decide_eq_true (by omega), if_pos rfl, if_pos (by omega), show (im : Int).toNat = im by omega, mapL_get _ _ _ (by omega), w64_id (by omega)]
      refine ⟨starAt x c (im + 1), ?_, im + 1, by omega, by omega, rfl⟩
      rw [starAt]
      by_cases h : (starAt x c im).2 < (dgN x c im : Int)
      · simp [h]
      · simp [h])
    (fun k' i σ h0 h1 hI => by
      obtain ⟨im, rfl, him, rfl⟩ := hI
      rw [impl_Colouring_star_l0, hl, decide_eq_false (by omega), if_neg (by simp)]
      have : im = x.p.toNat := by omega
      subst this
      exact ⟨_, rfl, rfl⟩)
    k 0 (0, -1) (by omega) (by omega) ⟨0, rfl, by omega, rfl⟩
  try simp only at h1
  rw [h1]; rfl
theorem sstar_val {k : Nat} (hk : 200 ≤ k) : spec_l04Star k x c = some (starAt x c x.p.toNat) := by
  unfold spec_l04Star
  obtain ⟨r, h1, rfl⟩ := loopI (fun k' i (σ : Int × Int) => spec_l04Star_l0 k x c k' σ.2 σ.1 i) x.p 0
    (fun i σ => ∃ im : Nat, i = im ∧ im ≤ x.p.toNat ∧ σ = starAt x c im) (fun r => r = ((starAt x c x.p.toNat).2, (starAt x c x.p.toNat).1))
    (fun k' i σ h0 h1 hI => by
      obtain ⟨im, rfl, him, rfl⟩ := hI
      left
      have hn : x.p.toNat ≤ 60 := by omega
      rw [spec_l04Star_l0, decide_eq_true (show (im : Int) < x.p from h1), if_pos rfl, around_nb k x hp (by omega) c im h1, Option.bind_some, ones_val (by omega) hn (nb_two x c im), Option.bind_some, w64_id (by omega), mem_nb]
      refine ⟨starAt x c (im + 1), ?_, im + 1, by omega, by omega, rfl⟩
      rw [starAt]
      by_cases h : (starAt x c im).2 < (dgN x c im : Int)
      · have h' := h
        unfold dgN at h'
        simp only [h, if_true]
        rw [decide_eq_true h', if_pos rfl]; rfl
      · have h' := h
        unfold dgN at h'
        simp only [h, if_false]
        rw [decide_eq_false h', if_neg (by simp)]; rfl)
    (fun k' i σ h0 h1 hI => by
      obtain ⟨im, rfl, him, rfl⟩ := hI
      rw [spec_l04Star_l0, decide_eq_false (show ¬ (im : Int) < x.p by omega), if_neg (by simp)]
      have : im = x.p.toNat := by omega
      subst this
      exact ⟨_, rfl, rfl⟩)
    k 0 (0, -1) (by omega) (by omega) ⟨0, rfl, by omega, rfl⟩
  try simp only at h1
  rw [h1]; rfl

/-! ### Doubles -/
omit hp
def cmN (x : Col) (c i j : Int) : Nat := ((pts x).filter fun p => aB x c i p && aB x c j p).length
def dbS (x : Col) (c : Int) (book : Bool) (i : Int) (σ : List Int × Int) (j : Int) : List Int × Int :=
  if (book = true → aB x c i j = true) ∧ σ.2 < (cmN x c i j : Int) then ([i, j], (cmN x c i j : Int)) else σ
def dbI (x : Col) (c : Int) (book : Bool) (σ : List Int × Int) (i : Int) : List Int × Int := (ir (i.toNat + 1) x.p.toNat).foldl (dbS x c book i) σ
def dbl (x : Col) (c : Int) (book : Bool) : List Int × Int := (ir 0 x.p.toNat).foldl (dbI x c book) ([], -1)

include hp
theorem double_in {k : Nat} (hk : 200 ≤ k) (book : Bool) (i : Nat) (hi : (i : Int) < x.p) (σ : List Int × Int) : impl_Colouring_double_l1 k x c book (i : Int) k σ.1 σ.2 (w64 ((i : Int) + 1)) = some (dbI x c book σ i) := by
  obtain ⟨r, h1, rfl⟩ := loopI (fun k' j (τ : List Int × Int) => impl_Colouring_double_l1 k x c book (i : Int) k' τ.1 τ.2 j) x.p ((i + 1 : Nat) : Int)
    (fun j τ => ∃ jn : Nat, j = jn ∧ jn ≤ x.p.toNat ∧ (ir jn x.p.toNat).foldl (dbS x c book i) τ = dbI x c book σ i) (fun r => r = dbI x c book σ i)
    (fun k' j τ h0 h1 hI => by
      obtain ⟨jn, rfl, hj, hf⟩ := hI
      left
      have hjn : jn < x.p.toNat := by omega
      rw [ir_next hjn, List.foldl_cons] at hf
      refine ⟨dbS x c book i τ jn, ?_, jn + 1, by omega, by omega, hf⟩
      have hth := that_val (k := k) x hp (by omega) (fun a0 => impl_Colouring_double_c1 a0 x (i : Int) c (jn : Int)) (fun a => aB x c i a && aB x c jn a) (fun a ha => by
        unfold impl_Colouring_double_c1
        rw [joins_val x c i a (by omega) (by omega), joins_val x c jn a (by omega) (by omega)]
        cases aB x c (i : Int) (a : Int) <;> simp)
      rw [impl_Colouring_double_l1, decide_eq_true (show (jn : Int) < x.p from h1), if_pos rfl, joins_val x c i jn (by omega) (by omega), w64_id (by omega), hth]
      simp only [Option.bind_some]
      have hsz : impl_size ((ir 0 x.p.toNat).filter fun a => aB x c i a && aB x c jn a) = (cmN x c i jn : Int) := rfl
      rw [hsz]
      unfold dbS
      cases book with
      | false =>
        by_cases h : τ.2 < (cmN x c i jn : Int)
        · simp [h]
        · simp [h]
      | true =>
        cases ha : aB x c (i : Int) (jn : Int) with
        | false => simp
        | true =>
          by_cases h : τ.2 < (cmN x c i jn : Int)
          · simp [h]
          · simp [h])
    (fun k' j τ h0 h1 hI => by
      obtain ⟨jn, rfl, hj, hf⟩ := hI
      rw [impl_Colouring_double_l1, decide_eq_false (show ¬ (jn : Int) < x.p by omega), if_neg (by simp)]
      rw [ir_end (by omega)] at hf
      exact ⟨_, rfl, hf⟩)
    k ((i + 1 : Nat) : Int) σ (by omega) (by omega) ⟨i + 1, rfl, by omega, rfl⟩
  try simp only at h1
  rw [← h1, w64_id (by omega)]; rfl
theorem double_val {k : Nat} (hk : 200 ≤ k) (book : Bool) : impl_Colouring_double k x c book = some (dbl x c book) := by
  unfold impl_Colouring_double
  obtain ⟨r, h1, rfl⟩ := loopI (fun k' i (τ : List Int × Int) => impl_Colouring_double_l0 k x c book k' τ.1 τ.2 i) x.p 0
    (fun i τ => ∃ im : Nat, i = im ∧ im ≤ x.p.toNat ∧ (ir im x.p.toNat).foldl (dbI x c book) τ = dbl x c book) (fun r => r = dbl x c book)
    (fun k' i τ h0 h1 hI => by
      obtain ⟨im, rfl, him, hf⟩ := hI
      left
      rw [ir_next (by omega), List.foldl_cons] at hf
      refine ⟨_, ?_, im + 1, by omega, by omega, hf⟩
      rw [impl_Colouring_double_l0, decide_eq_true (show (im : Int) < x.p from h1), if_pos rfl, double_in hp hk book im h1 τ, w64_id (by omega)]
      rfl)
    (fun k' i τ h0 h1 hI => by
      obtain ⟨im, rfl, him, hf⟩ := hI
      rw [impl_Colouring_double_l0, decide_eq_false (show ¬ (im : Int) < x.p by omega), if_neg (by simp)]
      rw [ir_end (by omega)] at hf
      exact ⟨_, rfl, hf⟩)
    k 0 ([], -1) (by omega) (by omega) ⟨0, rfl, by omega, rfl⟩
  try simp only at h1
  rw [h1]; rfl
theorem sdouble_in {k : Nat} (hk : 200 ≤ k) (book : Bool) (i : Nat) (hi : (i : Int) < x.p) (σ : List Int × Int) : spec_l04Double_l1 k x book (rws x c x.p.toNat) (i : Int) k σ.2 (w64 ((i : Int) + 1)) σ.1 = some ((dbI x c book σ i).2, (dbI x c book σ i).1) := by
  have hn : x.p.toNat ≤ 60 := by omega
  have hrl : (rws x c x.p.toNat).length = x.p.toNat := rws_length ..
  obtain ⟨r, h1, rfl⟩ := loopI (fun k' j (τ : List Int × Int) => spec_l04Double_l1 k x book (rws x c x.p.toNat) (i : Int) k' τ.2 j τ.1) x.p ((i + 1 : Nat) : Int)
    (fun j τ => ∃ jn : Nat, j = jn ∧ jn ≤ x.p.toNat ∧ (ir jn x.p.toNat).foldl (dbS x c book i) τ = dbI x c book σ i) (fun r => r = ((dbI x c book σ i).2, (dbI x c book σ i).1))
    (fun k' j τ h0 h1 hI => by
      obtain ⟨jn, rfl, hj, hf⟩ := hI
      left
      have hjn : jn < x.p.toNat := by omega
      rw [ir_next hjn, List.foldl_cons] at hf
      refine ⟨dbS x c book i τ jn, ?_, jn + 1, by omega, by omega, hf⟩
      have hc : mem (nb x c i &&& nb x c jn) 0 x.p.toNat = (pts x).filter fun p => aB x c i p && aB x c jn p := by
        unfold mem pts
        refine List.filter_congr fun a ha => ?_
        rw [mem_ir] at ha
        rw [Nat.testBit_and, nb_test, nb_test, show ((a.toNat : Nat) : Int) = a by omega, decide_eq_true (show a.toNat < x.p.toNat by omega), Bool.true_and, Bool.true_and]
      have hA : (if 0 ≤ (i : Int) ∧ (i : Int) < ((rws x c x.p.toNat).length : Int) then (if 0 ≤ IntKind.u64.wrap (jn : Int) then some (decide (bAnd .i64 (bShr .i64 ((nb x c i : Nat) : Int) (IntKind.u64.wrap (jn : Int))) 1 = 1)) else none) else none) = some (aB x c (i : Int) (jn : Int)) := by
        rw [if_pos (by omega), u64n (by omega), if_pos (by omega), bit1 (nb_lt x hp c i) (by omega), nb_test, decide_eq_true hjn, Bool.true_and]
      have hon := ones_val (k := k) (by omega) hn (Nat.lt_of_le_of_lt Nat.and_le_left (nb_two x c i) : nb x c i &&& nb x c jn < 2 ^ x.p.toNat)
      rw [hc] at hon
      rw [spec_l04Double_l1, decide_eq_true (show (jn : Int) < x.p from h1), if_pos rfl, if_pos (by omega), if_pos (by omega), show (i : Int).toNat = i by omega, show (jn : Int).toNat = jn by omega, rws_get x c _ _ (by omega), rws_get x c _ _ (by omega), bAnd_nat (nb_lt x hp c i) (nb_lt x hp c jn), hon, Option.bind_some, hA, w64_id (by omega)]
      have hsz : (((pts x).filter fun p => aB x c i p && aB x c jn p).length : Int) = (cmN x c i jn : Int) := rfl
      rw [hsz]
      unfold dbS
      by_cases h : τ.2 < (cmN x c i jn : Int)
      · cases book with
        | false => simp [h]
        | true =>
          cases ha : aB x c (i : Int) (jn : Int) with
          | false => simp [h]
          | true => simp [h]
      · cases book <;> simp [h])
    (fun k' j τ h0 h1 hI => by
      obtain ⟨jn, rfl, hj, hf⟩ := hI
      rw [spec_l04Double_l1, decide_eq_false (show ¬ (jn : Int) < x.p by omega), if_neg (by simp)]
      rw [ir_end (by omega)] at hf
      refine ⟨_, rfl, ?_⟩
      rw [← hf]; rfl)
    k ((i + 1 : Nat) : Int) σ (by omega) (by omega) ⟨i + 1, rfl, by omega, rfl⟩
  try simp only at h1
  rw [← h1, w64_id (by omega)]; rfl
theorem sdouble_val {k : Nat} (hk : 5000 ≤ k) (book : Bool) : spec_l04Double k x c book = some (dbl x c book) := by
  unfold spec_l04Double
  rw [rows_val hk x hp c, Option.bind_some]
  obtain ⟨r, h1, rfl⟩ := loopI (fun k' i (τ : List Int × Int) => spec_l04Double_l0 k x book (rws x c x.p.toNat) k' τ.2 i τ.1) x.p 0
    (fun i τ => ∃ im : Nat, i = im ∧ im ≤ x.p.toNat ∧ (ir im x.p.toNat).foldl (dbI x c book) τ = dbl x c book) (fun r => r = ((dbl x c book).2, (dbl x c book).1))
    (fun k' i τ h0 h1 hI => by
      obtain ⟨im, rfl, him, hf⟩ := hI
      left
      rw [ir_next (by omega), List.foldl_cons] at hf
      refine ⟨_, ?_, im + 1, by omega, by omega, hf⟩
      rw [spec_l04Double_l0, decide_eq_true (show (im : Int) < x.p from h1), if_pos rfl, sdouble_in hp (by omega) book im h1 τ, w64_id (by omega)]
      rfl)
    (fun k' i τ h0 h1 hI => by
      obtain ⟨im, rfl, him, hf⟩ := hI
      rw [spec_l04Double_l0, decide_eq_false (show ¬ (im : Int) < x.p by omega), if_neg (by simp)]
      rw [ir_end (by omega)] at hf
      refine ⟨_, rfl, ?_⟩
      rw [← hf]; rfl)
    k 0 ([], -1) (by omega) (by omega) ⟨0, rfl, by omega, rfl⟩
  try simp only at h1
  rw [h1]; rfl
end
end Go.Proofs.Ytghhnpdhehjlaaa
