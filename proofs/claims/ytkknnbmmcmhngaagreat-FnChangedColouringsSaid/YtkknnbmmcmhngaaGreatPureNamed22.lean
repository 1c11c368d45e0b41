/- Plain laws of chapter 1: colourings by name. No conditions beyond those that each lemma states. -/
import Derived.Test.YtkknnbmmcmhngaaGreatPureSame22
set_option linter.unusedVariables false
set_option linter.unusedSimpArgs false
namespace Go.Proofs.YtkknnbmmcmhngaaGreat
open Go Go.RowKit Ab

def inLn (l : List Int) (z : Int) : Bool := l.any fun u => decide (u = z)
theorem inLn_iff {l : List Int} {z : Int} : (∃ a, a < l.length ∧ l.getD a 0 = z) ↔ inLn l z = true := by
  unfold inLn
  rw [List.any_eq_true]
  constructor
  · intro h
    exact ⟨z, mem_getD.2 h, by simp⟩
  · rintro ⟨u, hu, e⟩
    have : u = z := by simpa using e
    subst this
    exact mem_getD.1 hu
theorem circle_l2 {k : Nat} (l : List Int) (hl : l.length ≤ 1000) (hk : 5000 ≤ k) (j i : Int) (hji : -1000 ≤ j - i ∧ j - i ≤ 1000) : spec_l01Circle_l2 l j i k 1 0 = some (if inLn l (j - i) then 0 else 1) := by
  have := loopI (f := fun k' t (b : UInt8) => spec_l01Circle_l2 l j i k' b t) (l.length : Int) 0 (fun t b => t ≤ l.length ∧ b = if inLn (l.take t.toNat) (j - i) then 0 else 1) (fun r => r = if inLn l (j - i) then 0 else 1) ?_ ?_ k 0 (1 : UInt8) (by omega) (by omega) ⟨by omega, by simp [inLn]⟩
  · obtain ⟨r, e, rfl⟩ := this
    exact e
  · intro k3 t b t0 t1 ⟨_, q⟩
    left
    obtain ⟨m, rfl⟩ := nat_of t0
    have e0 : ((m : Int) + 1).toNat = m + 1 := by omega
    simp only [Int.toNat_natCast] at q
    have hm : m < l.length := by omega
    have hg : l.getD m 0 = l[m] := by simp [List.getD, hm]
    have ht : l.take (m + 1) = l.take m ++ [l.getD m 0] := by
      rw [List.take_add_one, List.getElem?_eq_getElem hm, hg]; rfl
    refine ⟨if decide (l.getD m 0 = j - i) then 0 else b, ?_, by omega, ?_⟩
    · show spec_l01Circle_l2 l j i (k3 + 1) b m = _
      rw [spec_l01Circle_l2, w64_succ t0 t1 (by omega), w64_id (n := j - i) (by omega)]
      by_cases hc : l.getD m 0 = j - i
      · simp only [t1, t0, decide_true, if_true, and_self, Int.toNat_natCast, hc, Option.bind_some]
      · simp only [t1, t0, decide_true, if_true, and_self, Int.toNat_natCast, hc, decide_false, Bool.false_eq_true, if_false, Option.bind_some]
    · rw [e0, ht]
      unfold inLn at q ⊢
      rw [List.any_append, q]
      by_cases hc : l.getD m 0 = j - i
      · have : [l.getD m 0].any (fun u => decide (u = j - i)) = true := by simp only [List.any_cons, List.any_nil, Bool.or_false, hc, decide_true]
        rw [this, decide_eq_true hc]; simp
      · have : [l.getD m 0].any (fun u => decide (u = j - i)) = false := by simp only [List.any_cons, List.any_nil, Bool.or_false, hc, decide_false]
        rw [this, decide_eq_false hc]; simp
  · intro k3 t b t0 t1 ⟨q1, q⟩
    have : t = l.length := by omega
    subst this
    refine ⟨b, ?_, by rw [q, Int.toNat_natCast, List.take_length]⟩
    show spec_l01Circle_l2 l j i (k3 + 1) b (l.length : Int) = _
    rw [spec_l01Circle_l2]; simp
theorem circle_val {k : Nat} (hk : 5000 ≤ k) (n : Nat) (hn : 1 ≤ n ∧ n ≤ 17) (l : List Int) (hl : l.length ≤ 1000) : spec_l01Circle k n l = some (mkC n 2 (fun a b => if inLn l ((b : Int) - a) then 0 else 1)) := by
  unfold spec_l01Circle
  have := nest (fun k' j s => spec_l01Circle_l0 k n l k' j s) n hn.2 (fun a b => if inLn l ((b : Int) - a) then 0 else 1) 2
    (fun k' j s hj q1 q2 q3 => by
      obtain ⟨y, e, r⟩ := nest1 (fun K i s => spec_l01Circle_l1 k l j K i s) n hn.2 (fun a b => if inLn l ((b : Int) - a) then 0 else 1) j hj 2
        (fun k' i s hi _ _ => by
          have he := edge_eq (i : Int) (j : Int) (by omega) (by omega)
          simp only [Int.toNat_natCast] at he
          have h136 := eN_136 (i := i) (j := j) (by omega) (by omega) (by omega)
          have c1 : (i : Int) < (j : Int) := by omega
          have c4 : ((eN i j : Nat) : Int) < 136 := by omega
          show spec_l01Circle_l1 k l j (k' + 1) i s = spec_l01Circle_l1 k l j k' ((i + 1 : Nat) : Int) _
          rw [spec_l01Circle_l1, he, w64_id (n := (i : Int) + 1) (by omega), circle_l2 l hl hk j i (by omega)]
          simp only [Int.toNat_natCast, c1, c4, decide_true, if_true, Int.natCast_nonneg, and_self, Option.bind_some]
          congr 2
          split <;> rfl)
        (fun k' s => by
          show spec_l01Circle_l1 k l j (k' + 1) j s = _
          rw [spec_l01Circle_l1]; simp) j 0 k s (by omega) (by omega) q1 q2 q3
      refine ⟨y, r, ?_⟩
      have c1 : (j : Int) < (n : Int) := by omega
      show spec_l01Circle_l0 k n l (k' + 1) j s = spec_l01Circle_l0 k n l k' ((j + 1 : Nat) : Int) y
      have e' : spec_l01Circle_l1 k l j k 0 s = some y := e
      rw [spec_l01Circle_l0, e', w64_id (n := (j : Int) + 1) (by omega)]
      simp only [c1, decide_true, if_true, Option.bind_some]
      rfl)
    (fun k' s q1 => by
      show spec_l01Circle_l0 k n l (k' + 1) (n : Int) s = _
      rw [spec_l01Circle_l0]; simp) k 1 (by omega) hn.1 (by omega)
  have e' : spec_l01Circle_l0 k n l k 1 ⟨(n : Int), 2, B136.zero⟩ = some (mkC n 2 (fun a b => if inLn l ((b : Int) - a) then 0 else 1)) := this
  rw [e']; rfl
theorem byDiff_val {k : Nat} (hk : 5000 ≤ k) (n : Nat) (hn : 1 ≤ n ∧ n ≤ 17) (l : List Int) (hl : l.length ≤ 1000) : impl_byDifference k n l = some (mkC n 2 (fun a b => if inLn l ((b : Int) - a) || inLn l ((n : Int) - b + a) then 0 else 1)) := by
  unfold impl_byDifference
  have hcon : ∀ z : Int, slices_Contains k l z = some (inLn l z) := fun z => by
    rw [index_eq k l z (by omega) (by omega)]
    congr 1
    by_cases h : inLn l z = true
    · rw [h, decide_eq_true (inLn_iff.2 h)]
    · have : inLn l z = false := by simpa using h
      rw [this, decide_eq_false (fun q => h (inLn_iff.1 q))]
  rw [made_val (g := fun a b => if inLn l ((b : Int) - a) || inLn l ((n : Int) - b + a) then 0 else 1) hn.2 (by omega) fun i j hij hj => by
    unfold impl_byDifference_c1
    rw [w64_id (n := (j : Int) - i) (by omega), w64_id (n := (n : Int) - j) (by omega), w64_id (n := (n : Int) - j + i) (by omega), hcon, hcon]
    cases h1 : inLn l ((j : Int) - i) <;> cases h2 : inLn l ((n : Int) - j + i) <;> rfl]
  rfl
def sixL : List UInt8 := [0, 0, 1, 1, 2, 2, 2, 1, 0, 2, 0, 1, 0, 1, 2, 0]
def sixG (a b : Nat) : Int := ((sixL.getD (bXor .i64 (a : Int) b).toNat 0).toNat : Int)
theorem six_spec {k : Nat} (hk : 5000 ≤ k) : spec_l01Named_l0 k k 1 ⟨16, 3, B136.zero⟩ = some (mkC 16 3 sixG) := by
  have hx : ∀ j : Nat, j < 16 → ∀ i : Nat, i < 16 → 0 ≤ bXor .i64 (i : Int) (j : Int) ∧ bXor .i64 (i : Int) (j : Int) < 16 := by decide +kernel
  exact nest (fun k' j s => spec_l01Named_l0 k k' j s) 16 (by omega) sixG 3
    (fun k' j s hj q1 q2 q3 => by
      obtain ⟨y, e, r⟩ := nest1 (fun K i s => spec_l01Named_l1 j K i s) 16 (by omega) sixG j hj 3
        (fun k' i s hi _ _ => by
          have he := edge_eq (i : Int) (j : Int) (by omega) (by omega)
          simp only [Int.toNat_natCast] at he
          have h136 := eN_136 (i := i) (j := j) (by omega) (by omega) (by omega)
          have c1 : (i : Int) < (j : Int) := by omega
          have c4 : ((eN i j : Nat) : Int) < 136 := by omega
          have c5 := hx j hj i (by omega)
          show spec_l01Named_l1 j (k' + 1) i s = spec_l01Named_l1 j k' ((i + 1 : Nat) : Int) _
          rw [spec_l01Named_l1, he, w64_id (n := (i : Int) + 1) (by omega), decide_eq_true c1, if_pos rfl, if_pos ⟨c5.1, c5.2⟩, if_pos ⟨Int.natCast_nonneg _, c4⟩]
          unfold sixG
          rw [tb, Int.toNat_natCast]
          rfl)
        (fun k' s => by
          show spec_l01Named_l1 j (k' + 1) j s = _
          rw [spec_l01Named_l1]; simp) j 0 k s (by omega) (by omega) q1 q2 q3
      refine ⟨y, r, ?_⟩
      have c1 : (j : Int) < 16 := by omega
      show spec_l01Named_l0 k (k' + 1) j s = spec_l01Named_l0 k k' ((j + 1 : Nat) : Int) y
      have e' : spec_l01Named_l1 j k 0 s = some y := e
      rw [spec_l01Named_l0, e', w64_id (n := (j : Int) + 1) (by omega)]
      simp only [c1, decide_true, if_true, Option.bind_some]
      rfl)
    (fun k' s q1 => by
      show spec_l01Named_l0 k (k' + 1) ((16 : Nat) : Int) s = _
      rw [spec_l01Named_l0]; rfl) k 1 (by omega) (by omega) (by omega)
theorem six_impl {k : Nat} (hk : 5000 ≤ k) : impl_made k 16 3 (fun a0 a1 => impl_named_c1 a0 a1) = some (mkC 16 3 sixG) := by
  have h : ∀ j : Nat, j < 16 → ∀ i : Nat, i < j → impl_named_c1 (i : Int) (j : Int) = some (sixG i j) := by decide +kernel
  exact made_val (n := 16) (by omega) (by omega) fun i j hij hj => h j hj i hij
theorem named_same {k : Nat} (hk : 5000 ≤ k) (s : ByteArray) : ∃ r, impl_NamedColouring k s = some r ∧ spec_NamedColouring k s = some r := by
  unfold impl_NamedColouring spec_NamedColouring impl_named spec_l01Named
  have e5 : spec_l01Circle k 5 [1, 4] = impl_byDifference k 5 [1] := by
    have h1 := circle_val hk 5 (by omega) [1, 4] (by simp)
    have h2 := byDiff_val hk 5 (by omega) [1] (by simp)
    refine h1.trans (Eq.trans ?_ h2.symm)
    refine congrArg some (mkC_congr (by omega) _ ?_)
    have : ∀ b : Nat, b < 5 → ∀ a : Nat, a < b → (if inLn [1, 4] ((b : Int) - (a : Nat)) then (0 : Int) else 1) = if inLn [1] ((b : Int) - (a : Nat)) || inLn [1] ((5 : Nat) - (b : Int) + (a : Nat)) then 0 else 1 := by decide +kernel
    exact fun a b hab hb => this b hb a hab
  have e8 : spec_l01Circle k 8 [1, 4, 7] = impl_byDifference k 8 [1, 4] := by
    have h1 := circle_val hk 8 (by omega) [1, 4, 7] (by simp)
    have h2 := byDiff_val hk 8 (by omega) [1, 4] (by simp)
    refine h1.trans (Eq.trans ?_ h2.symm)
    refine congrArg some (mkC_congr (by omega) _ ?_)
    have : ∀ b : Nat, b < 8 → ∀ a : Nat, a < b → (if inLn [1, 4, 7] ((b : Int) - (a : Nat)) then (0 : Int) else 1) = if inLn [1, 4] ((b : Int) - (a : Nat)) || inLn [1, 4] ((8 : Nat) - (b : Int) + (a : Nat)) then 0 else 1 := by decide +kernel
    exact fun a b hab hb => this b hb a hab
  have e13 : spec_l01Circle k 13 [1, 5, 8, 12] = impl_byDifference k 13 [1, 5] := by
    have h1 := circle_val hk 13 (by omega) [1, 5, 8, 12] (by simp)
    have h2 := byDiff_val hk 13 (by omega) [1, 5] (by simp)
    refine h1.trans (Eq.trans ?_ h2.symm)
    refine congrArg some (mkC_congr (by omega) _ ?_)
    have : ∀ b : Nat, b < 13 → ∀ a : Nat, a < b → (if inLn [1, 5, 8, 12] ((b : Int) - (a : Nat)) then (0 : Int) else 1) = if inLn [1, 5] ((b : Int) - (a : Nat)) || inLn [1, 5] ((13 : Nat) - (b : Int) + (a : Nat)) then 0 else 1 := by decide +kernel
    exact fun a b hab hb => this b hb a hab
  have e17 : spec_l01Circle k 17 [1, 2, 4, 8, 9, 13, 15, 16] = impl_byDifference k 17 [1, 2, 4, 8] := by
    have h1 := circle_val hk 17 (by omega) [1, 2, 4, 8, 9, 13, 15, 16] (by simp)
    have h2 := byDiff_val hk 17 (by omega) [1, 2, 4, 8] (by simp)
    refine h1.trans (Eq.trans ?_ h2.symm)
    refine congrArg some (mkC_congr (by omega) _ ?_)
    have : ∀ b : Nat, b < 17 → ∀ a : Nat, a < b → (if inLn [1, 2, 4, 8, 9, 13, 15, 16] ((b : Int) - (a : Nat)) then (0 : Int) else 1) = if inLn [1, 2, 4, 8] ((b : Int) - (a : Nat)) || inLn [1, 2, 4, 8] ((17 : Nat) - (b : Int) + (a : Nat)) then 0 else 1 := by decide +kernel
    exact fun a b hab hb => this b hb a hab
  rw [six_spec hk, six_impl hk, e5, e8, e13, e17]
  have b5 := byDiff_val hk 5 (by omega) [1] (by simp)
  have b8 := byDiff_val hk 8 (by omega) [1, 4] (by simp)
  have b13 := byDiff_val hk 13 (by omega) [1, 5] (by simp)
  have b17 := byDiff_val hk 17 (by omega) [1, 2, 4, 8] (by simp)
  by_cases h1 : (s == (⟨#[112, 101, 110, 116, 97, 103, 111, 110]⟩ : ByteArray)) = true
  · rw [if_pos h1, if_pos h1]
    exact ⟨_, by rw [show impl_byDifference k 5 [1] = _ from b5]; rfl, by rw [show impl_byDifference k 5 [1] = _ from b5]; rfl⟩
  rw [if_neg h1, if_neg h1]
  by_cases h2 : (s == (⟨#[101, 105, 103, 104, 116]⟩ : ByteArray)) = true
  · rw [if_pos h2, if_pos h2]
    exact ⟨_, by rw [show impl_byDifference k 8 [1, 4] = _ from b8]; rfl, by rw [show impl_byDifference k 8 [1, 4] = _ from b8]; rfl⟩
  rw [if_neg h2, if_neg h2]
  by_cases h3 : (s == (⟨#[116, 104, 105, 114, 116, 101, 101, 110]⟩ : ByteArray)) = true
  · rw [if_pos h3, if_pos h3]
    exact ⟨_, by rw [show impl_byDifference k 13 [1, 5] = _ from b13]; rfl, by rw [show impl_byDifference k 13 [1, 5] = _ from b13]; rfl⟩
  rw [if_neg h3, if_neg h3]
  by_cases h4 : (s == (⟨#[115, 101, 118, 101, 110, 116, 101, 101, 110]⟩ : ByteArray)) = true
  · rw [if_pos h4, if_pos h4]
    exact ⟨_, by rw [show impl_byDifference k 17 [1, 2, 4, 8] = _ from b17]; rfl, by rw [show impl_byDifference k 17 [1, 2, 4, 8] = _ from b17]; rfl⟩
  rw [if_neg h4, if_neg h4]
  by_cases h5 : (s == (⟨#[115, 105, 120, 116, 101, 101, 110]⟩ : ByteArray)) = true
  · rw [if_pos h5, if_pos h5]
    exact ⟨_, rfl, rfl⟩
  rw [if_neg h5, if_neg h5]
  exact ⟨_, rfl, rfl⟩
end Go.Proofs.YtkknnbmmcmhngaaGreat
