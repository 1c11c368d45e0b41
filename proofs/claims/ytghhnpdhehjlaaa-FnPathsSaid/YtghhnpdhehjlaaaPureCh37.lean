/- Plain laws: the greatest matching, as the program and as the reference finds it. No conditions beyond those that each lemma states. -/
import Derived.Test.YtghhnpdhehjlaaaPureCore37
import Derived.Test.YtghhnpdhehjlaaaMat
import Derived.Test.YtghhnpdhehjlaaaPath
import Derived.Test.YtghhnpdhehjlaaaCyc
set_option linter.unusedVariables false
set_option linter.unusedSimpArgs false
namespace Go.Proofs.Ytghhnpdhehjlaaa
open Go Go.RowKit Ab

theorem joins_val (x : Col) (c : Int) (i j : Int) (hi : 0 ≤ i ∧ i < 17) (hj : 0 ≤ j ∧ j < 17) : impl_Colouring_joins x i j c = some (aB x c i j) := by
  unfold impl_Colouring_joins aB
  by_cases e : i = j
  · rw [decide_eq_true e]
    have : ¬ (i ≠ j ∧ x.cc i j = c) := fun h => h.1 e
    rw [decide_eq_false this]
    simp
  · rw [decide_eq_false e, implAt_ne x i j (by omega) (by omega) (by omega) (by omega) e]
    simp [e]

theorem bit0 {s j : Nat} (hs : s < 2 ^ 63) (hj : j ≤ 64) : decide (bAnd .i64 (bShr .i64 (s : Int) (j : Int)) 1 = 0) = !s.testBit j := by
  rw [bit_eq hs hj]; cases s.testBit j <;> rfl
theorem bit1 {s j : Nat} (hs : s < 2 ^ 63) (hj : j ≤ 64) : decide (bAnd .i64 (bShr .i64 (s : Int) (j : Int)) 1 = 1) = s.testBit j := by
  rw [bit_eq hs hj]; cases s.testBit j <;> rfl
theorem u64n {j : Nat} (h : j ≤ 100000000) : IntKind.u64.wrap (j : Int) = j := u64_id (by omega)
theorem p63 {n s : Nat} (hn : n ≤ 17) (hs : s < 2 ^ n) : s < 2 ^ 63 := Nat.lt_of_lt_of_le hs (Nat.pow_le_pow_right (by decide) (by omega))
theorem p2_63 {i : Nat} (h : i < 63) : 2 ^ i < 2 ^ 63 := Nat.pow_lt_pow_right (by decide) h

theorem xor_off {s i : Nat} (hs : s < 2 ^ 63) (hi : i < 63) : bXor .i64 (s : Int) (bShl .i64 1 (i : Int)) = ((off s i : Nat) : Int) := by
  rw [bShl_one hi, bXor_nat hs (p2_63 hi)]; rfl
theorem and_bit (s i : Nat) : s &&& 2 ^ i = bif s.testBit i then 2 ^ i else 0 := by
  refine bits_eq fun j => ?_
  rw [Nat.testBit_and, Nat.testBit_two_pow]
  by_cases e : i = j
  · subst e
    cases h : s.testBit i
    · simp
    · simp [Nat.testBit_two_pow]
  · cases s.testBit i
    · simp [e]
    · simp [e, Nat.testBit_two_pow]

section
variable {x : Col} {c : Int} (hp : 1 ≤ x.p ∧ x.p ≤ 17)
include hp
theorem rbit {i j : Nat} (hi : i < x.p.toNat) (hj : j < x.p.toNat) : decide (bAnd .i64 (bShr .i64 ((rws x c x.p.toNat).getD i 0) (j : Int)) 1 = 1) = aB x c (i : Int) (j : Int) := by
  rw [rws_get x c _ _ hi, bit1 (nb_lt x hp c i) (by omega), nb_test]
  simp [hj]

end

theorem or_add {u p n : Nat} (hn : n ≤ 17) (hu : u < 2 ^ n) (hp : p < n) : bOr .i64 (u : Int) (bShl .i64 1 (p : Int)) = ((add u p : Nat) : Int) := by
  rw [bShl_one (by omega), bOr_nat (p63 hn hu) (p2_63 (by omega))]; rfl

def hB : Nat → Nat
  | 0 => 1
  | d + 1 => 1 + 11 * hB d
def hP : Nat → Nat
  | 0 => 0
  | d + 1 => hB d
theorem hB_eq (d : Nat) : hB d = 1 + 11 * hP d := by cases d <;> rfl
theorem hB_max : ∀ d, d ≤ 11 → hB d ≤ 400000000000 := by decide
def hS : Nat → Nat
  | 0 => 0
  | n + 1 => hS n + 400000000000
theorem hS_succ (n : Nat) : hS (n + 1) = hS n + 400000000000 := rfl
theorem hS_max : ∀ n, n ≤ 12 → hS n ≤ 4800000000000 := by decide
def hT : Nat → Nat
  | 0 => 0
  | n + 1 => hT n + 5000000000000
theorem hT_succ (n : Nat) : hT (n + 1) = hT n + 5000000000000 := rfl
theorem hT_max : ∀ n, n ≤ 12 → hT n ≤ 60000000000000 := by decide

section
variable {x : Col} {c : Int} (hp : 1 ≤ x.p ∧ x.p ≤ 11)

/-- What the table of the program holds. -/
def GL (x : Col) (c : Int) (M : List (MK × Int)) : Prop := ∀ (u l v : Int), lookM M (.l [u, l]) = some v → ∃ un ln : Nat, u = un ∧ l = ln ∧ v = (eX (aB x c) x.p.toNat un ln : Int)
theorem GL_nil : GL x c [] := fun u l v h => by simp [lookM] at h
theorem GL_put {M : List (MK × Int)} (h : GL x c M) (u l : Nat) : GL x c ((MK.l ([(u : Int), (l : Int)] : List Int), (eX (aB x c) x.p.toNat u l : Int)) :: M) := by
  intro t z v hv
  unfold lookM at hv
  cases e : (MK.l ([(u : Int), (l : Int)] : List Int)).beq (MK.l [t, z]) with
  | true =>
    rw [e, cond_true] at hv
    have := (MK.beq_iff _ _).1 e
    simp at this
    exact ⟨u, l, this.1.symm, this.2.symm, (Option.some.inj hv).symm⟩
  | false => rw [e, cond_false] at hv; exact h t z v hv

include hp
theorem path_behind : ∀ (d u last k : Nat) (M : List (MK × Int)), x.p.toNat - cnt x.p.toNat u = d → u < 2 ^ x.p.toNat → last < x.p.toNat → d + 50 ≤ k → GL x c M → M.length + hB d < 4000000000000000000 →
    ∃ M', impl_longest_behind k (⟨x, c⟩ : Lon) M (u : Int) (last : Int) = some ((eX (aB x c) x.p.toNat u last : Int), M') ∧ GL x c M' ∧ M'.length ≤ M.length + hB d := by
  intro d
  induction d using Nat.strongRecOn with
  | _ d ih =>
  intro u last k M hd hu hlast hk hG hM
  have hn : x.p.toNat ≤ 17 := by omega
  have hu63 := p63 hn hu
  obtain ⟨k, rfl⟩ : ∃ k', k = k' + 1 := ⟨k - 1, by omega⟩
  rw [impl_longest_behind]
  unfold impl_longest_behind_body
  have huI : (u : Int) < 2048 := by
    have := Nat.lt_of_lt_of_le hu (Nat.pow_le_pow_right (by decide) (show x.p.toNat ≤ 11 by omega) : 2 ^ x.p.toNat ≤ 2 ^ 11)
    omega
  have hokK : okK (MK.l ([(u : Int), (last : Int)] : List Int)) = true ∧ ([(u : Int), (last : Int)] : List Int).length = 2 := by
    refine ⟨?_, rfl⟩
    simp [okK, okI]; omega
  rw [if_pos hokK]
  cases hlk : lookM M (MK.l ([(u : Int), (last : Int)] : List Int)) with
  | some v =>
    obtain ⟨u', l', h1, h2, h3⟩ := hG _ _ _ hlk
    have e1 : u = u' := by omega
    have e2 : last = l' := by omega
    subst e1; subst e2
    simp only [Option.isSome_some, if_true, Option.getD_some]
    exact ⟨M, by rw [h3], hG, by omega⟩
  | none =>
    simp only [Option.isSome_none, Bool.false_eq_true, if_false]
    rw [neigh_val x (by omega) (by omega) c last (by omega), Option.bind_some]
    have hB1 := hB_eq d
    have hr3 : ((pts x).filter (aB x c last)).length ≤ 11 := by
      refine Nat.le_trans (List.length_filter_le _ _) ?_
      simp [pts, ir_length]; omega
    obtain ⟨r, hr1, M2, rfl, hG2, hM2⟩ := loopI (fun k' i (σ : Int × List (MK × Int)) => impl_longest_behind_l0 (impl_longest_behind k) (⟨x, c⟩ : Lon) (u : Int) ((pts x).filter (aB x c last)) k' σ.1 i σ.2) (((pts x).filter (aB x c last)).length : Int) 0
      (fun i σ => ∃ (b im : Nat), i = im ∧ im ≤ ((pts x).filter (aB x c last)).length ∧ σ.1 = b ∧ b ≤ 11 ∧ fm (fun p => !u.testBit p.toNat) (fun p => eX (aB x c) x.p.toNat (add u p.toNat) p) (((pts x).filter (aB x c last)).drop im) b = eX (aB x c) x.p.toNat u last ∧ GL x c σ.2 ∧ σ.2.length + (((pts x).filter (aB x c last)).length - im) * hP d ≤ M.length + 11 * hP d)
      (fun r => ∃ M2, r = ((eX (aB x c) x.p.toNat u last : Int), M2) ∧ GL x c M2 ∧ M2.length ≤ M.length + 11 * hP d)
      (fun k' i σ h0 h1 hI => by
        obtain ⟨b, im, rfl, him, hσ, hb11, hf, hGσ, hlen⟩ := hI
        left
        have hi : im < ((pts x).filter (aB x c last)).length := by omega
        have hsub : (((pts x).filter (aB x c last)).length - im) * hP d = (((pts x).filter (aB x c last)).length - (im + 1)) * hP d + hP d := by
          rw [show ((pts x).filter (aB x c last)).length - im = (((pts x).filter (aB x c last)).length - (im + 1)) + 1 by omega, Nat.succ_mul]
        have hwi : w64 ((im : Int) + 1) = ((im : Int) + 1) := w64_id (by omega)
        have hmem := List.getElem_mem hi
        obtain ⟨h2, h3⟩ := List.mem_filter.1 hmem
        replace h2 := mem_ir.1 (show _ ∈ ir 0 x.p.toNat from h2)
        obtain ⟨pn, hpn⟩ : ∃ pn : Nat, ((pts x).filter (aB x c last))[im] = (pn : Int) := ⟨((pts x).filter (aB x c last))[im].toNat, by omega⟩
        have hget : ((pts x).filter (aB x c last)).getD (im : Int).toNat 0 = (pn : Int) := by
          rw [show (im : Int).toNat = im by omega, List.getD_eq_getElem?_getD, List.getElem?_eq_getElem hi, hpn]; rfl
        rw [List.drop_eq_getElem_cons hi, hpn, fm] at hf
        rw [hpn] at h2 h3
        have hpnn : pn < x.p.toNat := by omega
        rw [impl_longest_behind_l0, decide_eq_true h1, if_pos rfl, if_pos (by omega), hget, if_pos (by omega), bit0 hu63 (by omega)]
        cases hbit : u.testBit pn with
        | true =>
          refine ⟨σ, ?_, b, im + 1, by omega, by omega, hσ, hb11, ?_, hGσ, by omega⟩
          · simp [hwi]
          · simp [hbit] at hf; exact hf
        | false =>
          have hca := cnt_add (n := x.p.toNat) hbit hpnn
          have hcl := cnt_le x.p.toNat (add u pn)
          have hPd : hP d = hB (d - 1) := by
            obtain ⟨e, rfl⟩ : ∃ e, d = e + 1 := ⟨d - 1, by omega⟩
            rfl
          obtain ⟨M2, e3, hG2, hM2⟩ := ih (d - 1) (by omega) (add u pn) pn k σ.2 (by omega) (add_lt hu hpnn) hpnn (by omega) hGσ (by omega)
          have hle := eX_le (A := aB x c) (n := x.p.toNat) (d - 1) (add u pn) pn (by omega)
          rw [Bool.not_false, if_pos rfl, if_pos (by omega), or_add hn hu hpnn, e3]
          simp only [Option.bind_some]
          rw [w64_id (by omega), hwi, hσ]
          refine ⟨(((max b (eX (aB x c) x.p.toNat (add u pn) pn + 1) : Nat) : Int), M2), ?_, _, im + 1, by omega, by omega, rfl, by omega, ?_, hG2, by simp only; omega⟩
          · have e5 : (if (b : Int) < (eX (aB x c) x.p.toNat (add u pn) pn : Int) + 1 then (eX (aB x c) x.p.toNat (add u pn) pn : Int) + 1 else (b : Int)) = ((max b (eX (aB x c) x.p.toNat (add u pn) pn + 1) : Nat) : Int) := by
              split <;> omega
            rw [e5]
          · simp [hbit] at hf; exact hf)
      (fun k' i σ h0 h1 hI => by
        obtain ⟨b, im, rfl, him, hσ, hb11, hf, hGσ, hlen⟩ := hI
        rw [impl_longest_behind_l0, decide_eq_false (by omega), if_neg (by simp), hσ]
        rw [List.drop_eq_nil_of_le (by omega)] at hf
        refine ⟨_, rfl, σ.2, ?_, hGσ, by omega⟩
        rw [← hf]; rfl)
      k 0 (0, M) (by omega) (by omega) ⟨0, 0, rfl, by omega, rfl, by omega, by rw [List.drop_zero, eX_rec u last]; rfl, hG, by
        have : (((pts x).filter (aB x c last)).length - 0) * hP d ≤ 11 * hP d := Nat.mul_le_mul_right _ (by omega)
        simp only; omega⟩
    have hle := eX_le (A := aB x c) (n := x.p.toNat) d u last hd
    simp only at hr1
    rw [hr1, Option.bind_some]
    have hv : okI (eX (aB x c) x.p.toNat u last : Int) = true := by simp [okI]; omega
    rw [if_pos ⟨hokK, hv, by simp only; omega⟩]
    exact ⟨_, rfl, GL_put hG2 u last, by simp; omega⟩

theorem path_begin {k : Nat} (hk : 200 ≤ k) : ∃ M, impl_Colouring_path_l0 k x c k 0 (-1) 0 [] = some ((lpF (aB x c) x.p.toNat x.p.toNat).1, (lpF (aB x c) x.p.toNat x.p.toNat).2, M) ∧ GL x c M ∧ M.length ≤ 5000000000000 := by
  have hn : x.p.toNat ≤ 17 := by omega
  obtain ⟨r, h1, M, rfl, h2, h3⟩ := loopI (fun k' i (σ : Int × Int × List (MK × Int)) => impl_Colouring_path_l0 k x c k' σ.1 σ.2.1 i σ.2.2) x.p 0
    (fun i σ => ∃ im : Nat, i = im ∧ im ≤ x.p.toNat ∧ (σ.1, σ.2.1) = lpF (aB x c) x.p.toNat im ∧ GL x c σ.2.2 ∧ σ.2.2.length ≤ hS im)
    (fun r => ∃ M, r = ((lpF (aB x c) x.p.toNat x.p.toNat).1, (lpF (aB x c) x.p.toNat x.p.toNat).2, M) ∧ GL x c M ∧ M.length ≤ 5000000000000)
    (fun k' i σ h0 h1 hI => by
      obtain ⟨im, rfl, him, hσ, hG, hl⟩ := hI
      left
      have hs := hS_succ im
      have hs2 := hS_max im (by omega)
      have hb := hB_max (x.p.toNat - cnt x.p.toNat (add 0 im)) (by omega)
      have hi : im < x.p.toNat := by omega
      have ha : (add 0 im) < 2 ^ x.p.toNat := add_lt (Nat.pow_pos (by decide)) hi
      have e2 : bShl .i64 1 (im : Int) = ((add 0 im : Nat) : Int) := by rw [bShl_one (by omega)]; simp [add]
      obtain ⟨M', e3, hG', hM'⟩ := path_behind hp (c := c) _ (add 0 im) im k σ.2.2 rfl ha hi (by omega) hG (by omega)
      rw [impl_Colouring_path_l0, decide_eq_true (show (im : Int) < x.p from h1), if_pos rfl, if_pos (by omega), e2, e3, w64_id (by omega)]
      refine ⟨((lpF (aB x c) x.p.toNat (im + 1)).1, (lpF (aB x c) x.p.toNat (im + 1)).2, M'), ?_, im + 1, by omega, by omega, rfl, hG', by simp only; omega⟩
      rw [lpF, ← hσ]
      simp only [Option.bind_some]
      by_cases h : σ.2.1 < (eX (aB x c) x.p.toNat (add 0 im) im : Int)
      · simp [h]
      · simp [h])
    (fun k' i σ h0 h1 hI => by
      obtain ⟨im, rfl, him, hσ, hG, hl⟩ := hI
      have hs2 := hS_max im (by omega)
      have : im = x.p.toNat := by omega
      subst this
      rw [impl_Colouring_path_l0, decide_eq_false (by omega), if_neg (by simp)]
      exact ⟨_, rfl, σ.2.2, by rw [← hσ], hG, by omega⟩)
    k 0 (0, -1, []) (by omega) (by omega) ⟨0, rfl, by omega, rfl, GL_nil, by simp⟩
  exact ⟨M, h1, h2, h3⟩

theorem path_step {k u last m L : Nat} {M : List (MK × Int)} (hk : 200 ≤ k) (hu : u < 2 ^ x.p.toNat) (hlast : last < x.p.toNat) (hE : eX (aB x c) x.p.toNat u last = m + 1) (hG : GL x c M) (hM : M.length ≤ L) (hL : L ≤ 100000000000000) (out : List Int) (ho : out.length ≤ 100) :
    ∃ (p : Nat) (M' : List (MK × Int)), p < x.p.toNat ∧ (ir 0 x.p.toNat).find? (lpP (aB x c) x.p.toNat m u last) = some (p : Int) ∧ u.testBit p = false ∧ eX (aB x c) x.p.toNat (add u p) p = m ∧ GL x c M' ∧ M'.length ≤ L + 4800000000000 ∧
      impl_Colouring_path_l2 k x c ((m : Int) + 1) ((pts x).filter (aB x c last)) k (u : Int) 0 M out = some (((add u p : Nat) : Int), M', out ++ [(p : Int)]) := by
  have hn : x.p.toNat ≤ 17 := by omega
  have hu63 := p63 hn hu
  obtain ⟨p0, hp0, hf0, ha0, hb0, he0⟩ := lp_find hE
  have hr3 : ((pts x).filter (aB x c last)).length ≤ 11 := by
    refine Nat.le_trans (List.length_filter_le _ _) ?_
    simp [pts, ir_length]; omega
  have hff : ((pts x).filter (aB x c last)).find? (fun p => !u.testBit p.toNat && decide (eX (aB x c) x.p.toNat (add u p.toNat) p = m)) = some (p0 : Int) := by
    rw [List.find?_filter, ← hf0]
    refine congrArg (fun f => List.find? f (ir 0 x.p.toNat)) ?_
    funext a
    unfold lpP
    cases aB x c (last : Int) a <;> cases u.testBit a.toNat <;> simp
  obtain ⟨r, h1, M', rfl, h2, h3⟩ := loopI (fun k' i (σ : List (MK × Int)) => impl_Colouring_path_l2 k x c ((m : Int) + 1) ((pts x).filter (aB x c last)) k' (u : Int) i σ out) (((pts x).filter (aB x c last)).length : Int) 0
    (fun i σ => ∃ im : Nat, i = im ∧ im ≤ ((pts x).filter (aB x c last)).length ∧ (((pts x).filter (aB x c last)).drop im).find? (fun p => !u.testBit p.toNat && decide (eX (aB x c) x.p.toNat (add u p.toNat) p = m)) = some (p0 : Int) ∧ GL x c σ ∧ σ.length ≤ L + hS im)
    (fun r => ∃ M', r = (((add u p0 : Nat) : Int), M', out ++ [(p0 : Int)]) ∧ GL x c M' ∧ M'.length ≤ L + 4800000000000)
    (fun k' i σ h0 h1 hI => by
      obtain ⟨im, rfl, him, hf, hGσ, hlen⟩ := hI
      have hs := hS_succ im
      have hs2 := hS_max (im + 1) (by omega)
      have hi : im < ((pts x).filter (aB x c last)).length := by omega
      have hwi : w64 ((im : Int) + 1) = ((im : Int) + 1) := w64_id (by omega)
      have hmem := List.getElem_mem hi
      obtain ⟨h2, h3⟩ := List.mem_filter.1 hmem
      replace h2 := mem_ir.1 (show _ ∈ ir 0 x.p.toNat from h2)
      obtain ⟨pn, hpn⟩ : ∃ pn : Nat, ((pts x).filter (aB x c last))[im] = (pn : Int) := ⟨((pts x).filter (aB x c last))[im].toNat, by omega⟩
      have hget : ((pts x).filter (aB x c last)).getD (im : Int).toNat 0 = (pn : Int) := by
        rw [show (im : Int).toNat = im by omega, List.getD_eq_getElem?_getD, List.getElem?_eq_getElem hi, hpn]; rfl
      rw [List.drop_eq_getElem_cons hi, hpn, List.find?_cons] at hf
      rw [hpn] at h2 h3
      have hpnn : pn < x.p.toNat := by omega
      rw [impl_Colouring_path_l2, decide_eq_true h1, if_pos rfl, if_pos (by omega), hget, if_pos (by omega), bit0 hu63 (by omega)]
      cases hbit : u.testBit pn with
      | true =>
        left
        refine ⟨σ, ?_, im + 1, by omega, by omega, ?_, hGσ, by omega⟩
        · simp [hwi]
        · simp [hbit] at hf; exact hf
      | false =>
        have hb := hB_max (x.p.toNat - cnt x.p.toNat (add u pn)) (by omega)
        obtain ⟨M2, e3, hG2, hM2⟩ := path_behind hp (c := c) _ (add u pn) pn k σ rfl (add_lt hu hpnn) hpnn (by omega) hGσ (by omega)
        rw [Bool.not_false, if_pos rfl, if_pos (by omega), or_add hn hu hpnn, e3]
        simp only [Option.bind_some]
        rw [w64_id (by have := eX_le (A := aB x c) (n := x.p.toNat) _ u last rfl; omega), show (m : Int) + 1 - 1 = m by omega]
        by_cases hq : eX (aB x c) x.p.toNat (add u pn) pn = m
        · right
          have : pn = p0 := by
            simp [hbit, hq] at hf
            omega
          subst this
          rw [decide_eq_true (show (eX (aB x c) x.p.toNat (add u pn) pn : Int) = (m : Int) by omega), if_pos rfl, if_pos (by omega), if_pos (by simp; omega)]
          exact ⟨_, rfl, M2, rfl, hG2, by omega⟩
        · left
          rw [decide_eq_false (show ¬ (eX (aB x c) x.p.toNat (add u pn) pn : Int) = (m : Int) by omega)]
          refine ⟨M2, ?_, im + 1, by omega, by omega, ?_, hG2, by omega⟩
          · simp [hwi]
          · simp [hbit, hq] at hf
            exact hf)
    (fun k' i σ h0 h1 hI => by
      obtain ⟨im, rfl, him, hf, hGσ, hlen⟩ := hI
      rw [List.drop_eq_nil_of_le (by omega)] at hf
      cases hf)
    k 0 M (by omega) (by omega) ⟨0, rfl, by omega, by rw [List.drop_zero]; exact hff, hG, by omega⟩
  exact ⟨p0, M', hp0, hf0, hb0, he0, h2, h3, h1⟩

theorem path_go {k : Nat} (hk : 200 ≤ k) : ∀ (m k' u last : Nat) (M : List (MK × Int)) (out : List Int), m < k' → u < 2 ^ x.p.toNat → last < x.p.toNat → eX (aB x c) x.p.toNat u last = m → GL x c M → out.length + m ≤ 50 → M.length + hT m ≤ 90000000000000 → m ≤ 11 → out.getLast? = some (last : Int) →
    impl_Colouring_path_l1 k x c k' (u : Int) (m : Int) M out = some (out ++ lpN (aB x c) x.p.toNat m u last) := by
  intro m
  induction m with
  | zero =>
    intro k' u last M out hk' hu hlast hE hG ho hM hm hl
    obtain ⟨k', rfl⟩ : ∃ q, k' = q + 1 := ⟨k' - 1, by omega⟩
    rw [impl_Colouring_path_l1, decide_eq_false (by omega), if_neg (by simp), lpN, List.append_nil]
  | succ m ih =>
    intro k' u last M out hk' hu hlast hE hG ho hM hm hl
    obtain ⟨k', rfl⟩ : ∃ q, k' = q + 1 := ⟨k' - 1, by omega⟩
    have ht := hT_succ m
    have hne : out ≠ [] := fun e => by rw [e] at hl; cases hl
    have hlen := List.length_pos_iff.2 hne
    have hw : w64 ((out.length : Int) - 1) = ((out.length - 1 : Nat) : Int) := by rw [w64_id (by omega)]; omega
    have hget : out.getD (out.length - 1) 0 = (last : Int) := by
      rw [List.getD_eq_getElem?_getD, ← List.getLast?_eq_getElem?, hl]; rfl
    obtain ⟨p, M', hp', hf, hb, hE', hG', hM', e⟩ := path_step hp hk hu hlast hE hG (Nat.le_refl _) (by omega) out (by omega)
    rw [impl_Colouring_path_l1, decide_eq_true (by omega), if_pos rfl, hw, if_pos (by omega), Int.toNat_natCast, hget, neigh_val x (by omega) (by omega) c last (by omega), Option.bind_some]
    rw [show ((m + 1 : Nat) : Int) = (m : Int) + 1 by omega, e, Option.bind_some]
    simp only
    rw [w64_id (by omega), show (m : Int) + 1 - 1 = (m : Int) by omega]
    rw [ih k' (add u p) p M' _ (by omega) (add_lt hu hp') hp' hE' hG' (by simp; omega) (by omega) (by omega) (by simp)]
    rw [lpN, hf]
    simp

theorem path_val {k : Nat} (hk : 200 ≤ k) : impl_Colouring_path k x c = some (lp (aB x c) x.p.toNat) := by
  unfold impl_Colouring_path
  obtain ⟨M, h1, hG, hM⟩ := path_begin hp (c := c) hk
  rw [h1, Option.bind_some]
  obtain ⟨f, m, e, hf, hm, _, _⟩ := lpF_spec (A := aB x c) (n := x.p.toNat) x.p.toNat (by omega)
  have hm11 : m ≤ 11 := by have := eX_le (A := aB x c) (n := x.p.toNat) _ (add 0 f) f rfl; omega
  have ht := hT_max m (by omega)
  have e2 : bShl .i64 1 (f : Int) = ((add 0 f : Nat) : Int) := by rw [bShl_one (by omega)]; simp [add]
  have ha : (add 0 f) < 2 ^ x.p.toNat := add_lt (Nat.pow_pos (by decide)) hf
  unfold lp
  rw [e]
  simp only
  rw [if_pos (by omega), e2, path_go hp hk m k (add 0 f) f M [(f : Int)] (by omega) ha hf hm.symm hG (by simp; omega) (by omega) hm11 rfl]
  simp
end

/-! ### The points with which paths through just a set begin, as bits -/
def enB (A : Int → Int → Bool) (n S : Nat) : Nat := bitsN (fun p => en A n S p) n
def enP (A : Int → Int → Bool) (n S i : Nat) : Nat := bitsN (fun p => decide (p < i) && en A n S p) n
section
variable {A : Int → Int → Bool} {n : Nat}
theorem enB_test (S p : Nat) : (enB A n S).testBit p = (decide (p < n) && en A n S p) := bitsN_test _ _ _
theorem enP_test (S i p : Nat) : (enP A n S i).testBit p = (decide (p < n) && (decide (p < i) && en A n S p)) := bitsN_test _ _ _
theorem enB_lt (S : Nat) : enB A n S < 2 ^ n := bitsN_lt _ _
theorem enP_lt (S i : Nat) : enP A n S i < 2 ^ n := bitsN_lt _ _
theorem enP_zero (S : Nat) : enP A n S 0 = 0 := bits_eq fun j => by rw [enP_test]; simp
theorem enP_full (S : Nat) : enP A n S n = enB A n S := bits_eq fun j => by
  rw [enP_test, enB_test]
  by_cases h : j < n <;> simp [h]
theorem enB_zero : enB A n 0 = 0 := bits_eq fun j => by
  rw [enB_test]
  have : en A n 0 j = false := Bool.eq_false_iff.2 fun h => by have := en_bit h; simp at this
  simp [this]
theorem enP_no {S i : Nat} (h : en A n S i = false) : enP A n S (i + 1) = enP A n S i := bits_eq fun j => by
  rw [enP_test, enP_test]
  by_cases e : j = i
  · subst e; simp [h]
  · by_cases h2 : j < i
    · simp [h2, show j < i + 1 by omega]
    · simp [h2, show ¬ j < i + 1 by omega]
theorem enP_yes {S i : Nat} (hi : i < n) (h : en A n S i = true) : enP A n S (i + 1) = add (enP A n S i) i := bits_eq fun j => by
  rw [add_test, enP_test, enP_test]
  by_cases e : i = j
  · subst e; simp [h, hi]
  · by_cases h2 : j < i
    · simp [h2, show j < i + 1 by omega, e]
    · simp [h2, show ¬ j < i + 1 by omega, e]
theorem enB_ne (S : Nat) : enB A n S ≠ 0 ↔ ∃ p, p < n ∧ en A n S p = true := by
  constructor
  · intro h
    refine Classical.byContradiction fun hn => h (bits_eq fun j => ?_)
    rw [enB_test, Nat.zero_testBit]
    by_cases hj : j < n
    · have : en A n S j = false := Bool.eq_false_iff.2 fun he => hn ⟨j, hj, he⟩
      simp [this]
    · simp [hj]
  · rintro ⟨p, hp, he⟩ h
    have := enB_test (A := A) (n := n) S p
    rw [h, he] at this
    simp [hp] at this
end

section
variable {x : Col} {c : Int} (hp : 1 ≤ x.p ∧ x.p ≤ 11)

def ET (x : Col) (c : Int) (S i : Nat) (T : List Int) : Prop := T.length = 2 ^ x.p.toNat ∧ (∀ t, t < S → T.getD t 0 = (enB (aB x c) x.p.toNat t : Int)) ∧ (∀ t, S < t → t < 2 ^ x.p.toNat → T.getD t 0 = 0) ∧ T.getD S 0 = (enP (aB x c) x.p.toNat S i : Int)

include hp
theorem ends_in {S k : Nat} {T : List Int} (hk : 200 ≤ k) (hS : S < 2 ^ x.p.toNat) (hT : ET x c S 0 T) : ∃ T', spec_l04Ends_l1 (rws x c x.p.toNat) (S : Int) k 0 T = some T' ∧ ET x c S x.p.toNat T' := by
  have hn : x.p.toNat ≤ 17 := by omega
  have hS63 := p63 hn hS
  have hrl : (rws x c x.p.toNat).length = x.p.toNat := rws_length ..
  obtain ⟨r, h1, h2⟩ := loopI (fun k' i (T : List Int) => spec_l04Ends_l1 (rws x c x.p.toNat) (S : Int) k' i T) x.p 0
    (fun i T => ∃ im : Nat, i = im ∧ im ≤ x.p.toNat ∧ ET x c S im T) (fun T' => ET x c S x.p.toNat T')
    (fun k' i T h0 h1 hI => by
      obtain ⟨im, rfl, him, hT⟩ := hI
      obtain ⟨hl, hlo, hhi, hat⟩ := hT
      left
      have hi : im < x.p.toNat := by omega
      have hwi : w64 ((im : Int) + 1) = ((im : Int) + 1) := w64_id (by omega)
      have hx0 : decide (bAnd .i64 (S : Int) (bShl .i64 1 (im : Int)) = 0) = !S.testBit im := by
        rw [bShl_one (by omega), bAnd_nat hS63 (p2_63 (by omega)), and_bit]
        cases S.testBit im with
        | false => rfl
        | true =>
          have : 0 < 2 ^ im := Nat.pow_pos (by decide)
          rw [cond_true, decide_eq_false (by omega)]; rfl
      rw [spec_l04Ends_l1, decide_eq_true (show (im : Int) < ((rws x c x.p.toNat).length : Int) by omega), if_pos rfl, u64n (by omega), if_pos (by omega), hx0]
      cases hb : S.testBit im with
      | false =>
        refine ⟨T, ?_, im + 1, by omega, by omega, hl, hlo, hhi, ?_⟩
        · simp [hwi]
        · have : en (aB x c) x.p.toNat S im = false := Bool.eq_false_iff.2 fun h => by have := en_bit h; rw [hb] at this; cases this
          rw [enP_no this]; exact hat
      | true =>
        have hoff : off S im < S := off_self hb
        rw [xor_off hS63 (by omega), Bool.not_true, if_neg (by simp)]
        have hval : (if decide (((off S im : Nat) : Int) = 0) then some true else (if 0 ≤ ((off S im : Nat) : Int) ∧ ((off S im : Nat) : Int) < (T.length : Int) then (if 0 ≤ (im : Int) ∧ (im : Int) < ((rws x c x.p.toNat).length : Int) then some (!decide (bAnd .i64 (T.getD ((off S im : Nat) : Int).toNat 0) ((rws x c x.p.toNat).getD (im : Int).toNat 0) = 0)) else none) else none) : Option Bool) = some (en (aB x c) x.p.toNat S im) := by
          by_cases h0 : off S im = 0
          · rw [decide_eq_true (by omega), if_pos rfl, (en_iff hb).2 (.inl h0)]
          · rw [decide_eq_false (by omega), if_neg (by simp), if_pos (by omega), if_pos (by omega), Int.toNat_natCast, Int.toNat_natCast, hlo _ hoff, rws_get x c _ _ hi, bAnd_nat (p63 hn (enB_lt _)) (nb_lt x (by omega) c im)]
            congr 1
            rw [Bool.eq_iff_iff]
            rw [en_iff hb]
            simp only [Bool.not_eq_true', decide_eq_false_iff_not]
            constructor
            · intro h
              right
              refine Classical.byContradiction fun hno => h ?_
              have : enB (aB x c) x.p.toNat (off S im) &&& nb x c im = 0 := bits_eq fun j => by
                rw [Nat.testBit_and, enB_test, nb_test, Nat.zero_testBit]
                by_cases hj : j < x.p.toNat
                · cases h1 : en (aB x c) x.p.toNat (off S im) j with
                  | false => simp
                  | true =>
                    cases h2 : aB x c (im : Int) (j : Int) with
                    | false => simp
                    | true => exact absurd ⟨j, hj, h2, h1⟩ hno
                · simp [hj]
              rw [this]; rfl
            · rintro (h | ⟨q, hq, ha, he⟩) hz
              · exact h0 h
              · have h3 : (enB (aB x c) x.p.toNat (off S im) &&& nb x c im).testBit q = true := by
                  rw [Nat.testBit_and, enB_test, nb_test, he, ha]; simp [hq]
                have h4 : enB (aB x c) x.p.toNat (off S im) &&& nb x c im = 0 := by omega
                rw [h4] at h3; simp at h3
        rw [hval, Option.bind_some]
        cases he : en (aB x c) x.p.toNat S im with
        | false =>
          refine ⟨T, ?_, im + 1, by omega, by omega, hl, hlo, hhi, ?_⟩
          · simp [hwi]
          · rw [enP_no he]; exact hat
        | true =>
          rw [if_pos rfl, if_pos (by omega), if_pos (by omega), Int.toNat_natCast, hat, or_add hn (enP_lt _ _) hi]
          refine ⟨T.set S ((add (enP (aB x c) x.p.toNat S im) im : Nat) : Int), by simp [hwi], im + 1, by omega, by omega, by rw [List.length_set]; exact hl, fun t ht => ?_, fun t ht ht2 => ?_, ?_⟩
          · rw [List.getD_eq_getElem?_getD, List.getElem?_set_ne (by omega), ← List.getD_eq_getElem?_getD]; exact hlo t ht
          · rw [List.getD_eq_getElem?_getD, List.getElem?_set_ne (by omega), ← List.getD_eq_getElem?_getD]; exact hhi t ht ht2
          · rw [List.getD_eq_getElem?_getD, List.getElem?_set_self (by omega), enP_yes hi he]; rfl)
    (fun k' i T h0 h1 hI => by
      obtain ⟨im, rfl, him, hT⟩ := hI
      have : im = x.p.toNat := by omega
      subst this
      rw [spec_l04Ends_l1, decide_eq_false (by omega), if_neg (by simp)]
      exact ⟨_, rfl, hT⟩)
    k 0 T (by omega) (by omega) ⟨0, rfl, by omega, hT⟩
  exact ⟨r, h1, h2⟩

theorem ends_val {k : Nat} (hk : 200000 ≤ k) : ∃ T, spec_l04Ends k (rws x c x.p.toNat) = some T ∧ T.length = 2 ^ x.p.toNat ∧ ∀ t, t < 2 ^ x.p.toNat → T.getD t 0 = (enB (aB x c) x.p.toNat t : Int) := by
  have hn : x.p.toNat ≤ 17 := by omega
  have h17 : 2 ^ x.p.toNat ≤ 2048 := (Nat.pow_le_pow_right (by decide) (show x.p.toNat ≤ 11 by omega) : 2 ^ x.p.toNat ≤ 2 ^ 11)
  have hpos : 0 < 2 ^ x.p.toNat := Nat.pow_pos (by decide)
  have hrl : (rws x c x.p.toNat).length = x.p.toNat := rws_length ..
  unfold spec_l04Ends
  rw [hrl, u64n (by omega), if_pos (by omega), bShl_one (by omega), if_pos (by omega)]
  have hrep : (List.replicate ((2 ^ x.p.toNat : Nat) : Int).toNat (0 : Int)).length = 2 ^ x.p.toNat := by rw [List.length_replicate, Int.toNat_natCast]
  have hrep0 : ∀ t, (List.replicate ((2 ^ x.p.toNat : Nat) : Int).toNat (0 : Int)).getD t 0 = 0 := fun t => by
    rw [List.getD_eq_getElem?_getD]
    by_cases h : t < ((2 ^ x.p.toNat : Nat) : Int).toNat
    · rw [List.getElem?_replicate, if_pos h]; rfl
    · rw [List.getElem?_eq_none (by rw [List.length_replicate]; omega)]; rfl
  obtain ⟨T, h1, h2, h3⟩ := loopI (fun k' S (T : List Int) => spec_l04Ends_l0 k (rws x c x.p.toNat) k' S T) ((2 ^ x.p.toNat : Nat) : Int) 1
    (fun S T => ∃ Sn : Nat, S = Sn ∧ Sn ≤ 2 ^ x.p.toNat ∧ T.length = 2 ^ x.p.toNat ∧ (∀ t, t < Sn → T.getD t 0 = (enB (aB x c) x.p.toNat t : Int)) ∧ (∀ t, Sn ≤ t → t < 2 ^ x.p.toNat → T.getD t 0 = 0))
    (fun T => T.length = 2 ^ x.p.toNat ∧ ∀ t, t < 2 ^ x.p.toNat → T.getD t 0 = (enB (aB x c) x.p.toNat t : Int))
    (fun k' S T h0 h1 hI => by
      obtain ⟨Sn, rfl, hSn, hl, hlo, hhi⟩ := hI
      left
      obtain ⟨T', e, hl', hlo', hhi', hat'⟩ := ends_in hp (c := c) (S := Sn) (k := k) (T := T) (by omega) (by omega) ⟨hl, hlo, fun t ht ht2 => hhi t (by omega) ht2, by rw [hhi Sn (Nat.le_refl _) (by omega), enP_zero]; rfl⟩
      rw [spec_l04Ends_l0, decide_eq_true (by omega), if_pos rfl, e, Option.bind_some, w64_id (by omega)]
      refine ⟨T', rfl, Sn + 1, by omega, by omega, hl', fun t ht => ?_, fun t ht ht2 => hhi' t (by omega) ht2⟩
      by_cases e2 : t = Sn
      · subst e2; rw [hat', enP_full]
      · exact hlo' t (by omega))
    (fun k' S T h0 h1 hI => by
      obtain ⟨Sn, rfl, hSn, hl, hlo, hhi⟩ := hI
      rw [spec_l04Ends_l0, decide_eq_false (by omega), if_neg (by simp)]
      exact ⟨T, rfl, hl, fun t ht => hlo t (by omega)⟩)
    k 1 (List.replicate ((2 ^ x.p.toNat : Nat) : Int).toNat (0 : Int)) (by omega) (by omega)
    ⟨1, rfl, hpos, hrep, fun t ht => by
      have : t = 0 := by omega
      subst this
      rw [hrep0, enB_zero]; rfl, fun t _ _ => hrep0 t⟩
  exact ⟨T, by rw [h1]; rfl, h2, h3⟩

/-! ### The greatest number of points -/
omit hp in
def hasP (x : Col) (c : Int) (S : Nat) : Prop := ∃ p, p < x.p.toNat ∧ en (aB x c) x.p.toNat S p = true
theorem best_val {k : Nat} (hk : 200000 ≤ k) {T : List Int} (hl : T.length = 2 ^ x.p.toNat) (hT : ∀ t, t < 2 ^ x.p.toNat → T.getD t 0 = (enB (aB x c) x.p.toNat t : Int)) :
    ∃ b : Nat, spec_l04Path_l0 k T k 0 0 = some (b : Int) ∧ (∀ S, S < 2 ^ x.p.toNat → hasP x c S → cnt x.p.toNat S ≤ b) ∧ (b = 0 ∨ ∃ S, S < 2 ^ x.p.toNat ∧ hasP x c S ∧ cnt x.p.toNat S = b) := by
  have hn : x.p.toNat ≤ 60 := by omega
  have h17 : 2 ^ x.p.toNat ≤ 2048 := (Nat.pow_le_pow_right (by decide) (show x.p.toNat ≤ 11 by omega) : 2 ^ x.p.toNat ≤ 2 ^ 11)
  obtain ⟨r, h1, b, rfl, h2, h3⟩ := loopI (fun k' S (b : Int) => spec_l04Path_l0 k T k' b S) ((2 ^ x.p.toNat : Nat) : Int) 0
    (fun S b => ∃ Sn bn : Nat, S = Sn ∧ Sn ≤ 2 ^ x.p.toNat ∧ b = bn ∧ (∀ S, S < Sn → hasP x c S → cnt x.p.toNat S ≤ bn) ∧ (bn = 0 ∨ ∃ S, S < Sn ∧ hasP x c S ∧ cnt x.p.toNat S = bn))
    (fun r => ∃ b : Nat, r = (b : Int) ∧ (∀ S, S < 2 ^ x.p.toNat → hasP x c S → cnt x.p.toNat S ≤ b) ∧ (b = 0 ∨ ∃ S, S < 2 ^ x.p.toNat ∧ hasP x c S ∧ cnt x.p.toNat S = b))
    (fun k' S b h0 h1 hI => by
      obtain ⟨Sn, bn, rfl, hSn, rfl, ha, hb⟩ := hI
      left
      have hlt : Sn < 2 ^ x.p.toNat := by omega
      rw [spec_l04Path_l0, hl, decide_eq_true (by omega), if_pos rfl, if_pos (by omega), Int.toNat_natCast, hT Sn hlt, ones_val (by omega) hn hlt, w64_id (by omega)]
      by_cases h : enB (aB x c) x.p.toNat Sn = 0
      · rw [decide_eq_true (by omega)]
        have hno : ¬ hasP x c Sn := fun hh => (enB_ne Sn).2 hh h
        refine ⟨(bn : Int), by simp, Sn + 1, bn, by omega, by omega, rfl, fun S hS hh => ?_, ?_⟩
        · by_cases e : S = Sn
          · subst e; exact absurd hh hno
          · exact ha S (by omega) hh
        · rcases hb with hb | ⟨S, hS, hh, e⟩
          · exact .inl hb
          · exact .inr ⟨S, by omega, hh, e⟩
      · rw [decide_eq_false (by omega)]
        have hyes : hasP x c Sn := (enB_ne Sn).1 h
        refine ⟨((max bn (cnt x.p.toNat Sn) : Nat) : Int), ?_, Sn + 1, max bn (cnt x.p.toNat Sn), by omega, by omega, rfl, fun S hS hh => ?_, ?_⟩
        · have e5 : (if (bn : Int) < ((mem Sn 0 x.p.toNat).length : Int) then ((mem Sn 0 x.p.toNat).length : Int) else (bn : Int)) = ((max bn (cnt x.p.toNat Sn) : Nat) : Int) := by
            unfold cnt; split <;> omega
          simp only [Bool.not_false, if_true, Option.bind_some]
          rw [e5]
        · by_cases e : S = Sn
          · subst e; exact Nat.le_max_right ..
          · exact Nat.le_trans (ha S (by omega) hh) (Nat.le_max_left ..)
        · rcases Nat.le_total (cnt x.p.toNat Sn) bn with hle | hle
          · rw [Nat.max_eq_left hle]
            rcases hb with hb | ⟨S, hS, hh, e⟩
            · exact .inl hb
            · exact .inr ⟨S, by omega, hh, e⟩
          · rw [Nat.max_eq_right hle]
            exact .inr ⟨Sn, by omega, hyes, rfl⟩)
    (fun k' S b h0 h1 hI => by
      obtain ⟨Sn, bn, rfl, hSn, rfl, ha, hb⟩ := hI
      rw [spec_l04Path_l0, hl, decide_eq_false (by omega), if_neg (by simp)]
      have : Sn = 2 ^ x.p.toNat := by omega
      subst this
      exact ⟨_, rfl, bn, rfl, ha, hb⟩)
    k 0 0 (by omega) (by omega) ⟨0, 0, rfl, by omega, rfl, fun S hS => by omega, .inl rfl⟩
  exact ⟨b, h1, h2, h3⟩

omit hp in
theorem best_eq {b f m : Nat} (e : lpF (aB x c) x.p.toNat x.p.toNat = ((f : Int), (m : Int))) (hf : f < x.p.toNat) (hm : m = eX (aB x c) x.p.toNat (add 0 f) f) (hmax : ∀ j, j < x.p.toNat → eX (aB x c) x.p.toNat (add 0 j) j ≤ m)
    (h2 : ∀ S, S < 2 ^ x.p.toNat → hasP x c S → cnt x.p.toNat S ≤ b) (h3 : b = 0 ∨ ∃ S, S < 2 ^ x.p.toNat ∧ hasP x c S ∧ cnt x.p.toNat S = b) : b = m + 1 := by
  obtain ⟨S, hS, hc, hd, he⟩ := (en_eX (A := aB x c) m 0 f hf (by simp)).2 (by omega)
  have h4 := h2 S hS ⟨f, hf, he⟩
  rcases h3 with h3 | ⟨S', hS', ⟨p, hp', he'⟩, hc'⟩
  · omega
  · have h5 := (en_eX (A := aB x c) (b - 1) 0 p hp' (by simp)).1 ⟨S', hS', by omega, fun j _ => by simp, he'⟩
    have h6 := hmax p hp'
    omega

theorem sets_val {k : Nat} (hk : 200000 ≤ k) {T : List Int} (hl : T.length = 2 ^ x.p.toNat) (hT : ∀ t, t < 2 ^ x.p.toNat → T.getD t 0 = (enB (aB x c) x.p.toNat t : Int)) (b : Nat) :
    ∃ sl : List Nat, spec_l04Path_l1 k T (b : Int) k 0 [] = some (sl.map fun s : Nat => (s : Int)) ∧ sl.length ≤ 2048 ∧ ∀ S, S ∈ sl ↔ S < 2 ^ x.p.toNat ∧ hasP x c S ∧ cnt x.p.toNat S = b := by
  have hn : x.p.toNat ≤ 60 := by omega
  have h17 : 2 ^ x.p.toNat ≤ 2048 := (Nat.pow_le_pow_right (by decide) (show x.p.toNat ≤ 11 by omega) : 2 ^ x.p.toNat ≤ 2 ^ 11)
  obtain ⟨r, h1, sl, rfl, h2, h3⟩ := loopI (fun k' S (L : List Int) => spec_l04Path_l1 k T (b : Int) k' S L) ((2 ^ x.p.toNat : Nat) : Int) 0
    (fun S L => ∃ (Sn : Nat) (sl : List Nat), S = Sn ∧ Sn ≤ 2 ^ x.p.toNat ∧ L = (sl.map fun s : Nat => (s : Int)) ∧ sl.length ≤ Sn ∧ ∀ S, S ∈ sl ↔ S < Sn ∧ hasP x c S ∧ cnt x.p.toNat S = b)
    (fun r => ∃ sl : List Nat, r = (sl.map fun s : Nat => (s : Int)) ∧ sl.length ≤ 2048 ∧ ∀ S, S ∈ sl ↔ S < 2 ^ x.p.toNat ∧ hasP x c S ∧ cnt x.p.toNat S = b)
    (fun k' S L h0 h1 hI => by
      obtain ⟨Sn, sl, rfl, hSn, rfl, hlen, ha⟩ := hI
      left
      have hlt : Sn < 2 ^ x.p.toNat := by omega
      rw [spec_l04Path_l1, hl, decide_eq_true (by omega), if_pos rfl, if_pos (by omega), Int.toNat_natCast, hT Sn hlt, ones_val (by omega) hn hlt, w64_id (by omega)]
      have keep : ¬ (hasP x c Sn ∧ cnt x.p.toNat Sn = b) → ∀ S, S ∈ sl ↔ S < Sn + 1 ∧ hasP x c S ∧ cnt x.p.toNat S = b := fun hno S => by
        rw [ha S]
        constructor
        · rintro ⟨h1, h2⟩; exact ⟨by omega, h2⟩
        · rintro ⟨h1, h2⟩
          refine ⟨?_, h2⟩
          by_cases e : S = Sn
          · subst e; exact absurd h2 hno
          · omega
      by_cases h : enB (aB x c) x.p.toNat Sn = 0
      · rw [decide_eq_true (by omega)]
        have hno : ¬ hasP x c Sn := fun hh => (enB_ne Sn).2 hh h
        exact ⟨_, by simp, Sn + 1, sl, by omega, by omega, rfl, by omega, keep fun hh => hno hh.1⟩
      · rw [decide_eq_false (by omega)]
        have hyes : hasP x c Sn := (enB_ne Sn).1 h
        by_cases hc : cnt x.p.toNat Sn = b
        · refine ⟨(sl ++ [Sn]).map fun s : Nat => (s : Int), ?_, Sn + 1, sl ++ [Sn], by omega, by omega, rfl, by simp; omega, fun S => ?_⟩
          · have e1 : decide (((mem Sn 0 x.p.toNat).length : Int) = (b : Int)) = true := by
              unfold cnt at hc; exact decide_eq_true (by omega)
            simp only [Bool.not_false, if_true, Option.bind_some, e1]
            rw [if_pos (by simp; omega)]
            simp
          · rw [List.mem_append, ha S, List.mem_singleton]
            constructor
            · rintro (⟨h1, h2⟩ | rfl)
              · exact ⟨by omega, h2⟩
              · exact ⟨by omega, hyes, hc⟩
            · rintro ⟨h1, h2⟩
              by_cases e : S = Sn
              · exact .inr e
              · exact .inl ⟨by omega, h2⟩
        · have e1 : decide (((mem Sn 0 x.p.toNat).length : Int) = (b : Int)) = false := by
            unfold cnt at hc; exact decide_eq_false (by omega)
          refine ⟨_, ?_, Sn + 1, sl, by omega, by omega, rfl, by omega, keep fun hh => hc hh.2⟩
          simp [e1])
    (fun k' S L h0 h1 hI => by
      obtain ⟨Sn, sl, rfl, hSn, rfl, hlen, ha⟩ := hI
      rw [spec_l04Path_l1, hl, decide_eq_false (by omega), if_neg (by simp)]
      have : Sn = 2 ^ x.p.toNat := by omega
      subst this
      exact ⟨_, rfl, sl, rfl, by omega, ha⟩)
    k 0 [] (by omega) (by omega) ⟨0, [], rfl, by omega, rfl, by simp, fun S => by simp⟩
  exact ⟨sl, h1, h2, h3⟩

/-! ### The next point -/
omit hp in
theorem find_congr {f g : Int → Bool} : ∀ {l : List Int}, (∀ a ∈ l, f a = g a) → l.find? f = l.find? g
  | [], _ => rfl
  | a :: l, h => by
    rw [List.find?_cons, List.find?_cons, h a (List.mem_cons_self ..), find_congr fun b hb => h b (List.mem_cons_of_mem _ hb)]
omit hp in
theorem find_first {P : Int → Bool} {f n : Nat} (h : ∀ j, j < f → P (j : Int) = false) (hf : P (f : Int) = true) (hn : f < n) : (ir 0 n).find? P = some (f : Int) := by
  have : ∀ d j, j + d = f → (ir j n).find? P = some (f : Int) := by
    intro d
    induction d with
    | zero =>
      intro j hj
      have : j = f := by omega
      subst this
      rw [ir_next hn, List.find?_cons, hf]
    | succ d ih =>
      intro j hj
      rw [ir_next (by omega), List.find?_cons, h j (by omega)]
      exact ih (j + 1) (by omega)
  exact this f 0 (by omega)
omit hp in
def nxP (x : Col) (c : Int) (a : Nat) (sl : List Nat) (p : Int) : Bool := a.testBit p.toNat && sl.any fun S => en (aB x c) x.p.toNat S p.toNat

theorem next4 {T : List Int} (hl : T.length = 2 ^ x.p.toNat) (hT : ∀ t, t < 2 ^ x.p.toNat → T.getD t 0 = (enB (aB x c) x.p.toNat t : Int)) {a p : Nat} (ha : a < 2 ^ 63) (hpn : p < x.p.toNat) {sl : List Nat} (hsl : ∀ S ∈ sl, S < 2 ^ x.p.toNat) (hsz : sl.length ≤ 2048) :
    ∀ (j i k : Nat), sl.length = i + j → j + 1 < k → spec_l04Path_l4 T (a : Int) (sl.map fun s : Nat => (s : Int)) (p : Int) k (-1) (i : Int) = some (if (a.testBit p && (sl.drop i).any fun S => en (aB x c) x.p.toNat S p) = true then (p : Int) else -1) := by
  have hn : x.p.toNat ≤ 17 := by omega
  intro j
  induction j with
  | zero =>
    intro i k hi hk
    obtain ⟨k, rfl⟩ : ∃ q, k = q + 1 := ⟨k - 1, by omega⟩
    rw [spec_l04Path_l4, List.length_map, decide_eq_false (by omega), List.drop_eq_nil_of_le (by omega)]
    simp
  | succ j ih =>
    intro i k hi hk
    obtain ⟨k, rfl⟩ : ∃ q, k = q + 1 := ⟨k - 1, by omega⟩
    have hil : i < sl.length := by omega
    rw [spec_l04Path_l4, List.length_map, decide_eq_true (by omega), if_pos rfl, decide_eq_true (by decide), if_pos rfl, u64n (by omega), if_pos (by omega), bit1 ha (by omega)]
    cases hab : a.testBit p with
    | false => simp
    | true =>
      have hg : (sl.map fun s : Nat => (s : Int)).getD (i : Int).toNat 0 = (sl[i] : Int) := by
        rw [Int.toNat_natCast, List.getD_eq_getElem?_getD, List.getElem?_map, List.getElem?_eq_getElem hil]; rfl
      have hlt := hsl sl[i] (List.getElem_mem hil)
      simp only [Option.bind_some, if_true]
      rw [if_pos (by omega), hg, if_pos (by omega), Int.toNat_natCast, hT _ hlt, if_pos (by omega), bit1 (p63 hn (enB_lt _)) (by omega), enB_test, decide_eq_true hpn, Bool.true_and, List.drop_eq_getElem_cons hil, List.any_cons, w64_id (by omega)]
      cases he : en (aB x c) x.p.toNat sl[i] p with
      | false =>
        have := ih (i + 1) k (by omega) (by omega)
        rw [hab] at this
        simp only [Bool.false_eq_true, if_false, Option.bind_some, Bool.false_or]
        exact this
      | true =>
        obtain ⟨k, rfl⟩ : ∃ q, k = q + 1 := ⟨k - 1, by omega⟩
        simp only [if_true, Option.bind_some, Bool.true_or, Bool.true_and]
        rw [spec_l04Path_l4, decide_eq_false (show ¬ (p : Int) < 0 by omega)]
        by_cases hh : (i : Int) + 1 < ((sl.map fun s : Nat => (s : Int)).length : Int)
        · rw [decide_eq_true hh]; simp
        · rw [decide_eq_false hh]; simp

theorem next3 {T : List Int} (hl : T.length = 2 ^ x.p.toNat) (hT : ∀ t, t < 2 ^ x.p.toNat → T.getD t 0 = (enB (aB x c) x.p.toNat t : Int)) {a p k : Nat} (hk : 200000 ≤ k) (ha : a < 2 ^ 63) {sl : List Nat} (hsl : ∀ S ∈ sl, S < 2 ^ x.p.toNat) (hsz : sl.length ≤ 2048) (hpn : p < x.p.toNat) :
    ∀ (d j k' : Nat), x.p.toNat = j + d → d + 2 < k' → (ir j x.p.toNat).find? (nxP x c a sl) = some (p : Int) → spec_l04Path_l3 k x T (a : Int) (sl.map fun s : Nat => (s : Int)) k' (-1) (j : Int) = some (p : Int) := by
  intro d
  induction d with
  | zero =>
    intro j k' hj hk' hf
    rw [ir_end (by omega)] at hf; cases hf
  | succ d ih =>
    intro j k' hj hk' hf
    obtain ⟨k', rfl⟩ : ∃ q, k' = q + 1 := ⟨k' - 1, by omega⟩
    have hjn : j < x.p.toNat := by omega
    rw [ir_next hjn, List.find?_cons] at hf
    have e4 := next4 hp (c := c) hl hT ha hjn hsl hsz sl.length 0 k (by omega) (by omega)
    rw [List.drop_zero] at e4
    have e4' : spec_l04Path_l4 T (a : Int) (sl.map fun s : Nat => (s : Int)) (j : Int) k (-1) 0 = some (if (a.testBit j && sl.any fun S => en (aB x c) x.p.toNat S j) = true then (j : Int) else -1) := e4
    rw [spec_l04Path_l3, decide_eq_true (show (j : Int) < x.p by omega), if_pos rfl, decide_eq_true (by decide)]
    simp only [letO, if_true, Option.bind_some]
    rw [e4', Option.bind_some, w64_id (by omega)]
    have hnx : nxP x c a sl (j : Int) = (a.testBit j && sl.any fun S => en (aB x c) x.p.toNat S j) := by unfold nxP; rw [Int.toNat_natCast]
    rw [← hnx]
    cases hb : nxP x c a sl (j : Int) with
    | false =>
      rw [hb] at hf
      have := ih (j + 1) k' (by omega) (by omega) hf
      rw [if_neg (by simp)]
      exact this
    | true =>
      rw [hb] at hf
      have : (j : Int) = p := by simpa using hf
      rw [if_pos rfl, ← this]
      obtain ⟨k', rfl⟩ : ∃ q, k' = q + 1 := ⟨k' - 1, by omega⟩
      rw [spec_l04Path_l3, decide_eq_false (show ¬ (j : Int) < 0 by omega)]
      by_cases hh : (j : Int) + 1 < x.p
      · rw [decide_eq_true hh]; rfl
      · rw [decide_eq_false hh]; rfl

theorem left5 {T : List Int} (hl : T.length = 2 ^ x.p.toNat) (hT : ∀ t, t < 2 ^ x.p.toNat → T.getD t 0 = (enB (aB x c) x.p.toNat t : Int)) {p : Nat} (hpn : p < x.p.toNat) {sl : List Nat} (hsl : ∀ S ∈ sl, S < 2 ^ x.p.toNat) (hsz : sl.length ≤ 2048) :
    ∀ (j i k : Nat) (out : List Int), sl.length = i + j → j + 1 < k → out.length ≤ i → spec_l04Path_l5 T (sl.map fun s : Nat => (s : Int)) (p : Int) k (i : Int) out = some (out ++ (((sl.drop i).filter fun S => en (aB x c) x.p.toNat S p).map fun S => off S p).map fun s : Nat => (s : Int)) := by
  have hn : x.p.toNat ≤ 17 := by omega
  intro j
  induction j with
  | zero =>
    intro i k out hi hk ho
    obtain ⟨k, rfl⟩ : ∃ q, k = q + 1 := ⟨k - 1, by omega⟩
    rw [spec_l04Path_l5, List.length_map, decide_eq_false (by omega), List.drop_eq_nil_of_le (by omega)]
    simp
  | succ j ih =>
    intro i k out hi hk ho
    obtain ⟨k, rfl⟩ : ∃ q, k = q + 1 := ⟨k - 1, by omega⟩
    have hil : i < sl.length := by omega
    have hg : (sl.map fun s : Nat => (s : Int)).getD (i : Int).toNat 0 = (sl[i] : Int) := by
      rw [Int.toNat_natCast, List.getD_eq_getElem?_getD, List.getElem?_map, List.getElem?_eq_getElem hil]; rfl
    have hlt := hsl sl[i] (List.getElem_mem hil)
    have hw : w64 ((i : Int) + 1) = ((i + 1 : Nat) : Int) := by rw [w64_id (by omega)]; omega
    have hu : IntKind.u64.wrap (p : Int) = p := u64n (by omega)
    have hg1 : (0 : Int) ≤ (i : Int) ∧ (i : Int) < ((sl.map fun s : Nat => (s : Int)).length : Int) := by rw [List.length_map]; omega
    have hg2 : (0 : Int) ≤ (sl[i] : Int) ∧ (sl[i] : Int) < (T.length : Int) := by omega
    have hg3 : (0 : Int) ≤ (p : Int) := by omega
    have hg4 : out.length + ([((off sl[i] p : Nat) : Int)] : List Int).length ≤ 1099511627776 := by simp; omega
    rw [spec_l04Path_l5, decide_eq_true hg1.2, if_pos rfl, if_pos hg1, hg, if_pos hg2, hu, if_pos hg3, Int.toNat_natCast, hT _ hlt, bit1 (p63 hn (enB_lt _)) (by omega), enB_test, decide_eq_true hpn, Bool.true_and, List.drop_eq_getElem_cons hil, List.filter_cons, xor_off (p63 hn hlt) (by omega)]
    cases he : en (aB x c) x.p.toNat sl[i] p with
    | false =>
      have := ih (i + 1) k out (by omega) (by omega) (by omega)
      simp only [Bool.false_eq_true, if_false, Option.bind_some, hw]
      exact this
    | true =>
      have := ih (i + 1) k (out ++ [((off sl[i] p : Nat) : Int)]) (by omega) (by omega) (by simp; omega)
      simp only [if_true]
      rw [if_pos hg1, if_pos hg3, if_pos hg4]
      simp only [Option.bind_some, hw]
      rw [this]
      simp

/-- The sets through which the path can go on behind its last point. -/
def SetsOK (x : Col) (c : Int) (u last m : Nat) (sl : List Nat) : Prop := ∀ S, S ∈ sl ↔ S < 2 ^ x.p.toNat ∧ cnt x.p.toNat S = m ∧ (∀ j, S.testBit j = true → u.testBit j = false) ∧ en (aB x c) x.p.toNat (add S last) last = true

omit hp in
theorem sets_next {u last m p : Nat} {sl : List Nat} (hs : SetsOK x c u last (m + 1) sl) (hlb : u.testBit last = true) (hpn : p < x.p.toNat) (ha : aB x c last p = true) (hpu : u.testBit p = false) :
    SetsOK x c (add u p) p m ((sl.filter fun S => en (aB x c) x.p.toNat S p).map fun S => off S p) := by
  intro S'
  rw [List.mem_map]
  constructor
  · rintro ⟨S, hS, rfl⟩
    obtain ⟨h1, he⟩ := List.mem_filter.1 hS
    obtain ⟨hlt, hc, hd, _⟩ := (hs S).1 h1
    have hb := en_bit he
    have := cnt_off hb hpn
    refine ⟨Nat.lt_trans (off_self hb) hlt, by omega, fun j hj => ?_, by rw [add_off hb]; exact he⟩
    rw [off_test hb] at hj
    simp at hj
    rw [add_test, hd j hj.1]
    have : ¬ p = j := fun h => hj.2 h.symm
    simp [this]
  · rintro ⟨hlt, hc, hd, he⟩
    have hb : S'.testBit p = false := by
      cases hb : S'.testBit p with
      | false => rfl
      | true => have := hd p hb; rw [add_test] at this; simp at this
    refine ⟨add S' p, List.mem_filter.2 ⟨(hs _).2 ⟨add_lt hlt hpn, by rw [cnt_add hb hpn, hc], fun j hj => ?_, ?_⟩, he⟩, off_add hb⟩
    · rw [add_test] at hj
      by_cases e : p = j
      · subst e; exact hpu
      · simp [e] at hj
        have := hd j hj
        rw [add_test] at this
        simp at this
        exact this.1
    · have hne : ¬ p = last := fun e => by subst e; rw [hpu] at hlb; cases hlb
      have hl2 : (add S' p).testBit last = false := by
        cases hb2 : (add S' p).testBit last with
        | false => rfl
        | true =>
          rw [add_test] at hb2
          simp [hne] at hb2
          have := hd last hb2
          rw [add_test, hlb] at this
          simp at this
      rw [en_iff (by rw [add_test]; simp), off_add hl2]
      exact .inr ⟨p, hpn, ha, he⟩

omit hp in
theorem next_eq {u last m : Nat} {sl : List Nat} (hs : SetsOK x c u last (m + 1) sl) (hlb : u.testBit last = true) (hE : eX (aB x c) x.p.toNat u last = m + 1) : (ir 0 x.p.toNat).find? (nxP x c (nb x c last) sl) = (ir 0 x.p.toNat).find? (lpP (aB x c) x.p.toNat m u last) := by
  refine find_congr fun a ha => ?_
  rw [mem_ir] at ha
  obtain ⟨p, rfl⟩ : ∃ p : Nat, a = p := ⟨a.toNat, by omega⟩
  have hpn : p < x.p.toNat := by omega
  unfold nxP lpP
  rw [Int.toNat_natCast, nb_test, decide_eq_true hpn, Bool.true_and]
  cases haa : aB x c (last : Int) (p : Int) with
  | false => rfl
  | true =>
    rw [Bool.true_and, Bool.true_and, Bool.eq_iff_iff, List.any_eq_true, Bool.and_eq_true, decide_eq_true_iff]
    constructor
    · rintro ⟨S, hS, he⟩
      obtain ⟨hlt, hc, hd, _⟩ := (hs S).1 hS
      have hpu := hd p (en_bit he)
      have h1 := (en_eX (A := aB x c) m u p hpn hpu).1 ⟨S, hlt, hc, hd, he⟩
      have h2 := eX_ge (A := aB x c) hpn haa hpu
      exact ⟨by rw [hpu]; rfl, by omega⟩
    · rintro ⟨hpu, he⟩
      have hpu' : u.testBit p = false := by simpa using hpu
      obtain ⟨S, hlt, hc, hd, he2⟩ := (en_eX (A := aB x c) m u p hpn hpu').2 (by omega)
      refine ⟨S, (hs S).2 ⟨hlt, hc, hd, ?_⟩, he2⟩
      have hl2 : S.testBit last = false := by
        cases hb2 : S.testBit last with
        | false => rfl
        | true => have := hd last hb2; rw [hlb] at this; cases this
      rw [en_iff (by rw [add_test]; simp), off_add hl2]
      exact .inr ⟨p, hpn, haa, he2⟩

theorem spath_go {T : List Int} (hl : T.length = 2 ^ x.p.toNat) (hT : ∀ t, t < 2 ^ x.p.toNat → T.getD t 0 = (enB (aB x c) x.p.toNat t : Int)) {k : Nat} (hk : 200000 ≤ k) (b : Nat) (hb : b ≤ 50) :
    ∀ (m k' u last : Nat) (sl : List Nat) (out : List Int), m < k' → out.length + m = b → SetsOK x c u last m sl → sl.length ≤ 2048 → u.testBit last = true → last < x.p.toNat → eX (aB x c) x.p.toNat u last = m →
      spec_l04Path_l2 k x (rws x c x.p.toNat) T (b : Int) k' ((nb x c last : Nat) : Int) (sl.map fun s : Nat => (s : Int)) out = some (out ++ lpN (aB x c) x.p.toNat m u last) := by
  have hrl : (rws x c x.p.toNat).length = x.p.toNat := rws_length ..
  intro m
  induction m with
  | zero =>
    intro k' u last sl out hk' ho hs hsz hlb hln hE
    obtain ⟨k', rfl⟩ : ∃ q, k' = q + 1 := ⟨k' - 1, by omega⟩
    rw [spec_l04Path_l2, decide_eq_false (by omega), if_neg (by simp), lpN, List.append_nil]
  | succ m ih =>
    intro k' u last sl out hk' ho hs hsz hlb hln hE
    obtain ⟨k', rfl⟩ : ∃ q, k' = q + 1 := ⟨k' - 1, by omega⟩
    obtain ⟨p, hpn, hf, ha, hpu, hE'⟩ := lp_find hE
    have hsl : ∀ S ∈ sl, S < 2 ^ x.p.toNat := fun S hS => ((hs S).1 hS).1
    have e3 := next3 hp (c := c) hl hT hk (nb_lt x (by omega) c last) hsl hsz hpn x.p.toNat 0 k (by omega) (by omega) (by rw [next_eq hs hlb hE]; exact hf)
    have e3' : spec_l04Path_l3 k x T ((nb x c last : Nat) : Int) (sl.map fun s : Nat => (s : Int)) k (-1) 0 = some (p : Int) := e3
    have e5 := left5 hp (c := c) hl hT hpn hsl hsz sl.length 0 k [] (by omega) (by omega) (by simp)
    have e5' : spec_l04Path_l5 T (sl.map fun s : Nat => (s : Int)) (p : Int) k 0 [] = some (((sl.filter fun S => en (aB x c) x.p.toNat S p).map fun S => off S p).map fun s : Nat => (s : Int)) := e5
    rw [spec_l04Path_l2, decide_eq_true (by omega), if_pos rfl, e3', Option.bind_some, e5', Option.bind_some, if_pos (by simp; omega), if_pos (by omega), Int.toNat_natCast, rws_get x c _ _ hpn]
    simp only [Option.bind_some]
    rw [ih k' (add u p) p _ _ (by omega) (by simp; omega) (sets_next hs hlb hpn ha hpu) (by rw [List.length_map]; exact Nat.le_trans (List.length_filter_le _ _) hsz) (by rw [add_test]; simp) hpn hE']
    rw [lpN, hf]
    simp

theorem spath_val {k : Nat} (hk : 200000 ≤ k) : spec_l04Path k x c = some (lp (aB x c) x.p.toNat) := by
  have hn : x.p.toNat ≤ 17 := by omega
  have hrl : (rws x c x.p.toNat).length = x.p.toNat := rws_length ..
  have hpos : 0 < 2 ^ x.p.toNat := Nat.pow_pos (by decide)
  have h17 : 2 ^ x.p.toNat ≤ 2048 := (Nat.pow_le_pow_right (by decide) (show x.p.toNat ≤ 11 by omega) : 2 ^ x.p.toNat ≤ 2 ^ 11)
  unfold spec_l04Path
  rw [rows_val (by omega) x (by omega) c, Option.bind_some]
  obtain ⟨T, e1, hl, hT⟩ := ends_val hp (c := c) hk
  rw [e1, Option.bind_some]
  obtain ⟨b, e2, hb1, hb2⟩ := best_val hp (c := c) hk hl hT
  rw [e2, Option.bind_some]
  obtain ⟨f, m, e, hf, hm, hmax, hmin⟩ := lpF_spec (A := aB x c) (n := x.p.toNat) x.p.toNat (by omega)
  have hb := best_eq e hf hm hmax hb1 hb2
  have hm11 : m ≤ 11 := by have := eX_le (A := aB x c) (n := x.p.toNat) _ (add 0 f) f rfl; omega
  obtain ⟨sl, e3, hsz, hsl⟩ := sets_val hp (c := c) hk hl hT b
  rw [e3, Option.bind_some, hl]
  have hw : w64 (((2 ^ x.p.toNat : Nat) : Int) - 1) = ((2 ^ x.p.toNat - 1 : Nat) : Int) := by rw [w64_id (by omega)]; omega
  rw [hw]
  -- the first point
  have hfind : (ir 0 x.p.toNat).find? (nxP x c (2 ^ x.p.toNat - 1) sl) = some (f : Int) := by
    have hP : ∀ p : Nat, p < x.p.toNat → (nxP x c (2 ^ x.p.toNat - 1) sl (p : Int) = true ↔ m ≤ eX (aB x c) x.p.toNat (add 0 p) p) := by
      intro p hpn
      unfold nxP
      rw [Int.toNat_natCast, Nat.testBit_two_pow_sub_one, decide_eq_true hpn, Bool.true_and, List.any_eq_true]
      rw [← en_eX (A := aB x c) m 0 p hpn (by simp)]
      constructor
      · rintro ⟨S, hS, he⟩
        obtain ⟨h1, _, h3⟩ := (hsl S).1 hS
        exact ⟨S, h1, by omega, fun j _ => by simp, he⟩
      · rintro ⟨S, h1, h2, _, he⟩
        exact ⟨S, (hsl S).2 ⟨h1, ⟨p, hpn, he⟩, by omega⟩, he⟩
    exact find_first (fun j hj => Bool.eq_false_iff.2 fun h => by
      have h1 := (hP j (by omega)).1 h
      have h2 := hmin j hj
      omega) ((hP f hf).2 (by omega)) hf
  have hsl1 : ∀ S ∈ sl, S < 2 ^ x.p.toNat := fun S hS => ((hsl S).1 hS).1
  obtain ⟨k', rfl⟩ : ∃ q, k = q + 1 := ⟨k - 1, by omega⟩
  have e4 := next3 hp (c := c) (k := k' + 1) hl hT hk (p63 hn (Nat.sub_lt hpos (by decide) : 2 ^ x.p.toNat - 1 < 2 ^ x.p.toNat)) hsl1 hsz hf x.p.toNat 0 (k' + 1) (by omega) (by omega) hfind
  have e4' : spec_l04Path_l3 (k' + 1) x T ((2 ^ x.p.toNat - 1 : Nat) : Int) (sl.map fun s : Nat => (s : Int)) (k' + 1) (-1) 0 = some (f : Int) := e4
  have e5 := left5 hp (c := c) hl hT hf hsl1 hsz sl.length 0 (k' + 1) [] (by omega) (by omega) (by simp)
  have e5' : spec_l04Path_l5 T (sl.map fun s : Nat => (s : Int)) (f : Int) (k' + 1) 0 [] = some (((sl.filter fun S => en (aB x c) x.p.toNat S f).map fun S => off S f).map fun s : Nat => (s : Int)) := e5
  have hs0 : SetsOK x c (add 0 f) f m ((sl.filter fun S => en (aB x c) x.p.toNat S f).map fun S => off S f) := by
    intro S'
    rw [List.mem_map]
    constructor
    · rintro ⟨S, hS, rfl⟩
      obtain ⟨h1, he⟩ := List.mem_filter.1 hS
      obtain ⟨hlt, _, hc⟩ := (hsl S).1 h1
      have hbt := en_bit he
      have := cnt_off hbt hf
      refine ⟨Nat.lt_trans (off_self hbt) hlt, by omega, fun j hj => ?_, by rw [add_off hbt]; exact he⟩
      rw [off_test hbt] at hj
      simp at hj
      rw [add_test]
      have : ¬ f = j := fun h => hj.2 h.symm
      simp [this]
    · rintro ⟨hlt, hc, hd, he⟩
      have hbt : S'.testBit f = false := by
        cases hbt : S'.testBit f with
        | false => rfl
        | true => have := hd f hbt; rw [add_test] at this; simp at this
      exact ⟨add S' f, List.mem_filter.2 ⟨(hsl _).2 ⟨add_lt hlt hf, ⟨f, hf, he⟩, by rw [cnt_add hbt hf]; omega⟩, he⟩, off_add hbt⟩
  have hgo := spath_go hp (c := c) hl hT hk b (by omega) m k' (add 0 f) f _ [(f : Int)] (by omega) (by simp; omega) hs0 (by rw [List.length_map]; exact Nat.le_trans (List.length_filter_le _ _) hsz) (by rw [add_test]; simp) hf hm.symm
  rw [spec_l04Path_l2, decide_eq_true (by simp; omega), if_pos rfl, e4', Option.bind_some, e5', Option.bind_some, if_pos (by simp), if_pos (by omega), Int.toNat_natCast, rws_get x c _ _ hf]
  simp only [Option.bind_some, List.nil_append]
  rw [hgo]
  unfold lp
  rw [e]
  simp
end

theorem getD_take {l : List Int} {i n : Nat} (h : i < n) : (l.take n).getD i 0 = l.getD i 0 := by
  rw [List.getD_eq_getElem?_getD, List.getElem?_take, if_pos h, ← List.getD_eq_getElem?_getD]
theorem lst_getD : ∀ (t : List Int) (f : Int), (f :: t).getD t.length 0 = lst f t
  | [], f => rfl
  | b :: t, f => by
    have := lst_getD t b
    rw [lst, ← this]; rfl
theorem cont_mem {k : Nat} {l : List Int} {v : Int} (h : l.length + 1 ≤ k) (hl : l.length ≤ 1000) : slices_Contains k l v = some (decide (v ∈ l)) := by
  rw [index_eq k l v h (by omega)]
  congr 1
  rw [decide_eq_decide]
  constructor
  · rintro ⟨a, ha, rfl⟩
    rw [List.getD_eq_getElem?_getD, List.getElem?_eq_getElem ha]
    exact List.getElem_mem ha
  · intro h
    obtain ⟨a, ha, e⟩ := List.getElem_of_mem h
    exact ⟨a, ha, by rw [List.getD_eq_getElem?_getD, List.getElem?_eq_getElem ha]; exact e⟩

section
variable {x : Col} {c : Int} (hp : 1 ≤ x.p ∧ x.p ≤ 11)
include hp

theorem cycle_val {f m : Nat} (hf : f < x.p.toNat) (hm : 3 ≤ m) (hm17 : m ≤ 17) : ∀ (r k : Nat) (t cells : List Int), t.length + 1 + r = m → Pf (aB x c) x.p.toNat f t → cells.length = 17 → cells.take (t.length + 1) = (f : Int) :: t → r + 60 ≤ k →
    ∃ cells', impl_Colouring_cycle k x c (m : Int) cells (t.length + 1) = some ((dfs (aB x c) x.p.toNat f r t).map fun _ => m, cells') ∧ cells'.length = 17 ∧ cells'.take (t.length + 1) = (f : Int) :: t ∧ ∀ t', dfs (aB x c) x.p.toNat f r t = some t' → cells'.take m = (f : Int) :: t' := by
  intro r
  induction r with
  | zero =>
    intro k t cells htm hP hcl hct hk
    obtain ⟨k, rfl⟩ : ∃ q, k = q + 1 := ⟨k - 1, by omega⟩
    have hg : ∀ i, i < t.length + 1 → cells.getD i 0 = ((f : Int) :: t).getD i 0 := fun i hi => by rw [← hct, getD_take hi]
    have hw : w64 (((t.length + 1 : Nat) : Int) - 1) = (t.length : Int) := by rw [w64_id (by omega)]; omega
    have hl := hP.len hf
    have hlast : lst (f : Int) t < 17 ∧ 0 ≤ lst (f : Int) t := by
      rcases lst_mem t f with ⟨e, _⟩ | hmm
      · rw [e]; omega
      · have := hP.rg _ hmm; omega
    rw [impl_Colouring_cycle]
    unfold impl_Colouring_cycle_body
    rw [hw, if_pos (by omega), List.drop_zero, hct]
    rw [decide_eq_true (show impl_size ((f : Int) :: t) = (m : Int) by unfold impl_size; simp; omega), if_pos rfl, if_pos (by omega)]
    have e0 : cells.getD (0 + (0 : Int).toNat) 0 = (f : Int) := hg 0 (by omega)
    have e1 : cells.getD (0 + (t.length : Int).toNat) 0 = lst (f : Int) t := by rw [Int.toNat_natCast, Nat.zero_add, hg _ (by omega), lst_getD]
    have e2 : cells.getD (0 + (1 : Int).toNat) 0 = t.headD 0 := by
      have := hg 1 (by omega)
      rw [show 0 + (1 : Int).toNat = 1 from rfl, this]
      cases t with
      | nil => rfl
      | cons a t => rfl
    rw [e0, e1, e2, joins_val x c f (lst f t) (by omega) (by omega), Option.bind_some]
    have hsym : aB x c (f : Int) (lst (f : Int) t) = aB x c (lst (f : Int) t) (f : Int) := aB_comm ..
    rw [hsym]
    have hd : dfs (aB x c) x.p.toNat f 0 t = bif aB x c (lst f t) f && decide (t.headD 0 < lst f t) then some t else none := by rw [dfs]
    rw [hd]
    cases ha : aB x c (lst (f : Int) t) (f : Int) with
    | false => exact ⟨cells, by simp, hcl, hct, fun t' h => by simp at h⟩
    | true =>
      rw [if_pos rfl, if_pos (by omega)]
      by_cases hlt : t.headD 0 < lst (f : Int) t
      · rw [decide_eq_true hlt]
        refine ⟨cells, ?_, hcl, hct, fun t' h => ?_⟩
        · simp; omega
        · simp at h
          subst h
          rw [← hct]; congr 1; omega
      · rw [decide_eq_false hlt]
        exact ⟨cells, by simp, hcl, hct, fun t' h => by simp at h⟩
  | succ r ih =>
    intro k t cells htm hP hcl hct hk
    obtain ⟨k, rfl⟩ : ∃ q, k = q + 1 := ⟨k - 1, by omega⟩
    have hg : ∀ i, i < t.length + 1 → cells.getD i 0 = ((f : Int) :: t).getD i 0 := fun i hi => by rw [← hct, getD_take hi]
    have hw : w64 (((t.length + 1 : Nat) : Int) - 1) = (t.length : Int) := by rw [w64_id (by omega)]; omega
    have hl := hP.len hf
    have hlast : lst (f : Int) t < 17 ∧ 0 ≤ lst (f : Int) t := by
      rcases lst_mem t f with ⟨e, _⟩ | hmm
      · rw [e]; omega
      · have := hP.rg _ hmm; omega
    have e0 : cells.getD (0 + (0 : Int).toNat) 0 = (f : Int) := hg 0 (by omega)
    have e1 : cells.getD (0 + (t.length : Int).toNat) 0 = lst (f : Int) t := by rw [Int.toNat_natCast, Nat.zero_add, hg _ (by omega), lst_getD]
    have hwf : w64 ((f : Int) + 1) = ((f + 1 : Nat) : Int) := by rw [w64_id (by omega)]; omega
    rw [impl_Colouring_cycle]
    unfold impl_Colouring_cycle_body
    rw [hw, if_pos (by omega), List.drop_zero, hct]
    rw [decide_eq_false (show ¬ impl_size ((f : Int) :: t) = (m : Int) by unfold impl_size; simp; omega), if_neg (by simp), if_pos (by omega), e0, hwf]
    obtain ⟨res, h1, h2⟩ := loopI (fun k' j (σ : List Int) => impl_Colouring_cycle_l0 k (impl_Colouring_cycle k) x c (m : Int) cells (t.length + 1) k' j σ) x.p ((f + 1 : Nat) : Int)
      (fun j σ => ∃ jn : Nat, j = jn ∧ jn ≤ x.p.toNat ∧ (ir jn x.p.toNat).findSome? (fun p => bif !decide (p ∈ t) && aB x c (lst f t) p then dfs (aB x c) x.p.toNat f r (t ++ [p]) else none) = dfs (aB x c) x.p.toNat f (r + 1) t ∧ σ.length = 17 ∧ σ.take (t.length + 1) = (f : Int) :: t)
      (fun res => ∃ cells', cells'.length = 17 ∧ cells'.take (t.length + 1) = (f : Int) :: t ∧ ((dfs (aB x c) x.p.toNat f (r + 1) t = none ∧ res = .inl cells') ∨ ∃ t', dfs (aB x c) x.p.toNat f (r + 1) t = some t' ∧ cells'.take m = (f : Int) :: t' ∧ res = .inr (some m, cells')))
      (fun k' j σ h0 h1 hI => by
        obtain ⟨jn, rfl, hj, hfs, hσl, hσt⟩ := hI
        have hjn : jn < x.p.toNat := by omega
        have hwj : w64 ((jn : Int) + 1) = ((jn : Int) + 1) := w64_id (by omega)
        have hmem : decide ((jn : Int) ∈ (f : Int) :: t) = decide ((jn : Int) ∈ t) := by
          rw [decide_eq_decide, List.mem_cons]
          exact ⟨fun h => h.resolve_left (by omega), .inr⟩
        rw [ir_next hjn, List.findSome?_cons] at hfs
        rw [impl_Colouring_cycle_l0, decide_eq_true (show (jn : Int) < x.p from h1), if_pos rfl, List.drop_zero, hσt, cont_mem (by simp; omega) (by simp; omega), Option.bind_some, hmem, hw, e1, joins_val x c (lst f t) jn (by omega) (by omega)]
        by_cases hjt : (jn : Int) ∈ t
        · left
          rw [decide_eq_true hjt] at hfs
          refine ⟨σ, ?_, jn + 1, by omega, by omega, by simpa using hfs, hσl, hσt⟩
          rw [decide_eq_true hjt]
          simp [hwj]
        · rw [decide_eq_false hjt] at hfs ⊢
          cases ha : aB x c (lst (f : Int) t) (jn : Int) with
          | false =>
            left
            rw [ha] at hfs
            refine ⟨σ, ?_, jn + 1, by omega, by omega, by simpa using hfs, hσl, hσt⟩
            simp [hwj]
          | true =>
            rw [ha] at hfs
            simp only [Bool.not_false, Bool.and_self, cond_true] at hfs
            obtain ⟨hs1, hs2⟩ := spl_one σ (t.length + 1) (jn : Int) (by omega)
            have hP' : Pf (aB x c) x.p.toNat f (t ++ [(jn : Int)]) := hP.snoc ha hjt (by omega) (by omega)
            obtain ⟨cells', e3, hl', ht', hres⟩ := ih k (t ++ [(jn : Int)]) (splicedL σ (0 + (t.length + 1)) ([(jn : Int)].length) [(jn : Int)]) (by simp; omega) hP' (by rw [hs1]; exact hσl) (by
              rw [show (t ++ [(jn : Int)]).length + 1 = t.length + 1 + 1 by simp, hs2, hσt]; rfl) (by omega)
            have hl2 : t.length + 1 + ([(jn : Int)] : List Int).length = (t ++ [(jn : Int)]).length + 1 := by simp
            have ht2 : cells'.take (t.length + 1) = (f : Int) :: t := by
              have := congrArg (List.take (t.length + 1)) ht'
              rw [List.take_take, Nat.min_eq_left (by simp)] at this
              rw [this]; simp
            simp only [Bool.not_false, if_true, Option.bind_some]
            rw [if_pos (by simp; omega), hl2, e3]
            simp only [Option.bind_some]
            cases hd : dfs (aB x c) x.p.toNat f r (t ++ [(jn : Int)]) with
            | none =>
              left
              rw [hd] at hfs
              refine ⟨cells', ?_, jn + 1, by omega, by omega, by simpa using hfs, hl', ht2⟩
              simp [hwj]
            | some t' =>
              right
              rw [hd] at hfs
              refine ⟨_, rfl, cells', hl', ht2, .inr ⟨t', by rw [← hfs], hres t' hd, ?_⟩⟩
              rfl)
      (fun k' j σ h0 h1 hI => by
        obtain ⟨jn, rfl, hj, hfs, hσl, hσt⟩ := hI
        rw [impl_Colouring_cycle_l0, decide_eq_false (show ¬ (jn : Int) < x.p by omega), if_neg (by simp)]
        rw [ir_end (by omega)] at hfs
        exact ⟨_, rfl, σ, hσl, hσt, .inl ⟨by rw [← hfs]; rfl, rfl⟩⟩)
      k ((f + 1 : Nat) : Int) cells (by omega) (by omega) ⟨f + 1, rfl, by omega, by rw [dfs], hcl, hct⟩
    try simp only at h1
    rw [h1]
    obtain ⟨cells', hl', ht', ⟨hd, rfl⟩ | ⟨t', hd, hr, rfl⟩⟩ := h2
    · rw [hd]
      exact ⟨cells', rfl, hl', ht', fun t'' h => by cases h⟩
    · rw [hd]
      exact ⟨cells', rfl, hl', ht', fun t'' h => by cases h; exact hr⟩

/-- The first cycle of so many points. -/
def fcyc (A : Int → Int → Bool) (n m : Nat) : Option (List Int) := if m < 3 then none else (List.range (n + 1 - m)).findSome? fun f => (dfs A n f (m - 1) []).map ((f : Int) :: ·)

omit hp in
theorem range_next (F : Nat → Option (List Int)) (b : Nat) : ∀ i, i < b → ((List.range b).drop i).findSome? F = match F i with | some z => some z | none => ((List.range b).drop (i + 1)).findSome? F := by
  intro i hi
  rw [List.drop_eq_getElem_cons (by simpa using hi), List.findSome?_cons, List.getElem_range]
  cases F i <;> rfl

theorem firstCycle_val {k : Nat} (hk : 200 ≤ k) {m : Nat} (hm17 : m ≤ 17) : impl_Colouring_firstCycle k x c (m : Int) = some (fcyc (aB x c) x.p.toNat m) := by
  unfold impl_Colouring_firstCycle fcyc
  by_cases hm : m < 3
  · rw [decide_eq_true (by omega), if_pos rfl, if_pos hm]
  · rw [decide_eq_false (by omega), if_neg (by simp), if_neg hm]
    have hw : w64 (w64 (x.p - (m : Int)) + 1) = x.p - m + 1 := by rw [w64_id (n := x.p - m) (by omega), w64_id (by omega)]
    obtain ⟨res, h1, h2⟩ := loopI (fun k' j (_ : Unit) => impl_Colouring_firstCycle_l0 k x c (m : Int) k' j) (x.p - m + 1) 0
      (fun j _ => ∃ jn : Nat, j = jn ∧ ((List.range (x.p.toNat + 1 - m)).drop jn).findSome? (fun f => (dfs (aB x c) x.p.toNat f (m - 1) []).map ((f : Int) :: ·)) = (List.range (x.p.toNat + 1 - m)).findSome? (fun f => (dfs (aB x c) x.p.toNat f (m - 1) []).map ((f : Int) :: ·)))
      (fun res => (match res with | .inl _ => (none : Option (List Int)) | .inr z => z) = (List.range (x.p.toNat + 1 - m)).findSome? (fun f => (dfs (aB x c) x.p.toNat f (m - 1) []).map ((f : Int) :: ·)))
      (fun k' j _ h0 h1 hI => by
        obtain ⟨jn, rfl, hfs⟩ := hI
        have hjn : jn < x.p.toNat + 1 - m := by omega
        have hwj : w64 ((jn : Int) + 1) = ((jn : Int) + 1) := w64_id (by omega)
        rw [range_next _ _ jn hjn] at hfs
        have hrl : (List.replicate 17 (0 : Int)).length = 17 := List.length_replicate ..
        obtain ⟨hs1, hs2⟩ := spl_one (List.replicate 17 (0 : Int)) 0 (jn : Int) (by rw [hrl]; omega)
        obtain ⟨cells', e3, hl', ht', hres⟩ := cycle_val hp (c := c) (f := jn) (m := m) (by omega) (by omega) hm17 (m - 1) k [] (splicedL (List.replicate 17 (0 : Int)) (0 + 0) ([(jn : Int)].length) [(jn : Int)]) (by simp; omega) ⟨trivial, List.nodup_nil, fun z hz => by cases hz⟩ (by rw [hs1, hrl]) (by
          show List.take 1 _ = _
          rw [hs2]; simp) (by omega)
        rw [impl_Colouring_firstCycle_l0, hw, decide_eq_true h1, if_pos rfl, if_pos (by rw [hrl]; simp)]
        have e3' : impl_Colouring_cycle k x c (m : Int) (splicedL (List.replicate 17 (0 : Int)) (0 + 0) ([(jn : Int)].length) [(jn : Int)]) (0 + ([(jn : Int)] : List Int).length) = _ := e3
        rw [e3', Option.bind_some]
        cases hd : dfs (aB x c) x.p.toNat jn (m - 1) [] with
        | none =>
          left
          rw [hd] at hfs
          exact ⟨(), by rw [hwj]; rfl, jn + 1, by omega, hfs⟩
        | some t' =>
          right
          rw [hd] at hfs
          refine ⟨.inr (some ((jn : Int) :: t')), ?_, ?_⟩
          · simp only [Option.map_some]
            rw [if_pos (by omega), hres t' hd]; rfl
          · rw [← hfs]; rfl)
      (fun k' j _ h0 h1 hI => by
        obtain ⟨jn, rfl, hfs⟩ := hI
        rw [impl_Colouring_firstCycle_l0, hw, decide_eq_false (by omega), if_neg (by simp)]
        refine ⟨.inl (), rfl, ?_⟩
        rw [← hfs, List.drop_eq_nil_of_le (by simp; omega)]; rfl)
      k 0 () (by omega) (by omega) ⟨0, rfl, by rw [List.drop_zero]⟩
    try simp only at h1
    rw [h1, Option.bind_some, ← h2]
    cases res <;> rfl
end

section
variable {A : Int → Int → Bool} {n f : Nat}
theorem la_ge {S p : Nat} (h : la A n f S p = true) : f ≤ p := by
  rcases (la_iff (la_bit h)).1 h with ⟨rfl, _⟩ | ⟨h, _⟩ <;> omega
theorem la_first : ∀ {S p : Nat}, la A n f S p = true → S.testBit f = true := by
  intro S
  induction S using Nat.strongRecOn with
  | _ S ih =>
  intro p h
  have hb := la_bit h
  rcases (la_iff hb).1 h with ⟨rfl, _⟩ | ⟨hfp, q, hq, hl, _⟩
  · exact hb
  · have := ih _ (off_self hb) hl
    rw [off_test hb] at this
    simp at this
    exact this.1
theorem la_two {S p : Nat} (h : la A n f S p = true) : 2 ^ f ≤ S := Nat.ge_two_pow_of_testBit (la_first h)

/-- What the table holds in the midst of the rounds. -/
def CV (A : Int → Int → Bool) (n f S i j t q : Nat) : Prop := (la A n f t q = true ∧ (q = f ∨ off t q < S)) ∨ (f < q ∧ q < n ∧ t.testBit q = true ∧ off t q = S ∧ ((∃ p, p < i ∧ la A n f S p = true ∧ A p q = true) ∨ (q < j ∧ la A n f S i = true ∧ A i q = true)))
theorem CV_self {S i j p : Nat} : CV A n f S i j S p ↔ la A n f S p = true := by
  constructor
  · rintro (⟨h, _⟩ | ⟨_, _, hb, e, _⟩)
    · exact h
    · have := off_self hb; omega
  · intro h
    exact .inl ⟨h, .inr (off_self (la_bit h))⟩
theorem CV_row {S i t q : Nat} (hl : la A n f S i = true) : CV A n f S i n t q ↔ CV A n f S (i + 1) (f + 1) t q := by
  constructor
  · rintro (h | ⟨h1, h2, h3, h4, ⟨p, hp, h5⟩ | ⟨h5, h6⟩⟩)
    · exact .inl h
    · exact .inr ⟨h1, h2, h3, h4, .inl ⟨p, by omega, h5⟩⟩
    · exact .inr ⟨h1, h2, h3, h4, .inl ⟨i, by omega, h6⟩⟩
  · rintro (h | ⟨h1, h2, h3, h4, ⟨p, hp, h5⟩ | ⟨h5, h6⟩⟩)
    · exact .inl h
    · by_cases e : p = i
      · subst e; exact .inr ⟨h1, h2, h3, h4, .inr ⟨h2, h5⟩⟩
      · exact .inr ⟨h1, h2, h3, h4, .inl ⟨p, by omega, h5⟩⟩
    · omega
theorem CV_skip {S i t q : Nat} (hl : la A n f S i = false) : CV A n f S i (f + 1) t q ↔ CV A n f S (i + 1) (f + 1) t q := by
  constructor
  · rintro (h | ⟨h1, h2, h3, h4, ⟨p, hp, h5⟩ | ⟨h5, h6, h7⟩⟩)
    · exact .inl h
    · exact .inr ⟨h1, h2, h3, h4, .inl ⟨p, by omega, h5⟩⟩
    · omega
  · rintro (h | ⟨h1, h2, h3, h4, ⟨p, hp, h5⟩ | ⟨h5, h6⟩⟩)
    · exact .inl h
    · by_cases e : p = i
      · subst e; rw [hl] at h5; cases h5.1
      · exact .inr ⟨h1, h2, h3, h4, .inl ⟨p, by omega, h5⟩⟩
    · omega
theorem CV_next {S t q : Nat} : CV A n f S n (f + 1) t q ∧ q < n ↔ CV A n f (S + 1) f (f + 1) t q ∧ q < n := by
  constructor
  · rintro ⟨h, hq⟩
    refine ⟨?_, hq⟩
    rcases h with ⟨h1, h2⟩ | ⟨h1, h2, h3, h4, ⟨p, hp, h5, h6⟩ | ⟨h5, _⟩⟩
    · exact .inl ⟨h1, h2.imp id fun h => by omega⟩
    · refine .inl ⟨(la_iff h3).2 (.inr ⟨h1, p, hp, by rw [h4]; exact h5, h6⟩), .inr (by omega)⟩
    · omega
  · rintro ⟨h, hq⟩
    refine ⟨?_, hq⟩
    rcases h with ⟨h1, h2⟩ | ⟨h1, h2, h3, h4, ⟨p, hp, h5, h6⟩ | ⟨h5, _⟩⟩
    · rcases h2 with h2 | h2
      · exact .inl ⟨h1, .inl h2⟩
      · by_cases e : off t q = S
        · have hb := la_bit h1
          rcases (la_iff hb).1 h1 with ⟨rfl, _⟩ | ⟨hfp, p, hp, hl, ha⟩
          · exact .inl ⟨h1, .inl rfl⟩
          · rw [e] at hl
            exact .inr ⟨hfp, hq, hb, e, .inl ⟨p, hp, hl, ha⟩⟩
        · exact .inl ⟨h1, .inr (by omega)⟩
    · have := la_ge h5; omega
    · omega
theorem CV_none {S i t q : Nat} (h : ∀ p, la A n f S p = false) : CV A n f S i (f + 1) t q ↔ CV A n f S n (f + 1) t q := by
  constructor
  · rintro (h1 | ⟨_, _, _, _, ⟨p, hp, h5, _⟩ | ⟨_, h5, _⟩⟩)
    · exact .inl h1
    · rw [h] at h5; cases h5
    · rw [h] at h5; cases h5
  · rintro (h1 | ⟨_, _, _, _, ⟨p, hp, h5, _⟩ | ⟨_, h5, _⟩⟩)
    · exact .inl h1
    · rw [h] at h5; cases h5
    · rw [h] at h5; cases h5
theorem CV_start {t q : Nat} : CV A n f (2 ^ f) f (f + 1) t q ↔ t = 2 ^ f ∧ q = f := by
  constructor
  · rintro (⟨h1, h2⟩ | ⟨h1, h2, h3, h4, ⟨p, hp, h5, _⟩ | ⟨h5, _⟩⟩)
    · have hb := la_bit h1
      rcases (la_iff hb).1 h1 with ⟨rfl, e⟩ | ⟨hfp, p, hp, hl, ha⟩
      · exact ⟨e, rfl⟩
      · have := la_two hl
        rcases h2 with h2 | h2 <;> omega
    · have := la_ge h5; omega
    · omega
  · rintro ⟨rfl, rfl⟩
    have hb : (2 ^ q).testBit q = true := by rw [Nat.testBit_two_pow]; simp
    exact .inl ⟨(la_iff hb).2 (.inl ⟨rfl, rfl⟩), .inl rfl⟩

/-- A table of rows of bits. -/
def TR (n : Nat) (P : Nat → Nat → Prop) (T : List Int) : Prop := T.length = 2 ^ n ∧ ∀ t, t < 2 ^ n → ∃ w : Nat, T.getD t 0 = (w : Int) ∧ w < 2 ^ n ∧ ∀ q, w.testBit q = true ↔ P t q ∧ q < n
theorem TR.congr {P Q : Nat → Nat → Prop} {T : List Int} (h : TR n P T) (hpq : ∀ t q, P t q ∧ q < n ↔ Q t q ∧ q < n) : TR n Q T := by
  refine ⟨h.1, fun t ht => ?_⟩
  obtain ⟨w, h1, h2, h3⟩ := h.2 t ht
  exact ⟨w, h1, h2, fun q => by rw [h3 q]; exact hpq t q⟩

/-! ### The lengths that are met -/
def CQ1 (A : Int → Int → Bool) (n f j : Nat) : Prop := ∃ S p, S < 2 ^ n ∧ p < n ∧ la A n f S p = true ∧ cnt n S = j ∧ A p f = true
def CQ (A : Int → Int → Bool) (n f S i j : Nat) : Prop := 2 < j ∧ ((∃ f', f' < f ∧ CQ1 A n f' j) ∨ (∃ S' p, S' < S ∧ S' < 2 ^ n ∧ p < n ∧ la A n f S' p = true ∧ cnt n S' = j ∧ A p f = true) ∨ (∃ p, p < i ∧ p < n ∧ la A n f S p = true ∧ cnt n S = j ∧ A p f = true))
def MR (n : Nat) (Q : Nat → Prop) (L : List Bool) : Prop := L.length = n + 1 ∧ ∀ j, j ≤ n → (L.getD j false = true ↔ Q j)
theorem MR.congr {P Q : Nat → Prop} {L : List Bool} (h : MR n P L) (hpq : ∀ j, P j ↔ Q j) : MR n Q L := ⟨h.1, fun j hj => (h.2 j hj).trans (hpq j)⟩
theorem CQ_no {S i j : Nat} (h : ¬ (i < n ∧ la A n f S i = true ∧ cnt n S = j ∧ A i f = true ∧ 2 < j)) : CQ A n f S i j ↔ CQ A n f S (i + 1) j := by
  constructor
  · rintro ⟨h2, h1 | h1 | ⟨p, hp, h3⟩⟩
    · exact ⟨h2, .inl h1⟩
    · exact ⟨h2, .inr (.inl h1)⟩
    · exact ⟨h2, .inr (.inr ⟨p, by omega, h3⟩)⟩
  · rintro ⟨h2, h1 | h1 | ⟨p, hp, h3⟩⟩
    · exact ⟨h2, .inl h1⟩
    · exact ⟨h2, .inr (.inl h1)⟩
    · by_cases e : p = i
      · subst e; exact absurd ⟨h3.1, h3.2.1, h3.2.2.1, h3.2.2.2, h2⟩ h
      · exact ⟨h2, .inr (.inr ⟨p, by omega, h3⟩)⟩
theorem CQ_next {S j : Nat} (hS : S < 2 ^ n) : CQ A n f S n j ↔ CQ A n f (S + 1) f j := by
  constructor
  · rintro ⟨h2, h1 | ⟨S', p, h3, h4⟩ | ⟨p, hp, h3⟩⟩
    · exact ⟨h2, .inl h1⟩
    · exact ⟨h2, .inr (.inl ⟨S', p, by omega, h4⟩)⟩
    · exact ⟨h2, .inr (.inl ⟨S, p, by omega, hS, h3⟩)⟩
  · rintro ⟨h2, h1 | ⟨S', p, h3, h4⟩ | ⟨p, hp, h3⟩⟩
    · exact ⟨h2, .inl h1⟩
    · by_cases e : S' = S
      · subst e; exact ⟨h2, .inr (.inr ⟨p, h4.2.1, h4.2⟩)⟩
      · exact ⟨h2, .inr (.inl ⟨S', p, by omega, h4⟩)⟩
    · have := la_ge h3.2.1; omega
theorem CQ_none {S i j : Nat} (h : ∀ p, la A n f S p = false) : CQ A n f S i j ↔ CQ A n f S n j := by
  constructor
  · rintro ⟨h2, h1 | h1 | ⟨p, hp, _, h3, _⟩⟩
    · exact ⟨h2, .inl h1⟩
    · exact ⟨h2, .inr (.inl h1)⟩
    · rw [h] at h3; cases h3
  · rintro ⟨h2, h1 | h1 | ⟨p, hp, _, h3, _⟩⟩
    · exact ⟨h2, .inl h1⟩
    · exact ⟨h2, .inr (.inl h1)⟩
    · rw [h] at h3; cases h3
theorem CQ_start {j : Nat} : CQ A n f 0 0 j ↔ CQ A n f (2 ^ f) f j := by
  constructor
  · rintro ⟨h2, h1 | ⟨S', p, h3, _⟩ | ⟨p, hp, _⟩⟩
    · exact ⟨h2, .inl h1⟩
    · omega
    · omega
  · rintro ⟨h2, h1 | ⟨S', p, h3, _, _, h4, _⟩ | ⟨p, hp, _, h3, _⟩⟩
    · exact ⟨h2, .inl h1⟩
    · have := la_two h4; omega
    · have := la_ge h3; omega
theorem CQ_end {j : Nat} : CQ A n f (2 ^ n) f j ↔ CQ A n (f + 1) 0 0 j := by
  constructor
  · rintro ⟨h2, ⟨f', h1, h3⟩ | ⟨S', p, h3, h4⟩ | ⟨p, hp, _, h3, _⟩⟩
    · exact ⟨h2, .inl ⟨f', by omega, h3⟩⟩
    · exact ⟨h2, .inl ⟨f, by omega, S', p, h4⟩⟩
    · have := la_ge h3; omega
  · rintro ⟨h2, ⟨f', h1, h3⟩ | ⟨S', p, h3, _⟩ | ⟨p, hp, _⟩⟩
    · by_cases e : f' = f
      · subst e
        obtain ⟨S', p, h4⟩ := h3
        exact ⟨h2, .inr (.inl ⟨S', p, h4.1, h4⟩)⟩
      · exact ⟨h2, .inl ⟨f', by omega, h3⟩⟩
    · omega
    · omega
end

section
variable {x : Col} {c : Int} (hp : 1 ≤ x.p ∧ x.p ≤ 11)
include hp

theorem len_in {f S i k : Nat} {T : List Int} (met : List Bool) (hk : 200 ≤ k) (hf : f < x.p.toNat) (hS : S < 2 ^ x.p.toNat) (hi : i < x.p.toNat) (hl : la (aB x c) x.p.toNat f S i = true) (hT : TR x.p.toNat (CV (aB x c) x.p.toNat f S i (f + 1)) T) :
    ∃ T', spec_l04Lengths_l3 x (rws x c x.p.toNat) (S : Int) (i : Int) met k ((f + 1 : Nat) : Int) T = some (met, T') ∧ TR x.p.toNat (CV (aB x c) x.p.toNat f S (i + 1) (f + 1)) T' := by
  have hn : x.p.toNat ≤ 17 := by omega
  have hS63 := p63 hn hS
  have hrl : (rws x c x.p.toNat).length = x.p.toNat := rws_length ..
  obtain ⟨r, h1, T', rfl, h2⟩ := loopI (fun k' j (T : List Int) => spec_l04Lengths_l3 x (rws x c x.p.toNat) (S : Int) (i : Int) met k' j T) x.p ((f + 1 : Nat) : Int)
    (fun j T => ∃ jn : Nat, j = jn ∧ jn ≤ x.p.toNat ∧ TR x.p.toNat (CV (aB x c) x.p.toNat f S i jn) T)
    (fun r => ∃ T', r = (met, T') ∧ TR x.p.toNat (CV (aB x c) x.p.toNat f S (i + 1) (f + 1)) T')
    (fun k' j T h0 h1 hI => by
      obtain ⟨jn, rfl, hj, hT⟩ := hI
      left
      have hjn : jn < x.p.toNat := by omega
      have hfj : f < jn := by omega
      have hwj : w64 ((jn : Int) + 1) = ((jn : Int) + 1) := w64_id (by omega)
      have hu : IntKind.u64.wrap (jn : Int) = jn := u64n (by omega)
      have hval : (if 0 ≤ (i : Int) ∧ (i : Int) < ((rws x c x.p.toNat).length : Int) then (if 0 ≤ IntKind.u64.wrap (jn : Int) then (if decide (bAnd .i64 (bShr .i64 ((rws x c x.p.toNat).getD (i : Int).toNat 0) (IntKind.u64.wrap (jn : Int))) 1 = 1) then (if 0 ≤ IntKind.u64.wrap (jn : Int) then some (decide (bAnd .i64 (bShr .i64 (S : Int) (IntKind.u64.wrap (jn : Int))) 1 = 0)) else none) else some false) else none) else none : Option Bool) = some (aB x c (i : Int) (jn : Int) && !S.testBit jn) := by
        rw [hu, if_pos (by omega), if_pos (by omega), Int.toNat_natCast, rbit (by omega) hi hjn, bit0 hS63 (by omega)]
        cases aB x c (i : Int) (jn : Int) with
        | false => rfl
        | true => rw [if_pos rfl, if_pos (by omega)]; rfl
      rw [spec_l04Lengths_l3, decide_eq_true (show (jn : Int) < x.p from h1), if_pos rfl, hval, Option.bind_some, hu]
      have hsame : ¬ (aB x c (i : Int) (jn : Int) = true ∧ S.testBit jn = false) → TR x.p.toNat (CV (aB x c) x.p.toNat f S i (jn + 1)) T := fun hno => hT.congr fun t q => by
        refine and_congr_left fun _ => or_congr Iff.rfl ?_
        constructor
        · rintro ⟨a1, a2, a3, a4, a5 | ⟨a5, a6⟩⟩
          · exact ⟨a1, a2, a3, a4, .inl a5⟩
          · exact ⟨a1, a2, a3, a4, .inr ⟨by omega, a6⟩⟩
        · rintro ⟨a1, a2, a3, a4, a5 | ⟨a5, a6, a7⟩⟩
          · exact ⟨a1, a2, a3, a4, .inl a5⟩
          · by_cases e : q = jn
            · subst e
              refine absurd ⟨a7, ?_⟩ hno
              rw [← a4, off_test a3]; simp
            · exact ⟨a1, a2, a3, a4, .inr ⟨by omega, a6, a7⟩⟩
      cases ha : aB x c (i : Int) (jn : Int) with
      | false =>
        refine ⟨T, ?_, jn + 1, by omega, by omega, hsame fun h => by rw [ha] at h; cases h.1⟩
        simp [hwj]
      | true =>
        cases hb : S.testBit jn with
        | true =>
          refine ⟨T, ?_, jn + 1, by omega, by omega, hsame fun h => by rw [hb] at h; cases h.2⟩
          simp [hwj]
        | false =>
          have hlt : add S jn < 2 ^ x.p.toNat := add_lt hS hjn
          obtain ⟨w, hw1, hw2, hw3⟩ := hT.2 _ hlt
          have hTl := hT.1
          rw [Bool.not_false, Bool.and_self, if_pos rfl, if_pos (by omega), or_add hn hS hjn, if_pos (by omega), if_pos (by omega), if_pos (by omega), Int.toNat_natCast, hw1, or_add hn hw2 hjn, Option.bind_some, hwj]
          refine ⟨T.set (add S jn) ((add w jn : Nat) : Int), rfl, jn + 1, by omega, by omega, by rw [List.length_set]; exact hTl, fun t ht => ?_⟩
          by_cases e : add S jn = t
          · subst e
            refine ⟨add w jn, by rw [List.getD_eq_getElem?_getD, List.getElem?_set_self (by omega)]; rfl, add_lt hw2 hjn, fun q => ?_⟩
            rw [add_test, Bool.or_eq_true, hw3 q, decide_eq_true_iff]
            constructor
            · rintro (⟨h, hq⟩ | rfl)
              · refine ⟨?_, hq⟩
                rcases h with h | ⟨a1, a2, a3, a4, a5 | ⟨a5, a6⟩⟩
                · exact .inl h
                · exact .inr ⟨a1, a2, a3, a4, .inl a5⟩
                · exact .inr ⟨a1, a2, a3, a4, .inr ⟨by omega, a6⟩⟩
              · exact ⟨.inr ⟨hfj, hjn, by rw [add_test]; simp, off_add hb, .inr ⟨by omega, hl, ha⟩⟩, hjn⟩
            · rintro ⟨h, hq⟩
              rcases h with h | ⟨a1, a2, a3, a4, a5 | ⟨a5, a6, a7⟩⟩
              · exact .inl ⟨.inl h, hq⟩
              · exact .inl ⟨.inr ⟨a1, a2, a3, a4, .inl a5⟩, hq⟩
              · by_cases e : q = jn
                · exact .inr e.symm
                · exact .inl ⟨.inr ⟨a1, a2, a3, a4, .inr ⟨by omega, a6, a7⟩⟩, hq⟩
          · obtain ⟨w', hw1', hw2', hw3'⟩ := hT.2 t ht
            refine ⟨w', by rw [List.getD_eq_getElem?_getD, List.getElem?_set_ne e, ← List.getD_eq_getElem?_getD]; exact hw1', hw2', fun q => ?_⟩
            rw [hw3' q]
            refine and_congr_left fun _ => or_congr Iff.rfl ?_
            constructor
            · rintro ⟨a1, a2, a3, a4, a5 | ⟨a5, a6⟩⟩
              · exact ⟨a1, a2, a3, a4, .inl a5⟩
              · exact ⟨a1, a2, a3, a4, .inr ⟨by omega, a6⟩⟩
            · rintro ⟨a1, a2, a3, a4, a5 | ⟨a5, a6, a7⟩⟩
              · exact ⟨a1, a2, a3, a4, .inl a5⟩
              · by_cases e2 : q = jn
                · subst e2
                  exact absurd (by rw [← a4, add_off a3]) e
                · exact ⟨a1, a2, a3, a4, .inr ⟨by omega, a6, a7⟩⟩)
    (fun k' j T h0 h1 hI => by
      obtain ⟨jn, rfl, hj, hT⟩ := hI
      have : jn = x.p.toNat := by omega
      subst this
      rw [spec_l04Lengths_l3, decide_eq_false (by omega), if_neg (by simp)]
      exact ⟨_, rfl, T, rfl, hT.congr fun t q => and_congr_left fun _ => CV_row hl⟩)
    k ((f + 1 : Nat) : Int) T (by omega) (by omega) ⟨f + 1, rfl, by omega, hT⟩
  exact ⟨T', h1, h2⟩

theorem len_mid {f S k : Nat} {T : List Int} {met : List Bool} (hk : 200 ≤ k) (hf : f < x.p.toNat) (hS : S < 2 ^ x.p.toNat) (hT : TR x.p.toNat (CV (aB x c) x.p.toNat f S f (f + 1)) T) (hM : MR x.p.toNat (CQ (aB x c) x.p.toNat f S f) met) :
    ∃ met' T', spec_l04Lengths_l2 k x (rws x c x.p.toNat) (f : Int) (S : Int) k (f : Int) met T = some (met', T') ∧ TR x.p.toNat (CV (aB x c) x.p.toNat f S x.p.toNat (f + 1)) T' ∧ MR x.p.toNat (CQ (aB x c) x.p.toNat f S x.p.toNat) met' := by
  have hn : x.p.toNat ≤ 17 := by omega
  have hS63 := p63 hn hS
  have hrl : (rws x c x.p.toNat).length = x.p.toNat := rws_length ..
  obtain ⟨r, h1, met', T', rfl, h2, h3⟩ := loopI (fun k' i (σ : List Bool × List Int) => spec_l04Lengths_l2 k x (rws x c x.p.toNat) (f : Int) (S : Int) k' i σ.1 σ.2) x.p (f : Int)
    (fun i σ => ∃ im : Nat, i = im ∧ im ≤ x.p.toNat ∧ TR x.p.toNat (CV (aB x c) x.p.toNat f S im (f + 1)) σ.2 ∧ MR x.p.toNat (CQ (aB x c) x.p.toNat f S im) σ.1)
    (fun r => ∃ met' T', r = (met', T') ∧ TR x.p.toNat (CV (aB x c) x.p.toNat f S x.p.toNat (f + 1)) T' ∧ MR x.p.toNat (CQ (aB x c) x.p.toNat f S x.p.toNat) met')
    (fun k' i σ h0 h1 hI => by
      obtain ⟨im, rfl, him, hT, hM⟩ := hI
      left
      have hi : im < x.p.toNat := by omega
      have hwi : w64 ((im : Int) + 1) = ((im : Int) + 1) := w64_id (by omega)
      have hwf : w64 ((f : Int) + 1) = ((f + 1 : Nat) : Int) := by rw [w64_id (by omega)]; omega
      have hu : IntKind.u64.wrap (im : Int) = im := u64n (by omega)
      have huf : IntKind.u64.wrap (f : Int) = f := u64n (by omega)
      obtain ⟨w, hw1, hw2, hw3⟩ := hT.2 S hS
      have hTl := hT.1
      have hbit : w.testBit im = la (aB x c) x.p.toNat f S im := by
        rw [Bool.eq_iff_iff, hw3 im, CV_self]
        exact ⟨fun h => h.1, fun h => ⟨h, hi⟩⟩
      rw [spec_l04Lengths_l2, decide_eq_true (show (im : Int) < x.p from h1), if_pos rfl, if_pos (by omega), hu, if_pos (by omega), Int.toNat_natCast, hw1, bit0 (p63 hn hw2) (by omega), hbit]
      cases hl : la (aB x c) x.p.toNat f S im with
      | false =>
        refine ⟨(σ.1, σ.2), ?_, im + 1, by omega, by omega, hT.congr fun t q => and_congr_left fun _ => CV_skip hl, hM.congr fun j => CQ_no fun h => by rw [hl] at h; cases h.2.1⟩
        simp [hwi]
      | true =>
        have hon := ones_val (k := k) (n := x.p.toNat) (by omega) (by omega) hS
        have hsz : (mem S 0 x.p.toNat).length = cnt x.p.toNat S := rfl
        rw [hsz] at hon
        have hcl := cnt_le x.p.toNat S
        rw [Bool.not_true, if_neg (by simp), hon, Option.bind_some]
        have hval : (if decide (2 < (cnt x.p.toNat S : Int)) then (if 0 ≤ (im : Int) ∧ (im : Int) < ((rws x c x.p.toNat).length : Int) then (if 0 ≤ IntKind.u64.wrap (f : Int) then some (decide (bAnd .i64 (bShr .i64 ((rws x c x.p.toNat).getD (im : Int).toNat 0) (IntKind.u64.wrap (f : Int))) 1 = 1)) else none) else none) else some false : Option Bool) = some (decide (2 < cnt x.p.toNat S) && aB x c (im : Int) (f : Int)) := by
          by_cases h : 2 < cnt x.p.toNat S
          · rw [decide_eq_true (by omega), if_pos rfl, if_pos (by omega), huf, if_pos (by omega), Int.toNat_natCast, rbit (by omega) hi hf, decide_eq_true h, Bool.true_and]
          · rw [decide_eq_false (by omega), if_neg (by simp), decide_eq_false h, Bool.false_and]
        rw [hval, Option.bind_some]
        cases hq : decide (2 < cnt x.p.toNat S) && aB x c (im : Int) (f : Int) with
        | false =>
          obtain ⟨T', e, hT'⟩ := len_in hp (c := c) (k := k) σ.1 hk hf hS hi hl hT
          rw [if_neg (by simp), Option.bind_some, hwf, e, Option.bind_some, hwi]
          refine ⟨(σ.1, T'), rfl, im + 1, by omega, by omega, hT', hM.congr fun j => CQ_no fun h => ?_⟩
          obtain ⟨_, _, h3, h4, h5⟩ := h
          rw [h3, h4, decide_eq_true h5] at hq
          cases hq
        | true =>
          simp only [Bool.and_eq_true, decide_eq_true_iff] at hq
          obtain ⟨T', e, hT'⟩ := len_in hp (c := c) (k := k) (σ.1.set (cnt x.p.toNat S) true) hk hf hS hi hl hT
          have hml := hM.1
          rw [if_pos rfl, if_pos (by omega), Option.bind_some, Int.toNat_natCast, hwf, e, Option.bind_some, hwi]
          refine ⟨(σ.1.set (cnt x.p.toNat S) true, T'), rfl, im + 1, by omega, by omega, hT', by rw [List.length_set]; exact hml, fun j hj => ?_⟩
          by_cases e2 : cnt x.p.toNat S = j
          · subst e2
            rw [List.getD_eq_getElem?_getD, List.getElem?_set_self (by omega)]
            exact ⟨fun _ => ⟨hq.1, .inr (.inr ⟨im, by omega, hi, hl, rfl, hq.2⟩)⟩, fun _ => rfl⟩
          · rw [List.getD_eq_getElem?_getD, List.getElem?_set_ne e2, ← List.getD_eq_getElem?_getD, hM.2 j hj]
            exact CQ_no fun h => e2 h.2.2.1)
    (fun k' i σ h0 h1 hI => by
      obtain ⟨im, rfl, him, hT, hM⟩ := hI
      have : im = x.p.toNat := by omega
      subst this
      rw [spec_l04Lengths_l2, decide_eq_false (by omega), if_neg (by simp)]
      exact ⟨_, rfl, σ.1, σ.2, rfl, hT, hM⟩)
    k (f : Int) (met, T) (by omega) (by omega) ⟨f, rfl, by omega, hT, hM⟩
  exact ⟨met', T', h1, h2, h3⟩

theorem len_out {f k : Nat} {T : List Int} {met : List Bool} (hk : 200000 ≤ k) (hf : f < x.p.toNat) (hT : TR x.p.toNat (CV (aB x c) x.p.toNat f (2 ^ f) f (f + 1)) T) (hM : MR x.p.toNat (CQ (aB x c) x.p.toNat f (2 ^ f) f) met) :
    ∃ met', spec_l04Lengths_l1 k x (rws x c x.p.toNat) (f : Int) k ((2 ^ f : Nat) : Int) met T = some met' ∧ MR x.p.toNat (CQ (aB x c) x.p.toNat f (2 ^ x.p.toNat) f) met' := by
  have h17 : 2 ^ x.p.toNat ≤ 2048 := (Nat.pow_le_pow_right (by decide) (show x.p.toNat ≤ 11 by omega) : 2 ^ x.p.toNat ≤ 2 ^ 11)
  have h2f : 2 ^ f ≤ 2 ^ x.p.toNat := Nat.pow_le_pow_right (by decide) (by omega)
  have hk1 : (((2 ^ x.p.toNat : Nat) : Int) - ((2 ^ f : Nat) : Int)).toNat < k := by
    have h3 : ((2 ^ x.p.toNat : Nat) : Int) ≤ 2048 := Int.ofNat_le.2 h17
    have h4 : 0 ≤ ((2 ^ f : Nat) : Int) := Int.natCast_nonneg _
    generalize ((2 ^ x.p.toNat : Nat) : Int) = a at *
    generalize ((2 ^ f : Nat) : Int) = b at *
    omega
  obtain ⟨met', h1, h2⟩ := loopI (fun k' S (σ : List Bool × List Int) => spec_l04Lengths_l1 k x (rws x c x.p.toNat) (f : Int) k' S σ.1 σ.2) ((2 ^ x.p.toNat : Nat) : Int) ((2 ^ f : Nat) : Int)
    (fun S σ => ∃ Sn : Nat, S = Sn ∧ Sn ≤ 2 ^ x.p.toNat ∧ TR x.p.toNat (CV (aB x c) x.p.toNat f Sn f (f + 1)) σ.2 ∧ MR x.p.toNat (CQ (aB x c) x.p.toNat f Sn f) σ.1)
    (fun met' => MR x.p.toNat (CQ (aB x c) x.p.toNat f (2 ^ x.p.toNat) f) met')
    (fun k' S σ h0 h1 hI => by
      obtain ⟨Sn, rfl, hSn, hT, hM⟩ := hI
      left
      have hS : Sn < 2 ^ x.p.toNat := by omega
      have hws : w64 ((Sn : Int) + 1) = ((Sn : Int) + 1) := w64_id (by omega)
      have hTl := hT.1
      obtain ⟨w, hw1, hw2, hw3⟩ := hT.2 Sn hS
      rw [spec_l04Lengths_l1, decide_eq_true (by omega), if_pos rfl, if_pos (by omega), Int.toNat_natCast, hw1]
      by_cases hz : w = 0
      · have hno : ∀ p, la (aB x c) x.p.toNat f Sn p = false := fun p => Bool.eq_false_iff.2 fun h => by
          have hb := la_bit h
          have hpn : p < x.p.toNat := by
            refine Classical.byContradiction fun hh => ?_
            have := Nat.testBit_lt_two_pow (Nat.lt_of_lt_of_le hS (Nat.pow_le_pow_right (by decide) (show x.p.toNat ≤ p by omega)))
            rw [hb] at this; cases this
          have := (hw3 p).2 ⟨CV_self.2 h, hpn⟩
          rw [hz] at this
          simp at this
        rw [decide_eq_true (by omega)]
        refine ⟨(σ.1, σ.2), by simp [hws], Sn + 1, by omega, by omega, hT.congr fun t q => ?_, hM.congr fun j => (CQ_none hno).trans (CQ_next hS)⟩
        rw [← CV_next]
        exact and_congr_left fun _ => CV_none hno
      · rw [decide_eq_false (by omega)]
        obtain ⟨met', T', e, hT', hM'⟩ := len_mid hp (c := c) (k := k) (by omega) hf hS hT hM
        rw [if_neg (by simp), e, Option.bind_some, hws]
        exact ⟨(met', T'), rfl, Sn + 1, by omega, by omega, hT'.congr fun t q => CV_next, hM'.congr fun j => CQ_next hS⟩)
    (fun k' S σ h0 h1 hI => by
      obtain ⟨Sn, rfl, hSn, hT, hM⟩ := hI
      have : Sn = 2 ^ x.p.toNat := by omega
      subst this
      have hTl := hT.1
      rw [spec_l04Lengths_l1, decide_eq_false (by omega), if_neg (by simp)]
      exact ⟨_, rfl, hM⟩)
    k ((2 ^ f : Nat) : Int) (met, T) (Int.le_refl _) hk1 ⟨2 ^ f, rfl, h2f, hT, hM⟩
  exact ⟨met', h1, h2⟩

theorem len_met {k : Nat} (hk : 200000 ≤ k) {met : List Bool} (hM : MR x.p.toNat (CQ (aB x c) x.p.toNat 0 0 0) met) : ∃ met', spec_l04Lengths_l0 k x (rws x c x.p.toNat) k 0 met = some met' ∧ MR x.p.toNat (CQ (aB x c) x.p.toNat x.p.toNat 0 0) met' := by
  have hx : x.p = ((x.p.toNat : Nat) : Int) := by omega
  have h17 : 2 ^ x.p.toNat ≤ 2048 := (Nat.pow_le_pow_right (by decide) (show x.p.toNat ≤ 11 by omega) : 2 ^ x.p.toNat ≤ 2 ^ 11)
  have hup : IntKind.u64.wrap x.p = ((x.p.toNat : Nat) : Int) := by
    have := u64n (j := x.p.toNat) (by omega)
    rw [← hx] at this ⊢
    exact this
  obtain ⟨met', h1, h2⟩ := loopI (fun k' f (met : List Bool) => spec_l04Lengths_l0 k x (rws x c x.p.toNat) k' f met) x.p 0
    (fun f met => ∃ fn : Nat, f = fn ∧ fn ≤ x.p.toNat ∧ MR x.p.toNat (CQ (aB x c) x.p.toNat fn 0 0) met)
    (fun met' => MR x.p.toNat (CQ (aB x c) x.p.toNat x.p.toNat 0 0) met')
    (fun k' f met h0 h1 hI => by
      obtain ⟨fn, rfl, hfn, hM⟩ := hI
      left
      have hf : fn < x.p.toNat := by omega
      have hwf : w64 ((fn : Int) + 1) = ((fn : Int) + 1) := w64_id (by omega)
      have huf : IntKind.u64.wrap (fn : Int) = fn := u64n (by omega)
      have h2f : 2 ^ fn < 2 ^ x.p.toNat := Nat.pow_lt_pow_right (by decide) hf
      have hrep : (List.replicate ((2 ^ x.p.toNat : Nat) : Int).toNat (0 : Int)).length = 2 ^ x.p.toNat := by rw [List.length_replicate, Int.toNat_natCast]
      have hrep0 : ∀ t, (List.replicate ((2 ^ x.p.toNat : Nat) : Int).toNat (0 : Int)).getD t 0 = 0 := fun t => by
        rw [List.getD_eq_getElem?_getD]
        by_cases h : t < ((2 ^ x.p.toNat : Nat) : Int).toNat
        · rw [List.getElem?_replicate, if_pos h]; rfl
        · rw [List.getElem?_eq_none (by rw [List.length_replicate]; omega)]; rfl
      have hT0 : TR x.p.toNat (CV (aB x c) x.p.toNat fn (2 ^ fn) fn (fn + 1)) ((List.replicate ((2 ^ x.p.toNat : Nat) : Int).toNat (0 : Int)).set (2 ^ fn) ((2 ^ fn : Nat) : Int)) := by
        refine ⟨by rw [List.length_set, hrep], fun t ht => ?_⟩
        by_cases e : 2 ^ fn = t
        · subst e
          refine ⟨2 ^ fn, by rw [List.getD_eq_getElem?_getD, List.getElem?_set_self (by rw [hrep]; exact ht)]; rfl, h2f, fun q => ?_⟩
          rw [CV_start, Nat.testBit_two_pow]
          simp
          constructor
          · rintro rfl; exact ⟨rfl, by omega⟩
          · rintro ⟨rfl, _⟩; rfl
        · refine ⟨0, by rw [List.getD_eq_getElem?_getD, List.getElem?_set_ne e, ← List.getD_eq_getElem?_getD, hrep0]; rfl, Nat.pow_pos (by decide), fun q => ?_⟩
          rw [CV_start]
          simp
          intro h; exact absurd h.symm e
      obtain ⟨met', e, hM'⟩ := len_out hp (c := c) hk hf hT0 (hM.congr fun j => CQ_start)
      rw [spec_l04Lengths_l0, decide_eq_true (show (fn : Int) < x.p from h1), if_pos rfl, hup, if_pos (by omega), bShl_one (by omega), if_pos (by omega), huf, if_pos (by omega), if_pos (by omega), bShl_one (by omega), hrep, if_pos ⟨Int.natCast_nonneg _, Int.ofNat_lt.2 h2f⟩, if_pos (by omega), Int.toNat_natCast (2 ^ fn), e, Option.bind_some, hwf]
      exact ⟨met', rfl, fn + 1, by omega, by omega, hM'.congr fun j => CQ_end⟩)
    (fun k' f met h0 h1 hI => by
      obtain ⟨fn, rfl, hfn, hM⟩ := hI
      have : fn = x.p.toNat := by omega
      subst this
      rw [spec_l04Lengths_l0, decide_eq_false (by omega), if_neg (by simp)]
      exact ⟨_, rfl, hM⟩)
    k 0 met (by omega) (by omega) ⟨0, rfl, by omega, hM⟩
  exact ⟨met', h1, h2⟩

/-- .. there is a cycle of so many points. -/
theorem met_cyc {m : Nat} (hm : 3 ≤ m) : CQ (aB x c) x.p.toNat x.p.toNat 0 0 m ↔ (fcyc (aB x c) x.p.toNat m).isSome = true := by
  have hs : ∀ a b, aB x c a b = aB x c b a := fun a b => aB_comm ..
  have hi : ∀ a, aB x c a a = false := fun a => aB_irr ..
  have h1 : (fcyc (aB x c) x.p.toNat m).isSome = true ↔ ∃ f, f < x.p.toNat ∧ ∃ t, Cy (aB x c) x.p.toNat f t ∧ t.length + 1 = m := by
    unfold fcyc
    rw [if_neg (by omega), List.findSome?_isSome_iff]
    constructor
    · rintro ⟨f, hf, h⟩
      rw [List.mem_range] at hf
      rw [Option.isSome_map] at h
      exact ⟨f, by omega, (dfs_has hs hi hm (by omega)).1 h⟩
    · rintro ⟨f, hf, t, hC, hl⟩
      have hlen := hC.1.len hf
      refine ⟨f, List.mem_range.2 (by omega), ?_⟩
      rw [Option.isSome_map]
      exact (dfs_has hs hi hm hf).2 ⟨t, hC, hl⟩
  rw [h1]
  constructor
  · rintro ⟨_, ⟨f, hf, h⟩ | ⟨S', p, h3, _⟩ | ⟨p, h3, _⟩⟩
    · exact ⟨f, hf, (la_has hf).1 h⟩
    · omega
    · omega
  · rintro ⟨f, hf, h⟩
    exact ⟨by omega, .inl ⟨f, hf, (la_has hf).2 h⟩⟩

theorem lengths_val {k : Nat} (hk : 200000 ≤ k) : spec_l04Lengths k x c = some ((ir 3 (x.p.toNat + 1)).filter fun m => (fcyc (aB x c) x.p.toNat m.toNat).isSome) := by
  unfold spec_l04Lengths
  rw [rows_val (by omega) x (by omega) c, Option.bind_some, w64_id (n := x.p + 1) (by omega), if_pos (by omega)]
  have hrep : (List.replicate (x.p + 1).toNat false).length = x.p.toNat + 1 := by rw [List.length_replicate]; omega
  obtain ⟨met, e, hM⟩ := len_met hp (c := c) hk (met := List.replicate (x.p + 1).toNat false) ⟨hrep, fun j hj => by
    rw [List.getD_eq_getElem?_getD, List.getElem?_replicate, if_pos (by omega)]
    refine ⟨fun h => (by simp at h), ?_⟩
    rintro ⟨_, ⟨f, hf, h⟩ | ⟨S', p, h3, _⟩ | ⟨p, h3, _⟩⟩ <;> omega⟩
  rw [e, Option.bind_some]
  have hml := hM.1
  obtain ⟨r, h1, rfl⟩ := loopI (fun k' m (L : List Int) => spec_l04Lengths_l4 x met k' m L) (x.p + 1) 3
    (fun m L => ∃ mn : Nat, m = mn ∧ 3 ≤ mn ∧ L ++ ((ir mn (x.p.toNat + 1)).filter fun m => (fcyc (aB x c) x.p.toNat m.toNat).isSome) = (ir 3 (x.p.toNat + 1)).filter (fun m => (fcyc (aB x c) x.p.toNat m.toNat).isSome) ∧ L.length ≤ mn)
    (fun r => r = (ir 3 (x.p.toNat + 1)).filter fun m => (fcyc (aB x c) x.p.toNat m.toNat).isSome)
    (fun k' m L h0 h1 hI => by
      obtain ⟨mn, rfl, hm3, hL, hlen⟩ := hI
      left
      have hmn : mn < x.p.toNat + 1 := by omega
      have hwm : w64 ((mn : Int) + 1) = ((mn : Int) + 1) := w64_id (by omega)
      have hb : met.getD mn false = (fcyc (aB x c) x.p.toNat mn).isSome := by
        rw [Bool.eq_iff_iff, hM.2 mn (by omega), met_cyc hp hm3]
      rw [ir_next hmn, List.filter_cons, Int.toNat_natCast] at hL
      rw [spec_l04Lengths_l4, decide_eq_true (by omega), if_pos rfl, if_pos (by omega), Int.toNat_natCast, hb, hwm]
      cases hc : (fcyc (aB x c) x.p.toNat mn).isSome with
      | false =>
        rw [hc] at hL
        exact ⟨L, by simp, mn + 1, by omega, by omega, by simpa using hL, by omega⟩
      | true =>
        rw [hc] at hL
        rw [if_pos rfl, if_pos (by simp; omega)]
        exact ⟨L ++ [(mn : Int)], rfl, mn + 1, by omega, by omega, by simpa using hL, by simp; omega⟩)
    (fun k' m L h0 h1 hI => by
      obtain ⟨mn, rfl, hm3, hL, hlen⟩ := hI
      rw [spec_l04Lengths_l4, decide_eq_false (by omega), if_neg (by simp)]
      rw [ir_end (by omega), List.filter_nil, List.append_nil] at hL
      exact ⟨_, rfl, hL⟩)
    k 3 [] (by omega) (by omega) ⟨3, rfl, by omega, by simp, by simp⟩
  try simp only at h1
  rw [h1]; rfl

theorem has_val {k : Nat} (hk : 200000 ≤ k) {m : Nat} : spec_l04Has k x c (m : Int) = some (fcyc (aB x c) x.p.toNat m).isSome := by
  unfold spec_l04Has
  rw [lengths_val hp hk, Option.bind_some]
  have hll : ((ir 3 (x.p.toNat + 1)).filter fun m => (fcyc (aB x c) x.p.toNat m.toNat).isSome).length ≤ 11 := by
    refine Nat.le_trans (List.length_filter_le _ _) ?_
    rw [ir_length]; omega
  have hmem : (m : Int) ∈ ((ir 3 (x.p.toNat + 1)).filter fun m => (fcyc (aB x c) x.p.toNat m.toNat).isSome) ↔ (fcyc (aB x c) x.p.toNat m).isSome = true := by
    rw [List.mem_filter, mem_ir, Int.toNat_natCast]
    refine ⟨fun h => h.2, fun h => ⟨?_, h⟩⟩
    have h3 : 3 ≤ m := by
      refine Classical.byContradiction fun hh => ?_
      unfold fcyc at h
      rw [if_pos (by omega)] at h; cases h
    obtain ⟨_, ⟨f, hf, hq⟩ | ⟨S', p, h3, _⟩ | ⟨p, h3, _⟩⟩ := (met_cyc hp h3).2 h
    · obtain ⟨t, hC, hl⟩ := (la_has hf).1 hq
      have := hC.1.len hf
      omega
    · omega
    · omega
  generalize ((ir 3 (x.p.toNat + 1)).filter fun m => (fcyc (aB x c) x.p.toNat m.toNat).isSome) = L at hll hmem
  have hl := loopAll (fun k' i => spec_l04Has_l0 (m : Int) L k' i) (L.length : Int) true (fun i => ¬ (L.getD i.toNat 0 = (m : Int))) 0
    (fun k' i h0 h1 hQ => by rw [spec_l04Has_l0, decide_eq_true h1, if_pos rfl, if_pos ⟨h0, h1⟩, decide_eq_false hQ, if_neg (by simp), w64_id (by omega)])
    (fun k' i h0 h1 hQ => by
      have := Classical.not_not.1 hQ
      rw [spec_l04Has_l0, decide_eq_true h1, if_pos rfl, if_pos ⟨h0, h1⟩, decide_eq_true this, if_pos rfl])
    (fun k' i h => by rw [spec_l04Has_l0, decide_eq_false (by omega), if_neg (by simp)])
    k 0 (by omega) (by omega)
  try simp only at hl
  rw [hl]
  cases hc : (fcyc (aB x c) x.p.toNat m).isSome with
  | true =>
    have h1 := hmem.2 hc
    obtain ⟨a, ha, e⟩ := List.getElem_of_mem h1
    rw [if_neg]
    · rfl
    · intro h
      refine h a (by omega) (by omega) ?_
      rw [Int.toNat_natCast, List.getD_eq_getElem?_getD, List.getElem?_eq_getElem ha]; exact e
  | false =>
    rw [if_pos]
    · rfl
    · intro j h0 h1 e
      have : (m : Int) ∈ L := by
        rw [← e, List.getD_eq_getElem?_getD, List.getElem?_eq_getElem (show j.toNat < L.length by omega)]
        exact List.getElem_mem _
      rw [hmem.1 this] at hc; cases hc
end

theorem andNot_bits {s u : Nat} (hs : s < 2 ^ 63) (hu : u < 2 ^ 63) : ∃ v : Nat, bAndNot .i64 (s : Int) (u : Int) = (v : Int) ∧ ∀ j, v.testBit j = (s.testBit j && !u.testBit j) := by
  unfold bAndNot
  have hb : ∀ j, (BitVec.ofInt IntKind.i64.bits (s : Int) &&& ~~~ BitVec.ofInt IntKind.i64.bits (u : Int)).toNat.testBit j = (s.testBit j && !u.testBit j) := by
    intro j
    show (BitVec.ofInt 64 (s : Int) &&& ~~~ BitVec.ofInt 64 (u : Int)).toNat.testBit j = _
    rw [BitVec.toNat_and, BitVec.toNat_not, ofInt_nat hs, ofInt_nat hu]
    have h1 : 2 ^ 64 - 1 - u = 2 ^ 64 - (u + 1) := by omega
    rw [Nat.testBit_and, h1, Nat.testBit_two_pow_sub_succ (Nat.lt_trans hu (by decide))]
    by_cases h64 : j < 64
    · simp [h64]
    · have h0 : s.testBit j = false := Nat.testBit_lt_two_pow (Nat.lt_of_lt_of_le hs (Nat.pow_le_pow_right (by decide) (by omega)))
      simp [h0]
  refine ⟨_, ?_, hb⟩
  have hle : (BitVec.ofInt IntKind.i64.bits (s : Int) &&& ~~~ BitVec.ofInt IntKind.i64.bits (u : Int)).toNat < 2 ^ 63 := by
    refine Nat.lt_of_le_of_lt ?_ hs
    refine Nat.le_of_testBit fun j hj => ?_
    rw [hb] at hj
    simp at hj; exact hj.1
  exact i64_nat hle

section
variable {x : Col} {c : Int} (hp : 1 ≤ x.p ∧ x.p ≤ 11)
include hp

theorem scyc_val {f m : Nat} (hf : f < x.p.toNat) (hm : 3 ≤ m) (hm17 : m ≤ 17) : ∀ (r k : Nat) (t : List Int) (u : Nat), t.length + 1 + r = m → Pf (aB x c) x.p.toNat f t → u < 2 ^ x.p.toNat → (∀ j : Nat, u.testBit j = true ↔ j = f ∨ (j : Int) ∈ t) → r + 60 ≤ k →
    ∃ l, spec_l04Cycle k (rws x c x.p.toNat) ((f : Int) :: t) (u : Int) (m : Int) = some (l, (dfs (aB x c) x.p.toNat f r t).isSome) ∧ ∀ t', dfs (aB x c) x.p.toNat f r t = some t' → l = (f : Int) :: t' := by
  intro r
  induction r with
  | zero =>
    intro k t u htm hP hu hub hk
    obtain ⟨k, rfl⟩ : ∃ q, k = q + 1 := ⟨k - 1, by omega⟩
    have hw : w64 ((((f : Int) :: t).length : Int) - 1) = (t.length : Int) := by rw [List.length_cons, w64_id (by omega)]; omega
    have hl := hP.len hf
    obtain ⟨ln, hln, hlnn⟩ : ∃ ln : Nat, lst (f : Int) t = ln ∧ ln < x.p.toNat := by
      rcases lst_mem t f with ⟨e, _⟩ | hmm
      · exact ⟨f, e, hf⟩
      · have := hP.rg _ hmm; exact ⟨(lst (f : Int) t).toNat, by omega, by omega⟩
    rw [spec_l04Cycle]
    unfold spec_l04Cycle_body
    rw [if_pos (by rw [List.length_cons]; omega), hw, if_pos (by rw [List.length_cons]; omega), decide_eq_true (show (((f : Int) :: t).length : Int) = (m : Int) by simp; omega), if_pos rfl, Int.toNat_natCast, lst_getD, hln]
    have hx1 : IntKind.u64.wrap (((f : Int) :: t).getD (0 : Int).toNat 0) = (f : Int) := u64n (by omega)
    rw [if_pos (by rw [rws_length]; omega), hx1, if_pos (by omega), Int.toNat_natCast, rbit (by omega) hlnn hf]
    have e2 : ((f : Int) :: t).getD (1 : Int).toNat 0 = t.headD 0 := by cases t <;> rfl
    rw [e2]
    have hd : dfs (aB x c) x.p.toNat f 0 t = bif aB x c (ln : Int) f && decide (t.headD 0 < (ln : Int)) then some t else none := by rw [dfs, hln]
    rw [hd]
    cases ha : aB x c (ln : Int) (f : Int) with
    | false => exact ⟨(f : Int) :: t, by simp, fun t' h => by simp at h⟩
    | true =>
      rw [if_pos rfl, if_pos (by rw [List.length_cons]; omega)]
      by_cases hlt : t.headD 0 < (ln : Int)
      · rw [decide_eq_true hlt]
        exact ⟨_, rfl, fun t' h => by simp at h; rw [h]⟩
      · rw [decide_eq_false hlt]
        exact ⟨_, rfl, fun t' h => by simp at h⟩
  | succ r ih =>
    intro k t u htm hP hu hub hk
    obtain ⟨k, rfl⟩ : ∃ q, k = q + 1 := ⟨k - 1, by omega⟩
    have hw : w64 ((((f : Int) :: t).length : Int) - 1) = (t.length : Int) := by rw [List.length_cons, w64_id (by omega)]; omega
    have hl := hP.len hf
    have hu63 : u < 2 ^ 63 := p63 (n := x.p.toNat) (by omega) hu
    obtain ⟨ln, hln, hlnn⟩ : ∃ ln : Nat, lst (f : Int) t = ln ∧ ln < x.p.toNat := by
      rcases lst_mem t f with ⟨e, _⟩ | hmm
      · exact ⟨f, e, hf⟩
      · have := hP.rg _ hmm; exact ⟨(lst (f : Int) t).toNat, by omega, by omega⟩
    have hwf : w64 ((f : Int) + 1) = ((f + 1 : Nat) : Int) := by rw [w64_id (by omega)]; omega
    have hx0 : ((f : Int) :: t).getD (0 : Int).toNat 0 = (f : Int) := rfl
    rw [spec_l04Cycle]
    unfold spec_l04Cycle_body
    rw [if_pos (by rw [List.length_cons]; omega), hw, if_pos (by rw [List.length_cons]; omega), decide_eq_false (show ¬ (((f : Int) :: t).length : Int) = (m : Int) by simp; omega), if_neg (by simp), hx0, if_pos (by rw [rws_length]; omega), Int.toNat_natCast, hwf, rws_get x c _ _ hf]
    obtain ⟨v, hv1, hv2⟩ := andNot_bits (s := nb x c f) (u := u) (nb_lt x (by omega) c f) hu63
    rw [hv1]
    by_cases hz : v = 0
    · rw [decide_eq_true (by omega), if_pos rfl]
      have hno : dfs (aB x c) x.p.toNat f (r + 1) t = none := by
        cases hd : dfs (aB x c) x.p.toNat f (r + 1) t with
        | none => rfl
        | some t' =>
          exfalso
          obtain ⟨e, he1, he2, hC, _⟩ := dfs_some (r + 1) t t' hP hd
          obtain ⟨e', z, rfl⟩ : ∃ e' z, e = e' ++ [z] := ⟨e.dropLast, e.getLast (by intro h; rw [h] at he1; simp at he1), (List.dropLast_concat_getLast _).symm⟩
          have hlz : lst (f : Int) t' = z := by rw [he2, ← List.append_assoc, lst_snoc]
          have hzt : z ∉ t := fun hm2 => by
            have := hC.1.nd
            rw [he2, List.nodup_append] at this
            exact this.2.2 z hm2 z (by simp) rfl
          have hzr := hC.1.rg z (by rw [he2]; simp)
          have ha := hC.2
          rw [hlz] at ha
          have h1 := hv2 z.toNat
          have h3 : ((z.toNat : Nat) : Int) = z := by omega
          rw [hz, nb_test, h3] at h1
          have h4 : u.testBit z.toNat = false := Bool.eq_false_iff.2 fun h => by
            rcases (hub _).1 h with h | h
            · omega
            · rw [h3] at h; exact hzt h
          have h5 : aB x c (f : Int) z = true := by rw [aB_comm]; exact ha
          have h6 : z.toNat < x.p.toNat := by omega
          rw [h4] at h1
          simp [h5, h6] at h1
      rw [hno]
      exact ⟨[], rfl, fun t' h => by cases h⟩
    · rw [decide_eq_false (by omega), if_neg (by simp)]
      obtain ⟨res, h1, h2⟩ := loopI (fun k' j (_ : Unit) => spec_l04Cycle_l0 (spec_l04Cycle k) (rws x c x.p.toNat) ((f : Int) :: t) (u : Int) (m : Int) k' j) x.p ((f + 1 : Nat) : Int)
        (fun j _ => ∃ jn : Nat, j = jn ∧ f < jn ∧ jn ≤ x.p.toNat ∧ (ir jn x.p.toNat).findSome? (fun p => bif !decide (p ∈ t) && aB x c (lst f t) p then dfs (aB x c) x.p.toNat f r (t ++ [p]) else none) = dfs (aB x c) x.p.toNat f (r + 1) t)
        (fun res => ((dfs (aB x c) x.p.toNat f (r + 1) t = none ∧ res = .inl ()) ∨ ∃ t', dfs (aB x c) x.p.toNat f (r + 1) t = some t' ∧ res = .inr ((f : Int) :: t', true)))
        (fun k' j _ h0 h1 hI => by
          obtain ⟨jn, rfl, hfj, hj, hfs⟩ := hI
          have hjn : jn < x.p.toNat := by omega
          have hwj : w64 ((jn : Int) + 1) = ((jn : Int) + 1) := w64_id (by omega)
          have huj : IntKind.u64.wrap (jn : Int) = (jn : Int) := u64n (by omega)
          rw [ir_next hjn, List.findSome?_cons, hln] at hfs
          have hval : decide (bAnd .i64 (bShr .i64 ((rws x c x.p.toNat).getD ln 0) (jn : Int)) 1 = 0) = !aB x c (ln : Int) (jn : Int) := by
            rw [rws_get x c _ _ hlnn, bit0 (nb_lt x (by omega) c ln) (by omega), nb_test]
            simp [hjn]
          rw [spec_l04Cycle_l0, decide_eq_true (show (jn : Int) < ((rws x c x.p.toNat).length : Int) by rw [rws_length]; omega), if_pos rfl, huj, if_pos (by omega), hw, Int.toNat_natCast, lst_getD, hln, bit1 hu63 (by omega), if_pos (show 0 ≤ (ln : Int) ∧ (ln : Int) < ((rws x c x.p.toNat).length : Int) by rw [rws_length]; omega), if_pos (show 0 ≤ (jn : Int) by omega), Int.toNat_natCast, hval]
          by_cases hjt : (jn : Int) ∈ t
          · left
            rw [decide_eq_true hjt] at hfs
            refine ⟨(), ?_, jn + 1, by omega, by omega, by omega, by simpa [hln] using hfs⟩
            rw [(hub jn).2 (.inr hjt)]
            simp [hwj]
          · have hub0 : u.testBit jn = false := Bool.eq_false_iff.2 fun h => by
              rcases (hub jn).1 h with h | h
              · omega
              · exact hjt h
            rw [decide_eq_false hjt] at hfs
            rw [hub0]
            cases ha : aB x c (ln : Int) (jn : Int) with
            | false =>
              left
              rw [ha] at hfs
              refine ⟨(), ?_, jn + 1, by omega, by omega, by omega, by simpa [hln] using hfs⟩
              simp [hwj]
            | true =>
              rw [ha] at hfs
              simp only [Bool.not_false, Bool.and_self, cond_true] at hfs
              have hP' : Pf (aB x c) x.p.toNat f (t ++ [(jn : Int)]) := hP.snoc (by rw [hln]; exact ha) hjt (by omega) (by omega)
              obtain ⟨l, e3, hres⟩ := ih k (t ++ [(jn : Int)]) (add u jn) (by simp; omega) hP' (add_lt hu hjn) (fun j => by
                rw [add_test, Bool.or_eq_true, hub j, decide_eq_true_iff]
                simp only [List.mem_append, List.mem_singleton]
                constructor
                · rintro ((h | h) | h)
                  · exact .inl h
                  · exact .inr (.inl h)
                  · exact .inr (.inr (by omega))
                · rintro (h | h | h)
                  · exact .inl (.inl h)
                  · exact .inl (.inr h)
                  · exact .inr (by omega)) (by omega)
              have hown : spec_l01Own ((f : Int) :: t) = some ((f : Int) :: t) := by
                unfold spec_l01Own
                rw [if_pos (by simp; omega), List.nil_append]
              simp only [Bool.false_eq_true, if_false, Bool.not_true, Option.bind_some]
              rw [hown, Option.bind_some, if_pos (by simp; omega), if_pos (by omega), or_add (by omega) hu hjn, List.cons_append, e3]
              simp only [Option.bind_some]
              cases hd : dfs (aB x c) x.p.toNat f r (t ++ [(jn : Int)]) with
              | none =>
                left
                rw [hd] at hfs
                refine ⟨(), ?_, jn + 1, by omega, by omega, by omega, by simpa [hln] using hfs⟩
                simp [hwj]
              | some t' =>
                right
                rw [hd] at hfs
                refine ⟨.inr ((f : Int) :: t', true), ?_, .inr ⟨t', by rw [← hfs], rfl⟩⟩
                rw [hres t' hd]; rfl)
        (fun k' j _ h0 h1 hI => by
          obtain ⟨jn, rfl, hfj, hj, hfs⟩ := hI
          rw [spec_l04Cycle_l0, decide_eq_false (show ¬ (jn : Int) < ((rws x c x.p.toNat).length : Int) by rw [rws_length]; omega), if_neg (by simp)]
          rw [ir_end (by omega)] at hfs
          exact ⟨_, rfl, .inl ⟨by rw [← hfs]; rfl, rfl⟩⟩)
        k ((f + 1 : Nat) : Int) () (by omega) (by omega) ⟨f + 1, rfl, by omega, by omega, by rw [dfs]⟩
      try simp only at h1
      rw [h1]
      obtain ⟨hd, rfl⟩ | ⟨t', hd, rfl⟩ := h2
      · rw [hd]
        exact ⟨[], rfl, fun t'' h => by cases h⟩
      · rw [hd]
        exact ⟨_, rfl, fun t'' h => by cases h; rfl⟩

/-- The search by all points. -/
theorem first_range {m : Nat} (hm : 3 ≤ m) : (List.range x.p.toNat).findSome? (fun f => (dfs (aB x c) x.p.toNat f (m - 1) []).map ((f : Int) :: ·)) = fcyc (aB x c) x.p.toNat m := by
  unfold fcyc
  rw [if_neg (by omega)]
  have hno : ∀ f, f < x.p.toNat → x.p.toNat + 1 - m ≤ f → dfs (aB x c) x.p.toNat f (m - 1) [] = none := fun f hf h => by
    cases hd : dfs (aB x c) x.p.toNat f (m - 1) [] with
    | none => rfl
    | some t' =>
      exfalso
      obtain ⟨e, he1, he2, hC, _⟩ := dfs_some (m - 1) [] t' ⟨trivial, List.nodup_nil, fun z hz => by cases hz⟩ hd
      have := hC.1.len hf
      rw [he2] at this
      simp at this; omega
  obtain ⟨d, hd⟩ : ∃ d, x.p.toNat = (x.p.toNat + 1 - m) + d := ⟨x.p.toNat - (x.p.toNat + 1 - m), by omega⟩
  have e : List.range x.p.toNat = List.range (x.p.toNat + 1 - m) ++ (List.range d).map fun i => (x.p.toNat + 1 - m) + i := by
    rw [← List.range_add, ← hd]
  rw [e, List.findSome?_append]
  have : ((List.range d).map fun i => (x.p.toNat + 1 - m) + i).findSome? (fun f => (dfs (aB x c) x.p.toNat f (m - 1) []).map ((f : Int) :: ·)) = none := by
    rw [List.findSome?_eq_none_iff]
    intro f hf
    rw [List.mem_map] at hf
    obtain ⟨i, hi, rfl⟩ := hf
    rw [List.mem_range] at hi
    rw [hno _ (by omega) (by omega)]; rfl
  rw [this, Option.or_none]

theorem sfirst_val {k : Nat} (hk : 200000 ≤ k) {m : Nat} (hm : 3 ≤ m) (hm17 : m ≤ 17) : spec_l04First k x c (m : Int) = some ((fcyc (aB x c) x.p.toNat m).getD [], (fcyc (aB x c) x.p.toNat m).isSome) := by
  unfold spec_l04First
  rw [rows_val (by omega) x (by omega) c, Option.bind_some, has_val hp hk, Option.bind_some]
  cases hh : fcyc (aB x c) x.p.toNat m with
  | none => rfl
  | some z =>
    obtain ⟨res, h1, h2⟩ := loopI (fun k' j (_ : Unit) => spec_l04First_l0 k x (m : Int) (rws x c x.p.toNat) k' j) x.p 0
      (fun j _ => ∃ jn : Nat, j = jn ∧ ((List.range x.p.toNat).drop jn).findSome? (fun f => (dfs (aB x c) x.p.toNat f (m - 1) []).map ((f : Int) :: ·)) = some z)
      (fun res => res = .inr (z, true))
      (fun k' j _ h0 h1 hI => by
        obtain ⟨jn, rfl, hfs⟩ := hI
        have hjn : jn < x.p.toNat := by omega
        have hwj : w64 ((jn : Int) + 1) = ((jn : Int) + 1) := w64_id (by omega)
        have huj : IntKind.u64.wrap (jn : Int) = (jn : Int) := u64n (by omega)
        rw [range_next _ _ jn hjn] at hfs
        have e2 : bShl .i64 1 (jn : Int) = ((add 0 jn : Nat) : Int) := by rw [bShl_one (by omega)]; simp [add]
        obtain ⟨l, e3, hres⟩ := scyc_val hp (c := c) (f := jn) (m := m) hjn hm hm17 (m - 1) k [] (add 0 jn) (by simp; omega) ⟨trivial, List.nodup_nil, fun z hz => by cases hz⟩ (add_lt (Nat.pow_pos (by decide)) hjn) (fun j => by rw [add_test]; simp; exact ⟨fun h => h.symm, fun h => h.symm⟩) (by omega)
        rw [spec_l04First_l0, decide_eq_true (show (jn : Int) < x.p from h1), if_pos rfl, huj, if_pos (by omega), e2, e3, Option.bind_some]
        cases hd : dfs (aB x c) x.p.toNat jn (m - 1) [] with
        | none =>
          left
          rw [hd] at hfs
          exact ⟨(), by simp [hwj], jn + 1, by omega, hfs⟩
        | some t' =>
          right
          rw [hd] at hfs
          refine ⟨.inr (z, true), ?_, rfl⟩
          simp at hfs
          simp [hres t' hd, hfs])
      (fun k' j _ h0 h1 hI => by
        obtain ⟨jn, rfl, hfs⟩ := hI
        rw [List.drop_eq_nil_of_le (by simp; omega)] at hfs
        cases hfs)
      k 0 () (by omega) (by omega) ⟨0, rfl, by rw [List.drop_zero, first_range hp hm, hh]⟩
    try simp only at h1
    rw [h1, h2]; rfl
end
end Go.Proofs.Ytghhnpdhehjlaaa
