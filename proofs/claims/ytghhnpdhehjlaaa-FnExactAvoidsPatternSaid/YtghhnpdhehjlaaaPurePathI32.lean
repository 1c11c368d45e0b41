/- Plain laws: the first longest path, as the program finds it. No conditions beyond those that each lemma states. -/
import Derived.Test.YtghhnpdhehjlaaaPureMat32
import Derived.Test.YtghhnpdhehjlaaaPath
set_option linter.unusedVariables false
set_option linter.unusedSimpArgs false
namespace Go.Proofs.Ytghhnpdhehjlaaa
open Go Go.RowKit Ab

theorem or_add {u p n : Nat} (hn : n ≤ 17) (hu : u < 2 ^ n) (hp : p < n) : bOr .i64 (u : Int) (bShl .i64 1 (p : Int)) = ((add u p : Nat) : Int) := by
  rw [bShl_one (by omega), bOr_nat (p63 hn hu) (p2_63 (by omega))]; rfl

def hB : Nat → Nat
  | 0 => 1
  | d + 1 => 1 + 11 * hB d
def hP : Nat → Nat
  | 0 => 0
  | d + 1 => hB d
theorem hB_eq (d : Nat) : hB d = 1 + 11 * hP d := by cases d <;> rfl
theorem hB_max : ∀ d, d ≤ 11 → hB d ≤ 400000000000 := by decide
def hS : Nat → Nat
  | 0 => 0
  | n + 1 => hS n + 400000000000
theorem hS_succ (n : Nat) : hS (n + 1) = hS n + 400000000000 := rfl
theorem hS_max : ∀ n, n ≤ 12 → hS n ≤ 4800000000000 := by decide
def hT : Nat → Nat
  | 0 => 0
  | n + 1 => hT n + 5000000000000
theorem hT_succ (n : Nat) : hT (n + 1) = hT n + 5000000000000 := rfl
theorem hT_max : ∀ n, n ≤ 12 → hT n ≤ 60000000000000 := by decide

section
variable {x : Col} {c : Int} (hp : 1 ≤ x.p ∧ x.p ≤ 11)

/-- What the table of the program holds. -/
def GL (x : Col) (c : Int) (M : List (MK × Int)) : Prop := ∀ (u l v : Int), lookM M (.l [u, l]) = some v → ∃ un ln : Nat, u = un ∧ l = ln ∧ v = (eX (aB x c) x.p.toNat un ln : Int)
theorem GL_nil : GL x c [] := fun u l v h => by simp [lookM] at h
theorem GL_put {M : List (MK × Int)} (h : GL x c M) (u l : Nat) : GL x c ((MK.l ([(u : Int), (l : Int)] : List Int), (eX (aB x c) x.p.toNat u l : Int)) :: M) := by
  intro t z v hv
  unfold lookM at hv
  cases e : (MK.l ([(u : Int), (l : Int)] : List Int)).beq (MK.l [t, z]) with
  | true =>
    rw [e, cond_true] at hv
    have := (MK.beq_iff _ _).1 e
    simp at this
    exact ⟨u, l, this.1.symm, this.2.symm, (Option.some.inj hv).symm⟩
  | false => rw [e, cond_false] at hv; exact h t z v hv

include hp
theorem path_behind : ∀ (d u last k : Nat) (M : List (MK × Int)), x.p.toNat - cnt x.p.toNat u = d → u < 2 ^ x.p.toNat → last < x.p.toNat → d + 50 ≤ k → GL x c M → M.length + hB d < 4000000000000000000 →
    ∃ M', impl_longest_behind k (⟨x, c⟩ : Lon) M (u : Int) (last : Int) = some ((eX (aB x c) x.p.toNat u last : Int), M') ∧ GL x c M' ∧ M'.length ≤ M.length + hB d := by
  intro d
  induction d using Nat.strongRecOn with
  | _ d ih =>
  intro u last k M hd hu hlast hk hG hM
  have hn : x.p.toNat ≤ 17 := by omega
  have hu63 := p63 hn hu
  obtain ⟨k, rfl⟩ : ∃ k', k = k' + 1 := ⟨k - 1, by omega⟩
  rw [impl_longest_behind]
  unfold impl_longest_behind_body
  have huI : (u : Int) < 2048 := by
    have := Nat.lt_of_lt_of_le hu (Nat.pow_le_pow_right (by decide) (show x.p.toNat ≤ 11 by omega) : 2 ^ x.p.toNat ≤ 2 ^ 11)
    omega
  have hokK : okK (MK.l ([(u : Int), (last : Int)] : List Int)) = true ∧ ([(u : Int), (last : Int)] : List Int).length = 2 := by
    refine ⟨?_, rfl⟩
    simp [okK, okI]; omega
  rw [if_pos hokK]
  cases hlk : lookM M (MK.l ([(u : Int), (last : Int)] : List Int)) with
  | some v =>
    obtain ⟨u', l', h1, h2, h3⟩ := hG _ _ _ hlk
    have e1 : u = u' := by omega
    have e2 : last = l' := by omega
    subst e1; subst e2
    simp only [Option.isSome_some, if_true, Option.getD_some]
    exact ⟨M, by rw [h3], hG, by omega⟩
  | none =>
    simp only [Option.isSome_none, Bool.false_eq_true, if_false]
    rw [neigh_val x (by omega) (by omega) c last (by omega), Option.bind_some]
    have hB1 := hB_eq d
    have hr3 : ((pts x).filter (aB x c last)).length ≤ 11 := by
      refine Nat.le_trans (List.length_filter_le _ _) ?_
      simp [pts, ir_length]; omega
    obtain ⟨r, hr1, M2, rfl, hG2, hM2⟩ := loopI (fun k' i (σ : Int × List (MK × Int)) => impl_longest_behind_l0 (impl_longest_behind k) (⟨x, c⟩ : Lon) (u : Int) ((pts x).filter (aB x c last)) k' σ.1 i σ.2) (((pts x).filter (aB x c last)).length : Int) 0
      (fun i σ => ∃ (b im : Nat), i = im ∧ im ≤ ((pts x).filter (aB x c last)).length ∧ σ.1 = b ∧ b ≤ 11 ∧ fm (fun p => !u.testBit p.toNat) (fun p => eX (aB x c) x.p.toNat (add u p.toNat) p) (((pts x).filter (aB x c last)).drop im) b = eX (aB x c) x.p.toNat u last ∧ GL x c σ.2 ∧ σ.2.length + (((pts x).filter (aB x c last)).length - im) * hP d ≤ M.length + 11 * hP d)
      (fun r => ∃ M2, r = ((eX (aB x c) x.p.toNat u last : Int), M2) ∧ GL x c M2 ∧ M2.length ≤ M.length + 11 * hP d)
      (fun k' i σ h0 h1 hI => by
        obtain ⟨b, im, rfl, him, hσ, hb11, hf, hGσ, hlen⟩ := hI
        left
        have hi : im < ((pts x).filter (aB x c last)).length := by omega
        have hsub : (((pts x).filter (aB x c last)).length - im) * hP d = (((pts x).filter (aB x c last)).length - (im + 1)) * hP d + hP d := by
          rw [show ((pts x).filter (aB x c last)).length - im = (((pts x).filter (aB x c last)).length - (im + 1)) + 1 by omega, Nat.succ_mul]
        have hwi : w64 ((im : Int) + 1) = ((im : Int) + 1) := w64_id (by omega)
        have hmem := List.getElem_mem hi
        obtain ⟨h2, h3⟩ := List.mem_filter.1 hmem
        replace h2 := mem_ir.1 (show _ ∈ ir 0 x.p.toNat from h2)
        obtain ⟨pn, hpn⟩ : ∃ pn : Nat, ((pts x).filter (aB x c last))[im] = (pn : Int) := ⟨((pts x).filter (aB x c last))[im].toNat, by omega⟩
        have hget : ((pts x).filter (aB x c last)).getD (im : Int).toNat 0 = (pn : Int) := by
          rw [show (im : Int).toNat = im by omega, List.getD_eq_getElem?_getD, List.getElem?_eq_getElem hi, hpn]; rfl
        rw [List.drop_eq_getElem_cons hi, hpn, fm] at hf
        rw [hpn] at h2 h3
        have hpnn : pn < x.p.toNat := by omega
        rw [impl_longest_behind_l0, decide_eq_true h1, if_pos rfl, if_pos (by omega), hget, if_pos (by omega), bit0 hu63 (by omega)]
        cases hbit : u.testBit pn with
        | true =>
          refine ⟨σ, ?_, b, im + 1, by omega, by omega, hσ, hb11, ?_, hGσ, by omega⟩
          · simp [hwi]
          · simp [hbit] at hf; exact hf
        | false =>
          have hca := cnt_add (n := x.p.toNat) hbit hpnn
          have hcl := cnt_le x.p.toNat (add u pn)
          have hPd : hP d = hB (d - 1) := by
            obtain ⟨e, rfl⟩ : ∃ e, d = e + 1 := ⟨d - 1, by omega⟩
            rfl
          obtain ⟨M2, e3, hG2, hM2⟩ := ih (d - 1) (by omega) (add u pn) pn k σ.2 (by omega) (add_lt hu hpnn) hpnn (by omega) hGσ (by omega)
          have hle := eX_le (A := aB x c) (n := x.p.toNat) (d - 1) (add u pn) pn (by omega)
          rw [Bool.not_false, if_pos rfl, if_pos (by omega), or_add hn hu hpnn, e3]
          simp only [Option.bind_some]
          rw [w64_id (by omega), hwi, hσ]
          refine ⟨(((max b (eX (aB x c) x.p.toNat (add u pn) pn + 1) : Nat) : Int), M2), ?_, _, im + 1, by omega, by omega, rfl, by omega, ?_, hG2, by simp only; omega⟩
          · have e5 : (if (b : Int) < (eX (aB x c) x.p.toNat (add u pn) pn : Int) + 1 then (eX (aB x c) x.p.toNat (add u pn) pn : Int) + 1 else (b : Int)) = ((max b (eX (aB x c) x.p.toNat (add u pn) pn + 1) : Nat) : Int) := by
              split <;> omega
            rw [e5]
          · simp [hbit] at hf; exact hf)
      (fun k' i σ h0 h1 hI => by
        obtain ⟨b, im, rfl, him, hσ, hb11, hf, hGσ, hlen⟩ := hI
        rw [impl_longest_behind_l0, decide_eq_false (by omega), if_neg (by simp), hσ]
        rw [List.drop_eq_nil_of_le (by omega)] at hf
        refine ⟨_, rfl, σ.2, ?_, hGσ, by omega⟩
        rw [← hf]; rfl)
      k 0 (0, M) (by omega) (by omega) ⟨0, 0, rfl, by omega, rfl, by omega, by rw [List.drop_zero, eX_rec u last]; rfl, hG, by
        have : (((pts x).filter (aB x c last)).length - 0) * hP d ≤ 11 * hP d := Nat.mul_le_mul_right _ (by omega)
        simp only; omega⟩
    have hle := eX_le (A := aB x c) (n := x.p.toNat) d u last hd
    simp only at hr1
    rw [hr1, Option.bind_some]
    have hv : okI (eX (aB x c) x.p.toNat u last : Int) = true := by simp [okI]; omega
    rw [if_pos ⟨hokK, hv, by simp only; omega⟩]
    exact ⟨_, rfl, GL_put hG2 u last, by simp; omega⟩

theorem path_begin {k : Nat} (hk : 200 ≤ k) : ∃ M, impl_Colouring_path_l0 k x c k 0 (-1) 0 [] = some ((lpF (aB x c) x.p.toNat x.p.toNat).1, (lpF (aB x c) x.p.toNat x.p.toNat).2, M) ∧ GL x c M ∧ M.length ≤ 5000000000000 := by
  have hn : x.p.toNat ≤ 17 := by omega
  obtain ⟨r, h1, M, rfl, h2, h3⟩ := loopI (fun k' i (σ : Int × Int × List (MK × Int)) => impl_Colouring_path_l0 k x c k' σ.1 σ.2.1 i σ.2.2) x.p 0
    (fun i σ => ∃ im : Nat, i = im ∧ im ≤ x.p.toNat ∧ (σ.1, σ.2.1) = lpF (aB x c) x.p.toNat im ∧ GL x c σ.2.2 ∧ σ.2.2.length ≤ hS im)
    (fun r => ∃ M, r = ((lpF (aB x c) x.p.toNat x.p.toNat).1, (lpF (aB x c) x.p.toNat x.p.toNat).2, M) ∧ GL x c M ∧ M.length ≤ 5000000000000)
    (fun k' i σ h0 h1 hI => by
      obtain ⟨im, rfl, him, hσ, hG, hl⟩ := hI
      left
      have hs := hS_succ im
      have hs2 := hS_max im (by omega)
      have hb := hB_max (x.p.toNat - cnt x.p.toNat (add 0 im)) (by omega)
      have hi : im < x.p.toNat := by omega
      have ha : (add 0 im) < 2 ^ x.p.toNat := add_lt (Nat.pow_pos (by decide)) hi
      have e2 : bShl .i64 1 (im : Int) = ((add 0 im : Nat) : Int) := by rw [bShl_one (by omega)]; simp [add]
      obtain ⟨M', e3, hG', hM'⟩ := path_behind hp (c := c) _ (add 0 im) im k σ.2.2 rfl ha hi (by omega) hG (by omega)
      rw [impl_Colouring_path_l0, decide_eq_true (show (im : Int) < x.p from h1), if_pos rfl, if_pos (by omega), e2, e3, w64_id (by omega)]
      refine ⟨((lpF (aB x c) x.p.toNat (im + 1)).1, (lpF (aB x c) x.p.toNat (im + 1)).2, M'), ?_, im + 1, by omega, by omega, rfl, hG', by simp only; omega⟩
      rw [lpF, ← hσ]
      simp only [Option.bind_some]
      by_cases h : σ.2.1 < (eX (aB x c) x.p.toNat (add 0 im) im : Int)
      · simp [h]
      · simp [h])
    (fun k' i σ h0 h1 hI => by
      obtain ⟨im, rfl, him, hσ, hG, hl⟩ := hI
      have hs2 := hS_max im (by omega)
      have : im = x.p.toNat := by omega
      subst this
      rw [impl_Colouring_path_l0, decide_eq_false (by omega), if_neg (by simp)]
      exact ⟨_, rfl, σ.2.2, by rw [← hσ], hG, by omega⟩)
    k 0 (0, -1, []) (by omega) (by omega) ⟨0, rfl, by omega, rfl, GL_nil, by simp⟩
  exact ⟨M, h1, h2, h3⟩

theorem path_step {k u last m L : Nat} {M : List (MK × Int)} (hk : 200 ≤ k) (hu : u < 2 ^ x.p.toNat) (hlast : last < x.p.toNat) (hE : eX (aB x c) x.p.toNat u last = m + 1) (hG : GL x c M) (hM : M.length ≤ L) (hL : L ≤ 100000000000000) (out : List Int) (ho : out.length ≤ 100) :
    ∃ (p : Nat) (M' : List (MK × Int)), p < x.p.toNat ∧ (ir 0 x.p.toNat).find? (lpP (aB x c) x.p.toNat m u last) = some (p : Int) ∧ u.testBit p = false ∧ eX (aB x c) x.p.toNat (add u p) p = m ∧ GL x c M' ∧ M'.length ≤ L + 4800000000000 ∧
      impl_Colouring_path_l2 k x c ((m : Int) + 1) ((pts x).filter (aB x c last)) k (u : Int) 0 M out = some (((add u p : Nat) : Int), M', out ++ [(p : Int)]) := by
  have hn : x.p.toNat ≤ 17 := by omega
  have hu63 := p63 hn hu
  obtain ⟨p0, hp0, hf0, ha0, hb0, he0⟩ := lp_find hE
  have hr3 : ((pts x).filter (aB x c last)).length ≤ 11 := by
    refine Nat.le_trans (List.length_filter_le _ _) ?_
    simp [pts, ir_length]; omega
  have hff : ((pts x).filter (aB x c last)).find? (fun p => !u.testBit p.toNat && decide (eX (aB x c) x.p.toNat (add u p.toNat) p = m)) = some (p0 : Int) := by
    rw [List.find?_filter, ← hf0]
    refine congrArg (fun f => List.find? f (ir 0 x.p.toNat)) ?_
    funext a
    unfold lpP
    cases aB x c (last : Int) a <;> cases u.testBit a.toNat <;> simp
  obtain ⟨r, h1, M', rfl, h2, h3⟩ := loopI (fun k' i (σ : List (MK × Int)) => impl_Colouring_path_l2 k x c ((m : Int) + 1) ((pts x).filter (aB x c last)) k' (u : Int) i σ out) (((pts x).filter (aB x c last)).length : Int) 0
    (fun i σ => ∃ im : Nat, i = im ∧ im ≤ ((pts x).filter (aB x c last)).length ∧ (((pts x).filter (aB x c last)).drop im).find? (fun p => !u.testBit p.toNat && decide (eX (aB x c) x.p.toNat (add u p.toNat) p = m)) = some (p0 : Int) ∧ GL x c σ ∧ σ.length ≤ L + hS im)
    (fun r => ∃ M', r = (((add u p0 : Nat) : Int), M', out ++ [(p0 : Int)]) ∧ GL x c M' ∧ M'.length ≤ L + 4800000000000)
    (fun k' i σ h0 h1 hI => by
      obtain ⟨im, rfl, him, hf, hGσ, hlen⟩ := hI
      have hs := hS_succ im
      have hs2 := hS_max (im + 1) (by omega)
      have hi : im < ((pts x).filter (aB x c last)).length := by omega
      have hwi : w64 ((im : Int) + 1) = ((im : Int) + 1) := w64_id (by omega)
      have hmem := List.getElem_mem hi
      obtain ⟨h2, h3⟩ := List.mem_filter.1 hmem
      replace h2 := mem_ir.1 (show _ ∈ ir 0 x.p.toNat from h2)
      obtain ⟨pn, hpn⟩ : ∃ pn : Nat, ((pts x).filter (aB x c last))[im] = (pn : Int) := ⟨((pts x).filter (aB x c last))[im].toNat, by omega⟩
      have hget : ((pts x).filter (aB x c last)).getD (im : Int).toNat 0 = (pn : Int) := by
        rw [show (im : Int).toNat = im by omega, List.getD_eq_getElem?_getD, List.getElem?_eq_getElem hi, hpn]; rfl
      rw [List.drop_eq_getElem_cons hi, hpn, List.find?_cons] at hf
      rw [hpn] at h2 h3
      have hpnn : pn < x.p.toNat := by omega
      rw [impl_Colouring_path_l2, decide_eq_true h1, if_pos rfl, if_pos (by omega), hget, if_pos (by omega), bit0 hu63 (by omega)]
      cases hbit : u.testBit pn with
      | true =>
        left
        refine ⟨σ, ?_, im + 1, by omega, by omega, ?_, hGσ, by omega⟩
        · simp [hwi]
        · simp [hbit] at hf; exact hf
      | false =>
        have hb := hB_max (x.p.toNat - cnt x.p.toNat (add u pn)) (by omega)
        obtain ⟨M2, e3, hG2, hM2⟩ := path_behind hp (c := c) _ (add u pn) pn k σ rfl (add_lt hu hpnn) hpnn (by omega) hGσ (by omega)
        rw [Bool.not_false, if_pos rfl, if_pos (by omega), or_add hn hu hpnn, e3]
        simp only [Option.bind_some]
        rw [w64_id (by have := eX_le (A := aB x c) (n := x.p.toNat) _ u last rfl; omega), show (m : Int) + 1 - 1 = m by omega]
        by_cases hq : eX (aB x c) x.p.toNat (add u pn) pn = m
        · right
          have : pn = p0 := by
            simp [hbit, hq] at hf
            omega
          subst this
          rw [decide_eq_true (show (eX (aB x c) x.p.toNat (add u pn) pn : Int) = (m : Int) by omega), if_pos rfl, if_pos (by omega), if_pos (by simp; omega)]
          exact ⟨_, rfl, M2, rfl, hG2, by omega⟩
        · left
          rw [decide_eq_false (show ¬ (eX (aB x c) x.p.toNat (add u pn) pn : Int) = (m : Int) by omega)]
          refine ⟨M2, ?_, im + 1, by omega, by omega, ?_, hG2, by omega⟩
          · simp [hwi]
          · simp [hbit, hq] at hf
            exact hf)
    (fun k' i σ h0 h1 hI => by
      obtain ⟨im, rfl, him, hf, hGσ, hlen⟩ := hI
      rw [List.drop_eq_nil_of_le (by omega)] at hf
      cases hf)
    k 0 M (by omega) (by omega) ⟨0, rfl, by omega, by rw [List.drop_zero]; exact hff, hG, by omega⟩
  exact ⟨p0, M', hp0, hf0, hb0, he0, h2, h3, h1⟩

theorem path_go {k : Nat} (hk : 200 ≤ k) : ∀ (m k' u last : Nat) (M : List (MK × Int)) (out : List Int), m < k' → u < 2 ^ x.p.toNat → last < x.p.toNat → eX (aB x c) x.p.toNat u last = m → GL x c M → out.length + m ≤ 50 → M.length + hT m ≤ 90000000000000 → m ≤ 11 → out.getLast? = some (last : Int) →
    impl_Colouring_path_l1 k x c k' (u : Int) (m : Int) M out = some (out ++ lpN (aB x c) x.p.toNat m u last) := by
  intro m
  induction m with
  | zero =>
    intro k' u last M out hk' hu hlast hE hG ho hM hm hl
    obtain ⟨k', rfl⟩ : ∃ q, k' = q + 1 := ⟨k' - 1, by omega⟩
    rw [impl_Colouring_path_l1, decide_eq_false (by omega), if_neg (by simp), lpN, List.append_nil]
  | succ m ih =>
    intro k' u last M out hk' hu hlast hE hG ho hM hm hl
    obtain ⟨k', rfl⟩ : ∃ q, k' = q + 1 := ⟨k' - 1, by omega⟩
    have ht := hT_succ m
    have hne : out ≠ [] := fun e => by rw [e] at hl; cases hl
    have hlen := List.length_pos_iff.2 hne
    have hw : w64 ((out.length : Int) - 1) = ((out.length - 1 : Nat) : Int) := by rw [w64_id (by omega)]; omega
    have hget : out.getD (out.length - 1) 0 = (last : Int) := by
      rw [List.getD_eq_getElem?_getD, ← List.getLast?_eq_getElem?, hl]; rfl
    obtain ⟨p, M', hp', hf, hb, hE', hG', hM', e⟩ := path_step hp hk hu hlast hE hG (Nat.le_refl _) (by omega) out (by omega)
    rw [impl_Colouring_path_l1, decide_eq_true (by omega), if_pos rfl, hw, if_pos (by omega), Int.toNat_natCast, hget, neigh_val x (by omega) (by omega) c last (by omega), Option.bind_some]
    rw [show ((m + 1 : Nat) : Int) = (m : Int) + 1 by omega, e, Option.bind_some]
    simp only
    rw [w64_id (by omega), show (m : Int) + 1 - 1 = (m : Int) by omega]
    rw [ih k' (add u p) p M' _ (by omega) (add_lt hu hp') hp' hE' hG' (by simp; omega) (by omega) (by omega) (by simp)]
    rw [lpN, hf]
    simp

theorem path_val {k : Nat} (hk : 200 ≤ k) : impl_Colouring_path k x c = some (lp (aB x c) x.p.toNat) := by
  unfold impl_Colouring_path
  obtain ⟨M, h1, hG, hM⟩ := path_begin hp (c := c) hk
  rw [h1, Option.bind_some]
  obtain ⟨f, m, e, hf, hm, _, _⟩ := lpF_spec (A := aB x c) (n := x.p.toNat) x.p.toNat (by omega)
  have hm11 : m ≤ 11 := by have := eX_le (A := aB x c) (n := x.p.toNat) _ (add 0 f) f rfl; omega
  have ht := hT_max m (by omega)
  have e2 : bShl .i64 1 (f : Int) = ((add 0 f : Nat) : Int) := by rw [bShl_one (by omega)]; simp [add]
  have ha : (add 0 f) < 2 ^ x.p.toNat := add_lt (Nat.pow_pos (by decide)) hf
  unfold lp
  rw [e]
  simp only
  rw [if_pos (by omega), e2, path_go hp hk m k (add 0 f) f M [(f : Int)] (by omega) ha hf hm.symm hG (by simp; omega) (by omega) hm11 rfl]
  simp
end
end Go.Proofs.Ytghhnpdhehjlaaa
