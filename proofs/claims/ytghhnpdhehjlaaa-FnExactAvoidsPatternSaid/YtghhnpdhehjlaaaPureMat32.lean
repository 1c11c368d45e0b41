/- Plain laws: the greatest matching, as the program and as the reference finds it. No conditions beyond those that each lemma states. -/
import Derived.Test.YtghhnpdhehjlaaaPureCore32
import Derived.Test.YtghhnpdhehjlaaaMat
set_option linter.unusedVariables false
set_option linter.unusedSimpArgs false
namespace Go.Proofs.Ytghhnpdhehjlaaa
open Go Go.RowKit Ab

theorem joins_val (x : Col) (c : Int) (i j : Int) (hi : 0 ≤ i ∧ i < 17) (hj : 0 ≤ j ∧ j < 17) : impl_Colouring_joins x i j c = some (aB x c i j) := by
  unfold impl_Colouring_joins aB
  by_cases e : i = j
  · rw [decide_eq_true e]
    have : ¬ (i ≠ j ∧ x.cc i j = c) := fun h => h.1 e
    rw [decide_eq_false this]
    simp
  · rw [decide_eq_false e, implAt_ne x i j (by omega) (by omega) (by omega) (by omega) e]
    simp [e]

theorem bit0 {s j : Nat} (hs : s < 2 ^ 63) (hj : j ≤ 64) : decide (bAnd .i64 (bShr .i64 (s : Int) (j : Int)) 1 = 0) = !s.testBit j := by
  rw [bit_eq hs hj]; cases s.testBit j <;> rfl
theorem bit1 {s j : Nat} (hs : s < 2 ^ 63) (hj : j ≤ 64) : decide (bAnd .i64 (bShr .i64 (s : Int) (j : Int)) 1 = 1) = s.testBit j := by
  rw [bit_eq hs hj]; cases s.testBit j <;> rfl
theorem u64n {j : Nat} (h : j ≤ 100000000) : IntKind.u64.wrap (j : Int) = j := u64_id (by omega)
theorem p63 {n s : Nat} (hn : n ≤ 17) (hs : s < 2 ^ n) : s < 2 ^ 63 := Nat.lt_of_lt_of_le hs (Nat.pow_le_pow_right (by decide) (by omega))
theorem p2_63 {i : Nat} (h : i < 63) : 2 ^ i < 2 ^ 63 := Nat.pow_lt_pow_right (by decide) h

theorem xor_off {s i : Nat} (hs : s < 2 ^ 63) (hi : i < 63) : bXor .i64 (s : Int) (bShl .i64 1 (i : Int)) = ((off s i : Nat) : Int) := by
  rw [bShl_one hi, bXor_nat hs (p2_63 hi)]; rfl
theorem andNot_off {s i : Nat} (hs : s < 2 ^ 63) (hi : i < 63) (hb : s.testBit i = true) : bAndNot .i64 (s : Int) (bShl .i64 1 (i : Int)) = ((off s i : Nat) : Int) := by
  rw [bShl_one hi]
  unfold bAndNot
  have e : (BitVec.ofInt IntKind.i64.bits (s : Int) &&& ~~~ BitVec.ofInt IntKind.i64.bits ((2 ^ i : Nat) : Int)).toNat = off s i := by
    show (BitVec.ofInt 64 (s : Int) &&& ~~~ BitVec.ofInt 64 ((2 ^ i : Nat) : Int)).toNat = off s i
    rw [BitVec.toNat_and, BitVec.toNat_not, ofInt_nat hs, ofInt_nat (p2_63 hi)]
    refine bits_eq fun j => ?_
    have h1 : 2 ^ 64 - 1 - 2 ^ i = 2 ^ 64 - (2 ^ i + 1) := by omega
    rw [Nat.testBit_and, h1, Nat.testBit_two_pow_sub_succ (Nat.lt_trans (p2_63 hi) (by decide)), off_test hb, Nat.testBit_two_pow]
    by_cases h64 : j < 64
    · by_cases e : i = j
      · subst e; simp
      · have : ¬ j = i := fun h => e h.symm
        simp [h64, e, this]
    · have h0 : s.testBit j = false := Nat.testBit_lt_two_pow (Nat.lt_of_lt_of_le hs (Nat.pow_le_pow_right (by decide) (by omega)))
      simp [h0]
  rw [e]
  have : off s i < 2 ^ 63 := off_lt hs hi
  exact i64_nat this

section
variable {x : Col} {c : Int} (hp : 1 ≤ x.p ∧ x.p ≤ 17)
include hp

/-! ### The program -/
omit hp in
theorem low_impl {s m : Nat} (hs : s < 2 ^ 63) (hm : m ≤ 17) (hb : s.testBit m = true) (hlow : ∀ j, j < m → s.testBit j = false) : ∀ (k j : Nat), j ≤ m → m - j < k → impl_matcher_behind_l0 (s : Int) k j = some (m : Int) := by
  intro k
  induction k with
  | zero => intro j _ h; omega
  | succ k ih =>
    intro j hj h
    unfold impl_matcher_behind_l0
    rw [if_pos (by omega), bit0 hs (by omega)]
    by_cases e : j = m
    · subst e; rw [hb]; rfl
    · rw [hlow j (by omega), Bool.not_false, if_pos rfl, w64_id (by omega)]
      exact ih (j + 1) (by omega) (by omega)

/-- What the table of the program holds. -/
def GM (x : Col) (c : Int) (M : List (MK × Int)) : Prop := ∀ (s v : Int), lookM M (.i s) = some v → ∃ t : Nat, s = t ∧ v = (mu (aB x c) (mem t 0 x.p.toNat) : Int)

omit hp in
theorem GM_nil : GM x c [] := fun s v h => by simp [lookM] at h
omit hp in
theorem GM_put {M : List (MK × Int)} (h : GM x c M) (s : Nat) : GM x c ((MK.i (s : Int), (mu (aB x c) (mem s 0 x.p.toNat) : Int)) :: M) := by
  intro t v hv
  unfold lookM at hv
  cases e : (MK.i (s : Int)).beq (MK.i t) with
  | true =>
    rw [e, cond_true] at hv
    have := (MK.beq_iff _ _).1 e
    simp at this
    exact ⟨s, this.symm, (Option.some.inj hv).symm⟩
  | false => rw [e, cond_false] at hv; exact h t v hv

theorem mem17 (s p : Nat) : (mem s p x.p.toNat).length ≤ 17 := Nat.le_trans (mem_length _ _ _) (by omega)

theorem behind_val : ∀ (d s k : Nat) (M : List (MK × Int)), s < 2 ^ x.p.toNat → (mem s 0 x.p.toNat).length = d → d + 50 ≤ k → GM x c M → M.length + gB d < 4000000000000000000 →
    ∃ M', impl_matcher_behind k (⟨x, c⟩ : Lon) M (s : Int) = some ((mu (aB x c) (mem s 0 x.p.toNat) : Int), M') ∧ GM x c M' ∧ M'.length ≤ M.length + gB d := by
  intro d
  induction d using Nat.strongRecOn with
  | _ d ih =>
  intro s k M hs hd hk hG hM
  have hn : x.p.toNat ≤ 17 := by omega
  have hs63 := p63 hn hs
  obtain ⟨k, rfl⟩ : ∃ k', k = k' + 1 := ⟨k - 1, by omega⟩
  unfold impl_matcher_behind impl_matcher_behind_body
  cases hl : mem s 0 x.p.toNat with
  | nil =>
    have : s = 0 := mem_nil_zero hs hl
    subst this
    rw [if_pos (by simp), mu_nil]
    exact ⟨M, rfl, hG, by omega⟩
  | cons i t =>
    obtain ⟨m, rfl, hm, hb, hlow, ht⟩ := mem_first hl
    have hs0 : ¬ ((s : Int) = 0) := by
      intro e
      have : s = 0 := by omega
      subst this
      simp at hb
    have hsI : (s : Int) < 131072 := by
      have := Nat.lt_of_lt_of_le hs (Nat.pow_le_pow_right (by decide) hn : 2 ^ x.p.toNat ≤ 2 ^ 17)
      omega
    have hokK : okK (MK.i (s : Int)) = true := by simp [okK, okI]; omega
    rw [decide_eq_false hs0, if_neg (by simp), if_pos hokK]
    cases hlk : lookM M (MK.i (s : Int)) with
    | some v =>
      obtain ⟨t', h1, h2⟩ := hG _ _ hlk
      have : s = t' := by omega
      subst this
      simp only [Option.isSome_some, if_true, Option.getD_some]
      refine ⟨M, ?_, hG, by omega⟩
      rw [h2, hl]
    | none =>
      simp only [Option.isSome_none, Bool.false_eq_true, if_false]
      have e0 : impl_matcher_behind_l0 (s : Int) k 0 = some (m : Int) := low_impl hs63 (by omega) hb hlow k 0 (by omega) (by omega)
      rw [e0, Option.bind_some, if_pos (by omega)]
      rw [andNot_off hs63 (by omega) hb]
      obtain ⟨hoff, hoff2⟩ := mem_off_first hm hb hlow
      have hr : off s m < 2 ^ x.p.toNat := off_lt hs hm
      have hr63 := p63 hn hr
      have hdl : t.length + 1 = d := by rw [← hd, hl]; simp
      have hgb := gB_pos (d := d) (by omega)
      have htl : t.length ≤ 16 := by rw [ht]; have := mem_length s (m + 1) x.p.toNat; omega
      obtain ⟨M1, e1, hG1, hM1⟩ := ih (d - 1) (by omega) (off s m) k M hr (by rw [hoff, ← ht]; omega) (by omega) hG (by omega)
      rw [e1, Option.bind_some]
      simp only
      rw [hoff, ← ht]
      have hw : w64 ((m : Int) + 1) = ((m + 1 : Nat) : Int) := by rw [w64_id (by omega)]; omega
      rw [hw]
      -- the loop
      have hloop := loopI (fun k' j (σ : Int × List (MK × Int)) => impl_matcher_behind_l1 (impl_matcher_behind k) (⟨x, c⟩ : Lon) (s : Int) (m : Int) k' σ.1 j σ.2) x.p (m + 1 : Nat)
        (fun j σ => ∃ (b : Nat) (jn : Nat), j = jn ∧ jn ≤ x.p.toNat ∧ σ.1 = b ∧ b ≤ 17 ∧ (mem (off s m) jn x.p.toNat).foldl (muF (aB x c) m t) b = mu (aB x c) ((m : Int) :: t) ∧ GM x c σ.2 ∧ σ.2.length + (x.p.toNat - jn) * gB (d - 2) ≤ M.length + gB (d - 1) + 17 * gB (d - 2))
        (fun r => ∃ M2, r = ((mu (aB x c) ((m : Int) :: t) : Int), M2) ∧ GM x c M2 ∧ M2.length ≤ M.length + gB (d - 1) + 17 * gB (d - 2))
        (fun k' j σ h0 h1 hI => by
          obtain ⟨b, jn, rfl, hj, hσ, hb17, hf, hGσ, hlen⟩ := hI
          left
          have hjn : jn < x.p.toNat := by omega
          have hmj : m < jn := by omega
          have hsub : (x.p.toNat - jn) * gB (d - 2) = (x.p.toNat - (jn + 1)) * gB (d - 2) + gB (d - 2) := by
            rw [show x.p.toNat - jn = (x.p.toNat - (jn + 1)) + 1 by omega, Nat.succ_mul]
          have hwj : w64 ((jn : Int) + 1) = ((jn : Int) + 1) := w64_id (by omega)
          rw [impl_matcher_behind_l1]
          rw [decide_eq_true (show (jn : Int) < x.p from h1), if_pos rfl, if_pos (by omega), andNot_off hs63 (by omega) hb, bit1 hr63 (by omega)]
          cases hbit : (off s m).testBit jn with
          | false =>
            refine ⟨σ, ?_, b, jn + 1, by omega, by omega, hσ, hb17, ?_, hGσ, by omega⟩
            · simp [hwj]
            · rw [mem_no hjn hbit] at hf; exact hf
          | true =>
            rw [mem_yes hjn hbit, List.foldl_cons] at hf
            rw [if_pos rfl, joins_val x c m jn (by omega) (by omega)]
            simp only [Option.bind_some]
            cases ha : aB x c (m : Int) (jn : Int) with
            | false =>
              refine ⟨σ, ?_, b, jn + 1, by omega, by omega, hσ, hb17, ?_, hGσ, by omega⟩
              · simp [hwj]
              · unfold muF at hf ⊢; rw [ha, cond_false] at hf; exact hf
            | true =>
              have hmemj : (jn : Int) ∈ t := by
                rw [ht]
                refine mem_mem.2 ⟨⟨by omega, by omega⟩, ?_⟩
                rw [off_test hb] at hbit
                simp at hbit
                simpa using hbit.1
              have h2 : off (off s m) jn < 2 ^ x.p.toNat := off_lt hr hjn
              have e2 : mem (off (off s m) jn) 0 x.p.toNat = t.filter fun z => !decide (z = (jn : Int)) := by
                rw [off_mem hbit, hoff, ← ht]
              have hl2 : (t.filter fun z => !decide (z = (jn : Int))).length = d - 2 := by
                rw [filter_ne_length (by rw [ht]; exact mem_nodup _ _ _) hmemj]; omega
              obtain ⟨M2, e3, hG2, hM2⟩ := ih (d - 2) (by omega) (off (off s m) jn) k σ.2 h2 (by rw [e2]; exact hl2) (by omega) hGσ (by omega)
              rw [if_pos rfl, if_pos (by omega), andNot_off hr63 (by omega) hbit, e3, e2]
              simp only [Option.bind_some]
              have hmu : mu (aB x c) (t.filter fun z => !decide (z = (jn : Int))) ≤ 16 := Nat.le_trans (mu_le _ _) (by omega)
              rw [w64_id (by omega), hwj, hσ]
              refine ⟨(((max b (mu (aB x c) (t.filter fun z => !decide (z = (jn : Int))) + 1) : Nat) : Int), M2), ?_, _, jn + 1, by omega, by omega, rfl, by omega, ?_, hG2, by simp only; omega⟩
              · have e5 : (if (b : Int) < (mu (aB x c) (t.filter fun z => !decide (z = (jn : Int))) : Int) + 1 then (mu (aB x c) (t.filter fun z => !decide (z = (jn : Int))) : Int) + 1 else (b : Int)) = ((max b (mu (aB x c) (t.filter fun z => !decide (z = (jn : Int))) + 1) : Nat) : Int) := by
                  split <;> omega
                rw [e5]
              · unfold muF at hf ⊢; rw [ha, cond_true] at hf; exact hf)
        (fun k' j σ h0 h1 hI => by
          obtain ⟨b, jn, rfl, hj, hσ, hb17, hf, hGσ, hlen⟩ := hI
          refine ⟨_, ?_, σ.2, rfl, hGσ, by omega⟩
          rw [impl_matcher_behind_l1]
          rw [decide_eq_false (show ¬ (jn : Int) < x.p by omega), if_neg (by simp), hσ]
          rw [mem_end (by omega)] at hf
          rw [← hf]; rfl)
        k ((m + 1 : Nat) : Int) ((mu (aB x c) t : Int), M1) (by omega) (by omega)
        ⟨mu (aB x c) t, m + 1, rfl, by omega, rfl, Nat.le_trans (mu_le _ _) (by omega), by rw [hoff2, ← ht, mu_cons], hG1, by
          have : (x.p.toNat - (m + 1)) * gB (d - 2) ≤ 17 * gB (d - 2) := Nat.mul_le_mul_right _ (by omega)
          simp only; omega⟩
      obtain ⟨r, hr1, M2, rfl, hG2, hM2⟩ := hloop
      simp only at hr1
      rw [hr1, Option.bind_some]
      have hmu : mu (aB x c) ((m : Int) :: t) ≤ 17 := Nat.le_trans (mu_le _ _) (by simp; omega)
      have hv : okI (mu (aB x c) ((m : Int) :: t) : Int) = true := by simp [okI]; omega
      rw [if_pos ⟨hokK, hv, by simp only; omega⟩]
      refine ⟨_, rfl, ?_, by simp; omega⟩
      have := GM_put hG2 s
      rw [hl] at this
      exact this

omit hp in
theorem mem_whole : ∃ s : Nat, s < 2 ^ x.p.toNat ∧ mem s 0 x.p.toNat = pts x ∧ s = 2 ^ x.p.toNat - 1 := ⟨2 ^ x.p.toNat - 1, Nat.sub_lt (Nat.pow_pos (by decide)) (by decide), mem_all _, rfl⟩

theorem matching_in {s m k L : Nat} {t : List Int} {M : List (MK × Int)} (hs : s < 2 ^ x.p.toNat) (hl : mem s 0 x.p.toNat = (m : Int) :: t) (hk : 200 ≤ k) (hG : GM x c M) (hM : M.length ≤ L) (hL : L ≤ 1000000000000000) (out : List (List Int)) (ho : out.length ≤ 100) (r : Int × List (MK × Int)) (hr : r.1 = (mu (aB x c) ((m : Int) :: t) : Int)) :
    ∃ (s' : Nat) (M' : List (MK × Int)), impl_Colouring_matching_l1 k x c (s : Int) (m : Int) r k (bAndNot .i64 (s : Int) (bShl .i64 1 (m : Int))) (w64 ((m : Int) + 1)) M out = some ((s' : Int), M', out ++ (match t.find? (mlP (aB x c) m t) with | some j => [[(m : Int), j]] | none => [])) ∧
      s' < 2 ^ x.p.toNat ∧ mem s' 0 x.p.toNat = (match t.find? (mlP (aB x c) m t) with | some j => t.filter fun z => !decide (z = j) | none => t) ∧ (∀ j, j ≤ m → s'.testBit j = false) ∧ GM x c M' ∧ M'.length ≤ L + 20000000000000 := by
  have hn : x.p.toNat ≤ 17 := by omega
  obtain ⟨m', e, hm, hb, hlow, ht⟩ := mem_first hl
  have : m = m' := by omega
  subst this
  have hs63 := p63 hn hs
  obtain ⟨hoff, hoff2⟩ := mem_off_first hm hb hlow
  have hr0 : off s m < 2 ^ x.p.toNat := off_lt hs hm
  have hr63 := p63 hn hr0
  have htl : t.length ≤ 16 := by rw [ht]; have := mem_length s (m + 1) x.p.toNat; omega
  have hlow2 : ∀ j, j ≤ m → (off s m).testBit j = false := fun j hj => by
    rw [off_test hb]
    by_cases e : j = m
    · simp [e]
    · rw [hlow j (by omega)]; rfl
  have hw : w64 ((m : Int) + 1) = ((m + 1 : Nat) : Int) := by rw [w64_id (by omega)]; omega
  rw [andNot_off hs63 (by omega) hb, hw]
  have hloop := loopI (fun k' j (σ : List (MK × Int)) => impl_Colouring_matching_l1 k x c (s : Int) (m : Int) r k' ((off s m : Nat) : Int) j σ out) x.p (m + 1 : Nat)
    (fun j σ => ∃ jn : Nat, j = jn ∧ jn ≤ x.p.toNat ∧ (mem (off s m) jn x.p.toNat).find? (mlP (aB x c) m t) = t.find? (mlP (aB x c) m t) ∧ GM x c σ ∧ σ.length ≤ L + bdA jn)
    (fun res => ∃ (s' : Nat) (M' : List (MK × Int)), res = ((s' : Int), M', out ++ (match t.find? (mlP (aB x c) m t) with | some j => [[(m : Int), j]] | none => [])) ∧
      s' < 2 ^ x.p.toNat ∧ mem s' 0 x.p.toNat = (match t.find? (mlP (aB x c) m t) with | some j => t.filter fun z => !decide (z = j) | none => t) ∧ (∀ j, j ≤ m → s'.testBit j = false) ∧ GM x c M' ∧ M'.length ≤ L + 20000000000000)
    (fun k' j σ h0 h1 hI => by
      obtain ⟨jn, rfl, hj, hf, hGσ, hlen⟩ := hI
      have hbd := bdA_succ jn
      have hbm := bdA_max jn (by omega)
      have hjn : jn < x.p.toNat := by omega
      have hmj : m < jn := by omega
      have hwj : w64 ((jn : Int) + 1) = ((jn : Int) + 1) := w64_id (by omega)
      rw [impl_Colouring_matching_l1]
      rw [decide_eq_true (show (jn : Int) < x.p from h1), if_pos rfl, if_pos (by omega), andNot_off hs63 (by omega) hb, bit1 hr63 (by omega)]
      cases hbit : (off s m).testBit jn with
      | false =>
        left
        refine ⟨σ, ?_, jn + 1, by omega, by omega, ?_, hGσ, by omega⟩
        · simp [hwj]
        · rw [mem_no hjn hbit] at hf; exact hf
      | true =>
        rw [mem_yes hjn hbit] at hf
        rw [if_pos rfl, joins_val x c m jn (by omega) (by omega)]
        simp only [Option.bind_some]
        cases ha : aB x c (m : Int) (jn : Int) with
        | false =>
          left
          have hP : mlP (aB x c) m t (jn : Int) = false := by simp [mlP, ha]
          rw [List.find?_cons, hP] at hf
          refine ⟨σ, ?_, jn + 1, by omega, by omega, hf, hGσ, by omega⟩
          simp [hwj]
        | true =>
          have hmemj : (jn : Int) ∈ t := by
            rw [ht]
            refine mem_mem.2 ⟨⟨by omega, by omega⟩, ?_⟩
            rw [off_test hb] at hbit
            simp at hbit
            simpa using hbit.1
          have h2 : off (off s m) jn < 2 ^ x.p.toNat := off_lt hr0 hjn
          have e2 : mem (off (off s m) jn) 0 x.p.toNat = t.filter fun z => !decide (z = (jn : Int)) := by
            rw [off_mem hbit, hoff, ← ht]
          have hl17 := mem17 hp (off (off s m) jn) 0
          have hgb := gB_max _ hl17
          obtain ⟨M2, e3, hG2, hM2⟩ := behind_val hp (mem (off (off s m) jn) 0 x.p.toNat).length (off (off s m) jn) k σ h2 rfl (by omega) hGσ (by omega)
          rw [if_pos rfl, if_pos (by omega), andNot_off hr63 (by omega) hbit, e3, e2]
          simp only [Option.bind_some]
          have hmu : mu (aB x c) (t.filter fun z => !decide (z = (jn : Int))) ≤ 16 := Nat.le_trans (mu_le _ _) (Nat.le_trans (List.length_filter_le _ _) htl)
          rw [w64_id (by omega), hr]
          by_cases hq : mu (aB x c) (t.filter fun z => !decide (z = (jn : Int))) + 1 = mu (aB x c) ((m : Int) :: t)
          · right
            have hP : mlP (aB x c) m t (jn : Int) = true := by simp [mlP, ha, hq]
            rw [List.find?_cons, hP] at hf
            rw [decide_eq_true (show (mu (aB x c) (t.filter fun z => !decide (z = (jn : Int))) : Int) + 1 = (mu (aB x c) ((m : Int) :: t) : Int) by omega), if_pos rfl, if_pos (by omega), if_pos (by simp; omega)]
            refine ⟨_, rfl, off (off s m) jn, M2, ?_, h2, ?_, ?_, hG2, by omega⟩
            · rw [← hf]
            · rw [← hf]; exact e2
            · intro j hj
              rw [off_test hbit, hlow2 j hj]; rfl
          · left
            have hP : mlP (aB x c) m t (jn : Int) = false := by simp [mlP, hq]
            rw [List.find?_cons, hP] at hf
            rw [decide_eq_false (show ¬ (mu (aB x c) (t.filter fun z => !decide (z = (jn : Int))) : Int) + 1 = (mu (aB x c) ((m : Int) :: t) : Int) by omega)]
            refine ⟨M2, ?_, jn + 1, by omega, by omega, hf, hG2, by omega⟩
            simp [hwj])
    (fun k' j σ h0 h1 hI => by
      obtain ⟨jn, rfl, hj, hf, hGσ, hlen⟩ := hI
      have hbm := bdA_max jn (by omega)
      rw [impl_Colouring_matching_l1]
      rw [decide_eq_false (show ¬ (jn : Int) < x.p by omega), if_neg (by simp)]
      rw [mem_end (by omega)] at hf
      refine ⟨_, rfl, off s m, σ, ?_, hr0, ?_, hlow2, hGσ, by omega⟩
      · rw [← hf]; simp
      · rw [← hf, hoff, ← ht]; rfl)
    k ((m + 1 : Nat) : Int) M (by omega) (by omega) ⟨m + 1, rfl, by omega, by rw [hoff2, ← ht], hG, by omega⟩
  obtain ⟨res, hr1, s', M', rfl, h⟩ := hloop
  exact ⟨s', M', hr1, h⟩

theorem matching_val {k : Nat} (hk : 200 ≤ k) (c : Int) : impl_Colouring_matching k x c = some (ml (aB x c) (pts x)) := by
  have hn : x.p.toNat ≤ 17 := by omega
  unfold impl_Colouring_matching
  rw [if_pos (by omega)]
  obtain ⟨w, hw, hwm, hwe⟩ := mem_whole (x := x)
  have hx : x.p = ((x.p.toNat : Nat) : Int) := by omega
  have e0 : w64 (bShl .i64 1 x.p - 1) = (w : Int) := by
    rw [hx, bShl_one (by omega)]
    have h1 : 0 < 2 ^ x.p.toNat := Nat.pow_pos (by decide)
    have h2 := p63 hn hw
    rw [w64_id (by omega)]; omega
  rw [e0]
  have hloop := loopI (fun k' i (σ : Int × List (MK × Int) × List (List Int)) => impl_Colouring_matching_l0 k x c k' σ.1 i σ.2.1 σ.2.2) x.p 0
    (fun i σ => ∃ (s im : Nat), i = im ∧ im ≤ x.p.toNat ∧ σ.1 = (s : Int) ∧ s < 2 ^ x.p.toNat ∧ (∀ j, j < im → s.testBit j = false) ∧ σ.2.2 ++ ml (aB x c) (mem s 0 x.p.toNat) = ml (aB x c) (pts x) ∧ GM x c σ.2.1 ∧ σ.2.1.length ≤ bdB im)
    (fun res => res = ml (aB x c) (pts x))
    (fun k' i σ h0 h1 hI => by
      obtain ⟨s, im, rfl, him, hσ, hs, hlow, hout, hG, hlen⟩ := hI
      have hbd := bdB_succ im
      have hbm := bdB_max im (by omega)
      have hi : im < x.p.toNat := by omega
      have hwi : w64 ((im : Int) + 1) = ((im : Int) + 1) := w64_id (by omega)
      have hs63 := p63 hn hs
      left
      rw [impl_Colouring_matching_l0]
      rw [decide_eq_true (show (im : Int) < x.p from h1), if_pos rfl, if_pos (by omega), hσ, bit0 hs63 (by omega)]
      cases hb : s.testBit im with
      | false =>
        refine ⟨((s : Int), σ.2.1, σ.2.2), ?_, s, im + 1, by omega, by omega, rfl, hs, ?_, hout, hG, by simp only; omega⟩
        · simp [hwi]
        · intro j hj
          by_cases e : j = im
          · rw [e]; exact hb
          · exact hlow j (by omega)
      | true =>
        have hl : mem s 0 x.p.toNat = (im : Int) :: mem s (im + 1) x.p.toNat := by rw [mem_low hlow, mem_yes hi hb]
        have hl17 := mem17 hp s 0
        have hgb := gB_max _ hl17
        obtain ⟨M1, e1, hG1, hM1⟩ := behind_val hp (mem s 0 x.p.toNat).length s k σ.2.1 hs rfl (by omega) hG (by omega)
        have hol : σ.2.2.length ≤ 100 := by
          have := congrArg List.length hout
          have h3 := ml_len_le (aB x c) (pts x)
          have h4 : (pts x).length = x.p.toNat := by simp [pts, ir_length]
          simp at this; omega
        obtain ⟨s', M', e2, hs', hm', hlow', hG', hM'⟩ := matching_in hp (c := c) hs hl hk hG1 (L := bdB im + 1000000000000) (by omega) (by omega) σ.2.2 hol ((mu (aB x c) (mem s 0 x.p.toNat) : Int), M1) (by rw [hl])
        rw [Bool.not_true, if_neg (by simp), if_pos (by omega), e1, Option.bind_some]
        simp only
        rw [e2, Option.bind_some]
        refine ⟨((s' : Int), M', _), by rw [hwi], s', im + 1, by omega, by omega, rfl, hs', fun j hj => hlow' j (by omega), ?_, hG', by simp only; omega⟩
        rw [← hout, hl, hm']
        cases hf : (mem s (im + 1) x.p.toNat).find? (mlP (aB x c) im (mem s (im + 1) x.p.toNat)) with
        | some j => rw [ml_some hf]; simp
        | none => rw [ml_none hf]; simp)
    (fun k' i σ h0 h1 hI => by
      obtain ⟨s, im, rfl, him, hσ, hs, hlow, hout, hG, hlen⟩ := hI
      rw [impl_Colouring_matching_l0]
      rw [decide_eq_false (show ¬ (im : Int) < x.p by omega), if_neg (by simp)]
      refine ⟨_, rfl, ?_⟩
      have : mem s 0 x.p.toNat = [] := by rw [mem_low hlow, mem_end (by omega)]
      rw [this, ml_nil, List.append_nil] at hout
      exact hout)
    k 0 ((w : Int), [], []) (by omega) (by omega) ⟨w, 0, rfl, by omega, rfl, hw, fun j hj => by omega, by rw [hwm]; rfl, GM_nil, by simp⟩
  obtain ⟨res, h1, rfl⟩ := hloop
  simp only at h1
  rw [h1]; rfl
end
end Go.Proofs.Ytghhnpdhehjlaaa
