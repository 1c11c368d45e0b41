/- Plain laws: the greatest matching, as the reference finds it. No conditions beyond those that each lemma states. -/
import Derived.Test.YtghhnpdhehjlaaaPureMat32
set_option linter.unusedVariables false
set_option linter.unusedSimpArgs false
namespace Go.Proofs.Ytghhnpdhehjlaaa
open Go Go.RowKit Ab

theorem and_bit (s i : Nat) : s &&& 2 ^ i = bif s.testBit i then 2 ^ i else 0 := by
  refine bits_eq fun j => ?_
  rw [Nat.testBit_and, Nat.testBit_two_pow]
  by_cases e : i = j
  · subst e
    cases h : s.testBit i
    · simp
    · simp [Nat.testBit_two_pow]
  · cases s.testBit i
    · simp [e]
    · simp [e, Nat.testBit_two_pow]

section
variable {x : Col} {c : Int} (hp : 1 ≤ x.p ∧ x.p ≤ 17)
include hp

omit hp in
theorem low_spec {s m : Nat} (hs : s < 2 ^ 63) (hm : m ≤ 17) (hb : s.testBit m = true) (hlow : ∀ j, j < m → s.testBit j = false) : ∀ (k j : Nat), j ≤ m → m - j < k → spec_l04Match_l0 (s : Int) k j = some (m : Int) := by
  intro k
  induction k with
  | zero => intro j _ h; omega
  | succ k ih =>
    intro j hj h
    unfold spec_l04Match_l0
    rw [u64n (by omega), if_pos (by omega), bit0 hs (by omega)]
    by_cases e : j = m
    · subst e; rw [hb]; rfl
    · rw [hlow j (by omega), Bool.not_false, if_pos rfl, w64_id (by omega)]
      exact ih (j + 1) (by omega) (by omega)

/-- What the table of the reference holds. -/
def TM (x : Col) (c : Int) (T : List Int) : Prop := T.length = 2 ^ x.p.toNat ∧ ∀ t : Nat, t < 2 ^ x.p.toNat → T.getD t 0 = -1 ∨ T.getD t 0 = (mu (aB x c) (mem t 0 x.p.toNat) : Int)

omit hp in
theorem TM_put {T : List Int} (h : TM x c T) {s : Nat} (hs : s < 2 ^ x.p.toNat) {v : Int} (hv : v = (mu (aB x c) (mem s 0 x.p.toNat) : Int)) : TM x c (T.set s v) := by
  refine ⟨by rw [List.length_set]; exact h.1, fun t ht => ?_⟩
  by_cases e : s = t
  · subst e
    right
    rw [List.getD_eq_getElem?_getD, List.getElem?_set_self (by rw [h.1]; exact hs)]
    exact hv
  · rw [List.getD_eq_getElem?_getD, List.getElem?_set_ne e, ← List.getD_eq_getElem?_getD]
    exact h.2 t ht

theorem rbit {i j : Nat} (hi : i < x.p.toNat) (hj : j < x.p.toNat) : decide (bAnd .i64 (bShr .i64 ((rws x c x.p.toNat).getD i 0) (j : Int)) 1 = 1) = aB x c (i : Int) (j : Int) := by
  rw [rws_get x c _ _ hi, bit1 (nb_lt x hp c i) (by omega), nb_test]
  simp [hj]

theorem match_val : ∀ (d s k : Nat) (T : List Int), s < 2 ^ x.p.toNat → (mem s 0 x.p.toNat).length = d → d + 50 ≤ k → TM x c T →
    ∃ T', spec_l04Match k (rws x c x.p.toNat) T (s : Int) = some ((mu (aB x c) (mem s 0 x.p.toNat) : Int), T') ∧ TM x c T' := by
  intro d
  induction d using Nat.strongRecOn with
  | _ d ih =>
  intro s k T hs hd hk hG
  have hn : x.p.toNat ≤ 17 := by omega
  have hs63 := p63 hn hs
  obtain ⟨k, rfl⟩ : ∃ k', k = k' + 1 := ⟨k - 1, by omega⟩
  rw [spec_l04Match]
  unfold spec_l04Match_body
  cases hl : mem s 0 x.p.toNat with
  | nil =>
    have : s = 0 := mem_nil_zero hs hl
    subst this
    rw [if_pos (by simp), mu_nil]
    exact ⟨T, rfl, hG⟩
  | cons i t =>
    obtain ⟨m, rfl, hm, hb, hlow, ht⟩ := mem_first hl
    have hs0 : ¬ ((s : Int) = 0) := by
      intro e
      have : s = 0 := by omega
      subst this
      simp at hb
    have hin : (0 : Int) ≤ (s : Int) ∧ (s : Int) < (T.length : Int) := by rw [hG.1]; omega
    have hrl : (rws x c x.p.toNat).length = x.p.toNat := rws_length ..
    rw [decide_eq_false hs0, if_neg (by simp), if_pos hin]
    have hts : (s : Int).toNat = s := by omega
    rw [hts]
    rcases hG.2 s hs with hv | hv
    · rw [hv]
      rw [decide_eq_false (by decide), if_neg (by simp)]
      have e0 : spec_l04Match_l0 (s : Int) k 0 = some (m : Int) := low_spec hs63 (by omega) hb hlow k 0 (by omega) (by omega)
      rw [e0, Option.bind_some, u64n (by omega), if_pos (by omega)]
      rw [xor_off hs63 (by omega)]
      obtain ⟨hoff, hoff2⟩ := mem_off_first hm hb hlow
      have hr : off s m < 2 ^ x.p.toNat := off_lt hs hm
      have hr63 := p63 hn hr
      have hdl : t.length + 1 = d := by rw [← hd, hl]; simp
      have htl : t.length ≤ 16 := by rw [ht]; have := mem_length s (m + 1) x.p.toNat; omega
      obtain ⟨T1, e1, hG1⟩ := ih (d - 1) (by omega) (off s m) k T hr (by rw [hoff, ← ht]; omega) (by omega) hG
      rw [e1, Option.bind_some]
      simp only
      rw [hoff, ← ht]
      have hw : w64 ((m : Int) + 1) = ((m + 1 : Nat) : Int) := by rw [w64_id (by omega)]; omega
      rw [hw]
      have hloop := loopI (fun k' j (σ : Int × List Int) => spec_l04Match_l1 (spec_l04Match k) (rws x c x.p.toNat) (s : Int) (m : Int) k' σ.1 j σ.2) x.p (m + 1 : Nat)
        (fun j σ => ∃ (b : Nat) (jn : Nat), j = jn ∧ jn ≤ x.p.toNat ∧ σ.1 = b ∧ b ≤ 17 ∧ (mem (off s m) jn x.p.toNat).foldl (muF (aB x c) m t) b = mu (aB x c) ((m : Int) :: t) ∧ TM x c σ.2)
        (fun r => ∃ T2, r = ((mu (aB x c) ((m : Int) :: t) : Int), T2) ∧ TM x c T2)
        (fun k' j σ h0 h1 hI => by
          obtain ⟨b, jn, rfl, hj, hσ, hb17, hf, hGσ⟩ := hI
          left
          have hjn : jn < x.p.toNat := by omega
          have hmj : m < jn := by omega
          have hwj : w64 ((jn : Int) + 1) = ((jn : Int) + 1) := w64_id (by omega)
          rw [spec_l04Match_l1]
          rw [decide_eq_true (show (jn : Int) < ((rws x c x.p.toNat).length : Int) by omega), if_pos rfl, u64n (j := jn) (by omega), if_pos (by omega), u64n (j := m) (by omega), xor_off hs63 (by omega), bit1 hr63 (by omega)]
          cases hbit : (off s m).testBit jn with
          | false =>
            refine ⟨σ, ?_, b, jn + 1, by omega, by omega, hσ, hb17, ?_, hGσ⟩
            · simp [hwj]
            · rw [mem_no hjn hbit] at hf; exact hf
          | true =>
            rw [mem_yes hjn hbit, List.foldl_cons] at hf
            rw [if_pos rfl, if_pos (by omega), if_pos (by omega), show (m : Int).toNat = m by omega, rbit hp hm hjn]
            simp only [Option.bind_some]
            cases ha : aB x c (m : Int) (jn : Int) with
            | false =>
              refine ⟨σ, ?_, b, jn + 1, by omega, by omega, hσ, hb17, ?_, hGσ⟩
              · simp [hwj]
              · unfold muF at hf ⊢; rw [ha, cond_false] at hf; exact hf
            | true =>
              have hmemj : (jn : Int) ∈ t := by
                rw [ht]
                refine mem_mem.2 ⟨⟨by omega, by omega⟩, ?_⟩
                rw [off_test hb] at hbit
                simp at hbit
                simpa using hbit.1
              have h2 : off (off s m) jn < 2 ^ x.p.toNat := off_lt hr hjn
              have e2 : mem (off (off s m) jn) 0 x.p.toNat = t.filter fun z => !decide (z = (jn : Int)) := by
                rw [off_mem hbit, hoff, ← ht]
              have hl2 : (t.filter fun z => !decide (z = (jn : Int))).length = d - 2 := by
                rw [filter_ne_length (by rw [ht]; exact mem_nodup _ _ _) hmemj]; omega
              obtain ⟨T2, e3, hG2⟩ := ih (d - 2) (by omega) (off (off s m) jn) k σ.2 h2 (by rw [e2]; exact hl2) (by omega) hGσ
              rw [if_pos rfl, if_pos (by omega), xor_off hr63 (by omega), e3, e2]
              simp only [Option.bind_some]
              have hmu : mu (aB x c) (t.filter fun z => !decide (z = (jn : Int))) ≤ 16 := Nat.le_trans (mu_le _ _) (by omega)
              rw [w64_id (by omega), hwj, hσ]
              refine ⟨(((max b (mu (aB x c) (t.filter fun z => !decide (z = (jn : Int))) + 1) : Nat) : Int), T2), ?_, _, jn + 1, by omega, by omega, rfl, by omega, ?_, hG2⟩
              · have e5 : (if (b : Int) < 1 + (mu (aB x c) (t.filter fun z => !decide (z = (jn : Int))) : Int) then 1 + (mu (aB x c) (t.filter fun z => !decide (z = (jn : Int))) : Int) else (b : Int)) = ((max b (mu (aB x c) (t.filter fun z => !decide (z = (jn : Int))) + 1) : Nat) : Int) := by
                  split <;> omega
                rw [e5]
              · unfold muF at hf ⊢; rw [ha, cond_true] at hf; exact hf)
        (fun k' j σ h0 h1 hI => by
          obtain ⟨b, jn, rfl, hj, hσ, hb17, hf, hGσ⟩ := hI
          refine ⟨_, ?_, σ.2, rfl, hGσ⟩
          rw [spec_l04Match_l1]
          rw [decide_eq_false (show ¬ (jn : Int) < ((rws x c x.p.toNat).length : Int) by omega), if_neg (by simp), hσ]
          rw [mem_end (by omega)] at hf
          rw [← hf]; rfl)
        k ((m + 1 : Nat) : Int) ((mu (aB x c) t : Int), T1) (by omega) (by omega)
        ⟨mu (aB x c) t, m + 1, rfl, by omega, rfl, Nat.le_trans (mu_le _ _) (by omega), by rw [hoff2, ← ht, mu_cons], hG1⟩
      obtain ⟨r, hr1, T2, rfl, hG2⟩ := hloop
      simp only at hr1
      rw [hr1, Option.bind_some]
      simp only
      rw [if_pos (by rw [hG2.1]; omega)]
      exact ⟨_, rfl, TM_put hG2 hs (by rw [hl])⟩
    · rw [hv]
      rw [decide_eq_true (by omega), if_pos rfl, if_pos hin, hl]
      exact ⟨T, rfl, hG⟩

theorem smatching_in {s m k : Nat} {t : List Int} {T : List Int} (hs : s < 2 ^ x.p.toNat) (hl : mem s 0 x.p.toNat = (m : Int) :: t) (hk : 200 ≤ k) (hG : TM x c T) (out : List (List Int)) (ho : out.length ≤ 100) :
    ∃ (s' : Nat) (T' : List Int), spec_l04Matching_l2 k x (rws x c x.p.toNat) (s : Int) (m : Int) k (bXor .i64 (s : Int) (bShl .i64 1 (IntKind.u64.wrap (m : Int)))) (w64 ((m : Int) + 1)) out T = some ((s' : Int), out ++ (match t.find? (mlP (aB x c) m t) with | some j => [[(m : Int), j]] | none => []), T') ∧
      s' < 2 ^ x.p.toNat ∧ mem s' 0 x.p.toNat = (match t.find? (mlP (aB x c) m t) with | some j => t.filter fun z => !decide (z = j) | none => t) ∧ (∀ j, j ≤ m → s'.testBit j = false) ∧ TM x c T' := by
  have hn : x.p.toNat ≤ 17 := by omega
  obtain ⟨m', e, hm, hb, hlow, ht⟩ := mem_first hl
  have : m = m' := by omega
  subst this
  have hs63 := p63 hn hs
  obtain ⟨hoff, hoff2⟩ := mem_off_first hm hb hlow
  have hr0 : off s m < 2 ^ x.p.toNat := off_lt hs hm
  have hr63 := p63 hn hr0
  have hrl : (rws x c x.p.toNat).length = x.p.toNat := rws_length ..
  have htl : t.length ≤ 16 := by rw [ht]; have := mem_length s (m + 1) x.p.toNat; omega
  have hlow2 : ∀ j, j ≤ m → (off s m).testBit j = false := fun j hj => by
    rw [off_test hb]
    by_cases e : j = m
    · simp [e]
    · rw [hlow j (by omega)]; rfl
  have hw : w64 ((m : Int) + 1) = ((m + 1 : Nat) : Int) := by rw [w64_id (by omega)]; omega
  rw [u64n (by omega), xor_off hs63 (by omega), hw]
  have hloop := loopI (fun k' j (σ : List Int) => spec_l04Matching_l2 k x (rws x c x.p.toNat) (s : Int) (m : Int) k' ((off s m : Nat) : Int) j out σ) x.p (m + 1 : Nat)
    (fun j σ => ∃ jn : Nat, j = jn ∧ jn ≤ x.p.toNat ∧ (mem (off s m) jn x.p.toNat).find? (mlP (aB x c) m t) = t.find? (mlP (aB x c) m t) ∧ TM x c σ)
    (fun res => ∃ (s' : Nat) (T' : List Int), res = ((s' : Int), out ++ (match t.find? (mlP (aB x c) m t) with | some j => [[(m : Int), j]] | none => []), T') ∧
      s' < 2 ^ x.p.toNat ∧ mem s' 0 x.p.toNat = (match t.find? (mlP (aB x c) m t) with | some j => t.filter fun z => !decide (z = j) | none => t) ∧ (∀ j, j ≤ m → s'.testBit j = false) ∧ TM x c T')
    (fun k' j σ h0 h1 hI => by
      obtain ⟨jn, rfl, hj, hf, hGσ⟩ := hI
      have hjn : jn < x.p.toNat := by omega
      have hmj : m < jn := by omega
      have hwj : w64 ((jn : Int) + 1) = ((jn : Int) + 1) := w64_id (by omega)
      rw [spec_l04Matching_l2]
      rw [decide_eq_true (show (jn : Int) < x.p from h1), if_pos rfl, u64n (j := jn) (by omega), if_pos (by omega), bit1 hr63 (by omega)]
      cases hbit : (off s m).testBit jn with
      | false =>
        left
        refine ⟨σ, ?_, jn + 1, by omega, by omega, ?_, hGσ⟩
        · simp [hwj]
        · rw [mem_no hjn hbit] at hf; exact hf
      | true =>
        rw [mem_yes hjn hbit] at hf
        rw [if_pos rfl, if_pos (by omega), if_pos (by omega), show (m : Int).toNat = m by omega, rbit hp hm hjn]
        cases ha : aB x c (m : Int) (jn : Int) with
        | false =>
          left
          have hP : mlP (aB x c) m t (jn : Int) = false := by simp [mlP, ha]
          rw [List.find?_cons, hP] at hf
          refine ⟨σ, ?_, jn + 1, by omega, by omega, hf, hGσ⟩
          simp [hwj]
        | true =>
          have hmemj : (jn : Int) ∈ t := by
            rw [ht]
            refine mem_mem.2 ⟨⟨by omega, by omega⟩, ?_⟩
            rw [off_test hb] at hbit
            simp at hbit
            simpa using hbit.1
          have h2 : off (off s m) jn < 2 ^ x.p.toNat := off_lt hr0 hjn
          have e2 : mem (off (off s m) jn) 0 x.p.toNat = t.filter fun z => !decide (z = (jn : Int)) := by
            rw [off_mem hbit, hoff, ← ht]
          have hl17 := mem17 hp (off (off s m) jn) 0
          have hl18 := mem17 hp s 0
          obtain ⟨T2, e3, hG2⟩ := match_val hp (mem (off (off s m) jn) 0 x.p.toNat).length (off (off s m) jn) k σ h2 rfl (by omega) hGσ
          obtain ⟨T3, e4, hG3⟩ := match_val hp (mem s 0 x.p.toNat).length s k T2 hs rfl (by omega) hG2
          rw [if_pos rfl, if_pos (by omega), xor_off hr63 (by omega), e3, e2]
          simp only [Option.bind_some]
          rw [e4, hl]
          simp only [Option.bind_some]
          have hmu : mu (aB x c) (t.filter fun z => !decide (z = (jn : Int))) ≤ 16 := Nat.le_trans (mu_le _ _) (Nat.le_trans (List.length_filter_le _ _) htl)
          rw [w64_id (by omega)]
          by_cases hq : mu (aB x c) (t.filter fun z => !decide (z = (jn : Int))) + 1 = mu (aB x c) ((m : Int) :: t)
          · right
            have hP : mlP (aB x c) m t (jn : Int) = true := by simp [mlP, ha, hq]
            rw [List.find?_cons, hP] at hf
            rw [decide_eq_true (show 1 + (mu (aB x c) (t.filter fun z => !decide (z = (jn : Int))) : Int) = (mu (aB x c) ((m : Int) :: t) : Int) by omega), if_pos rfl, if_pos (by simp; omega), if_pos (by omega)]
            refine ⟨_, rfl, off (off s m) jn, T3, ?_, h2, ?_, ?_, hG3⟩
            · rw [← hf]
            · rw [← hf]; exact e2
            · intro j hj
              rw [off_test hbit, hlow2 j hj]; rfl
          · left
            have hP : mlP (aB x c) m t (jn : Int) = false := by simp [mlP, hq]
            rw [List.find?_cons, hP] at hf
            rw [decide_eq_false (show ¬ 1 + (mu (aB x c) (t.filter fun z => !decide (z = (jn : Int))) : Int) = (mu (aB x c) ((m : Int) :: t) : Int) by omega)]
            refine ⟨T3, ?_, jn + 1, by omega, by omega, hf, hG3⟩
            simp [hwj])
    (fun k' j σ h0 h1 hI => by
      obtain ⟨jn, rfl, hj, hf, hGσ⟩ := hI
      rw [spec_l04Matching_l2]
      rw [decide_eq_false (show ¬ (jn : Int) < x.p by omega), if_neg (by simp)]
      rw [mem_end (by omega)] at hf
      refine ⟨_, rfl, off s m, σ, ?_, hr0, ?_, hlow2, hGσ⟩
      · rw [← hf]; simp
      · rw [← hf, hoff, ← ht]; rfl)
    k ((m + 1 : Nat) : Int) T (by omega) (by omega) ⟨m + 1, rfl, by omega, by rw [hoff2, ← ht], hG⟩
  obtain ⟨res, hr1, s', T', rfl, h⟩ := hloop
  exact ⟨s', T', hr1, h⟩

omit hp in
theorem fill_neg : ∀ (j : Nat) (T : List Int) (i k : Nat), T.length = i + j → T.length ≤ 1000000 → (∀ t, t < i → T.getD t 0 = -1) → j < k → ∃ T', spec_l04Matching_l0 k (i : Int) T = some T' ∧ T'.length = T.length ∧ ∀ t, t < T.length → T'.getD t 0 = -1 := by
  intro j
  induction j with
  | zero =>
    intro T i k hl h6 h hk
    obtain ⟨k, rfl⟩ : ∃ k', k = k' + 1 := ⟨k - 1, by omega⟩
    rw [spec_l04Matching_l0, decide_eq_false (show ¬ (i : Int) < (T.length : Int) by omega), if_neg (by simp)]
    exact ⟨T, rfl, rfl, fun t ht => h t (by omega)⟩
  | succ j ih =>
    intro T i k hl h6 h hk
    obtain ⟨k, rfl⟩ : ∃ k', k = k' + 1 := ⟨k - 1, by omega⟩
    rw [spec_l04Matching_l0, decide_eq_true (show (i : Int) < (T.length : Int) by omega), if_pos rfl, if_pos (by omega), w64_id (by omega), show (i : Int).toNat = i by omega]
    obtain ⟨T', h1, h2, h3⟩ := ih (T.set i (-1)) (i + 1) k (by rw [List.length_set]; omega) (by rw [List.length_set]; exact h6) (fun t ht => by
      by_cases e : i = t
      · subst e
        rw [List.getD_eq_getElem?_getD, List.getElem?_set_self (by omega)]; rfl
      · rw [List.getD_eq_getElem?_getD, List.getElem?_set_ne e, ← List.getD_eq_getElem?_getD]
        exact h t (by omega)) (by omega)
    rw [List.length_set] at h2 h3
    exact ⟨T', h1, h2, h3⟩

theorem smatching_val {k : Nat} (hk : 200000 ≤ k) (c : Int) : spec_l04Matching k x c = some (ml (aB x c) (pts x)) := by
  have hn : x.p.toNat ≤ 17 := by omega
  unfold spec_l04Matching
  rw [rows_val (by omega) x hp c, Option.bind_some]
  have hx : x.p = ((x.p.toNat : Nat) : Int) := by omega
  obtain ⟨w, hw, hwm, hwe⟩ := mem_whole (x := x)
  have h17 : 2 ^ x.p.toNat ≤ 131072 := Nat.pow_le_pow_right (n := 2) (by decide) hn
  have hup : IntKind.u64.wrap x.p = ((x.p.toNat : Nat) : Int) := by
    have := u64n (j := x.p.toNat) (by omega)
    rw [← hx] at this ⊢
    exact this
  rw [hup, if_pos (by omega), if_pos (by omega), bShl_one (by omega), if_pos (by omega)]
  obtain ⟨T, hT1, hT2, hT3⟩ := fill_neg (2 ^ x.p.toNat) (List.replicate ((2 ^ x.p.toNat : Nat) : Int).toNat (0 : Int)) 0 k (by rw [List.length_replicate, Int.toNat_natCast, Nat.zero_add]) (by rw [List.length_replicate, Int.toNat_natCast]; omega) (fun t ht => by omega) (by omega)
  have hT1' : spec_l04Matching_l0 k 0 (List.replicate ((2 ^ x.p.toNat : Nat) : Int).toNat (0 : Int)) = some T := hT1
  rw [hT1', Option.bind_some]
  have hTM : TM x c T := by
    have hl : (List.replicate ((2 ^ x.p.toNat : Nat) : Int).toNat (0 : Int)).length = 2 ^ x.p.toNat := by rw [List.length_replicate, Int.toNat_natCast]
    rw [hl] at hT2 hT3
    exact ⟨hT2, fun t ht => .inl (hT3 t ht)⟩
  have e0 : w64 (((2 ^ x.p.toNat : Nat) : Int) - 1) = (w : Int) := by
    have h1 : 0 < 2 ^ x.p.toNat := Nat.pow_pos (by decide)
    rw [w64_id (by omega)]; omega
  rw [e0]
  have hloop := loopI (fun k' i (σ : Int × List (List Int) × List Int) => spec_l04Matching_l1 k x (rws x c x.p.toNat) k' σ.1 i σ.2.1 σ.2.2) x.p 0
    (fun i σ => ∃ (s im : Nat), i = im ∧ im ≤ x.p.toNat ∧ σ.1 = (s : Int) ∧ s < 2 ^ x.p.toNat ∧ (∀ j, j < im → s.testBit j = false) ∧ σ.2.1 ++ ml (aB x c) (mem s 0 x.p.toNat) = ml (aB x c) (pts x) ∧ TM x c σ.2.2)
    (fun res => res = ml (aB x c) (pts x))
    (fun k' i σ h0 h1 hI => by
      obtain ⟨s, im, rfl, him, hσ, hs, hlow, hout, hG⟩ := hI
      have hi : im < x.p.toNat := by omega
      have hwi : w64 ((im : Int) + 1) = ((im : Int) + 1) := w64_id (by omega)
      have hs63 := p63 hn hs
      left
      rw [spec_l04Matching_l1]
      rw [decide_eq_true (show (im : Int) < x.p from h1), if_pos rfl, u64n (by omega), if_pos (by omega), hσ, bShl_one (by omega), bAnd_nat hs63 (p2_63 (by omega))]
      have hbb : decide (((s &&& 2 ^ im : Nat) : Int) = 0) = !s.testBit im := by
        rw [and_bit]
        cases s.testBit im with
        | false => rfl
        | true =>
          have : 0 < 2 ^ im := Nat.pow_pos (by decide)
          rw [cond_true, decide_eq_false (by omega)]; rfl
      rw [hbb]
      cases hb : s.testBit im with
      | false =>
        refine ⟨((s : Int), σ.2.1, σ.2.2), ?_, s, im + 1, by omega, by omega, rfl, hs, ?_, hout, hG⟩
        · simp [hwi]
        · intro j hj
          by_cases e : j = im
          · rw [e]; exact hb
          · exact hlow j (by omega)
      | true =>
        have hl : mem s 0 x.p.toNat = (im : Int) :: mem s (im + 1) x.p.toNat := by rw [mem_low hlow, mem_yes hi hb]
        have hol : σ.2.1.length ≤ 100 := by
          have := congrArg List.length hout
          have h3 := ml_len_le (aB x c) (pts x)
          have h4 : (pts x).length = x.p.toNat := by simp [pts, ir_length]
          simp at this; omega
        obtain ⟨s', T', e2, hs', hm', hlow', hG'⟩ := smatching_in hp (c := c) hs hl (k := k) (by omega) hG σ.2.1 hol
        rw [u64n (by omega), bShl_one (by omega)] at e2
        rw [Bool.not_true, if_neg (by simp), e2]
        simp only [Option.bind_some]
        refine ⟨((s' : Int), _, T'), by rw [hwi], s', im + 1, by omega, by omega, rfl, hs', fun j hj => hlow' j (by omega), ?_, hG'⟩
        rw [← hout, hl, hm']
        cases hf : (mem s (im + 1) x.p.toNat).find? (mlP (aB x c) im (mem s (im + 1) x.p.toNat)) with
        | some j => rw [ml_some hf]; simp
        | none => rw [ml_none hf]; simp)
    (fun k' i σ h0 h1 hI => by
      obtain ⟨s, im, rfl, him, hσ, hs, hlow, hout, hG⟩ := hI
      rw [spec_l04Matching_l1]
      rw [decide_eq_false (show ¬ (im : Int) < x.p by omega), if_neg (by simp)]
      refine ⟨_, rfl, ?_⟩
      have : mem s 0 x.p.toNat = [] := by rw [mem_low hlow, mem_end (by omega)]
      rw [this, ml_nil, List.append_nil] at hout
      exact hout)
    k 0 ((w : Int), [], T) (by omega) (by omega) ⟨w, 0, rfl, by omega, rfl, hw, fun j hj => by omega, by rw [hwm]; rfl, hTM⟩
  obtain ⟨res, h1, rfl⟩ := hloop
  simp only at h1
  rw [h1]; rfl
end
end Go.Proofs.Ytghhnpdhehjlaaa
