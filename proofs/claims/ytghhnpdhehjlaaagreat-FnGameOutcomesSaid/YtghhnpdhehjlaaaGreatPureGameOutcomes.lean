/- The plain law of FnGameOutcomes: best moves keep the outcome, games that are played out end with it, and outcomes and least positions of renumbered positions are equal, for all dice. No conditions beyond those that each lemma states. -/
import Derived.Test.YtghhnpdhehjlaaaGreatPureCh40
set_option linter.unusedVariables false
set_option linter.unusedSimpArgs false
namespace Go.Proofs.YtghhnpdhehjlaaaGreat
open Go Go.RowKit Ab

/-! ### Draws -/
theorem drawWith_ok {k : Nat} (hk : 5000 ≤ k) (c : List UInt8) (hc : c.length ≤ 4096) : ∃ n l, spec_l09With k c = some (n, l) ∧ l.length ≤ 11 := by
  unfold spec_l09With
  obtain ⟨s, e1, k1⟩ := from_ok hk c hc
  obtain ⟨n, l, s2, e2, k2, hs, _⟩ := draw9_ok hk s k1
  obtain ⟨n', l', s3, e3, _, hl⟩ := bad9_ok hk s2 n l k2 (sh10 hs)
  refine ⟨n', l', ?_, hl⟩
  rw [e1, Option.bind_some, e2, Option.bind_some, e3]; rfl
theorem drawRen_ok {k : Nat} (hk : 5000 ≤ k) (c : List UInt8) (hc : c.length ≤ 4096) : ∃ n l p, spec_DrawRenumberPosition k c = some (n, l, p) ∧ l.length ≤ 11 ∧ p.length ≤ 6 := by
  unfold spec_DrawRenumberPosition
  obtain ⟨s, e1, k1⟩ := from_ok hk c hc
  obtain ⟨n, l, s2, e2, k2, hs, _⟩ := draw9_ok hk s k1
  have hn := hs.1
  obtain ⟨q, s3, e3, k3, q1, q2, q3⟩ := order_ok hk s2 n.toNat k2 (by omega)
  rw [Int.toNat_of_nonneg (by omega)] at e3
  obtain ⟨v, s4, e4, k4, _, _⟩ := next_ok s3 16 k3
  obtain ⟨s5, p, e5, k5, hp⟩ : ∃ s5 p, ((spec_l01Next s3 16).bind fun r4 => (if decide (r4.1 = 0) then (if q.length + ([0]).length ≤ 1099511627776 then some (r4.2, (q ++ ([0]))) else none) else (if decide (r4.1 = 1) then (if 0 ≤ w64 ((q.length : Int) - 1) ∧ w64 ((q.length : Int) - 1) < (q.length : Int) then (spec_l01Pick r4.2 ([(-1), n, (q.getD (w64 ((q.length : Int) - 1)).toNat 0)])).bind fun r9 => (if 0 ≤ (0 : Int) ∧ (0 : Int) < (q.length : Int) then some (r9.2, q.set (0 : Int).toNat r9.1) else none) else none) else some (r4.2, q))) : Option (Src × List Int)) = some (s5, p) ∧ okS s5 ∧ p.length ≤ 6 := by
    rw [e4, Option.bind_some]
    dsimp only
    by_cases c0 : v = 0
    · exact ⟨s4, q ++ [0], by rw [if_pos (decide_eq_true c0), if_pos (by simp only [List.length_singleton]; omega)], k4, by simp only [List.length_append, List.length_singleton]; omega⟩
    rw [if_neg (by simpa using c0)]
    by_cases c1 : v = 1
    · obtain ⟨m, s5, e5, k5, _⟩ := pick_ok s4 [(-1), n, (q.getD (w64 ((q.length : Int) - 1)).toNat 0)] k4 (by simp)
      refine ⟨s5, q.set (0 : Int).toNat m, ?_, k5, by rw [List.length_set]; omega⟩
      rw [if_pos (decide_eq_true c1), if_pos (by rw [w64_id (by omega)]; omega), e5, Option.bind_some, if_pos ⟨by omega, by omega⟩]
    · exact ⟨s4, q, by rw [if_neg (by simpa using c1)], k4, by omega⟩
  obtain ⟨n', l', s6, e6, _, hl⟩ := bad9_ok hk s5 n l k5 (sh10 hs)
  refine ⟨n', l', p, ?_, hl, hp⟩
  rw [e1, Option.bind_some, e2, Option.bind_some]
  dsimp only
  rw [e3, Option.bind_some]
  dsimp only
  rw [e5, Option.bind_some]
  dsimp only
  rw [e6]; rfl

section
open Classical
/-! ### Moves made, results, positions renumbered -/
theorem makeI {n : Int} {l : List Int} (hs : sh n l) (hp : isPos n l) (hr : ¬ 0 ≤ res n l) {a : Nat} (ha : a < l.length) (hf : fre l a = true) (k : Nat) (hk : 500 ≤ k) : impl_MakeMove k n l a = some (l.set a (mov l), 0) := by
  have h10 := sh10 hs
  have hc := cod_pos hs hp
  have hlt : l.getD a 0 < 0 := of_decide_eq_true hf
  unfold impl_MakeMove impl_MakeMove_c1 impl_size
  rw [implCode_val n l _ k (by omega) (by omega), Option.bind_some, in_eq, w64_id (by omega), decide_eq_true (show 0 ≤ (a : Int) ∧ (a : Int) ≤ (l.length : Int) - 1 from ⟨by omega, by omega⟩), hc]
  simp only [if_true, decide_true]
  rw [(result_val hs k (by omega)).1, Option.bind_some, if_neg (by simpa using hr), if_pos ⟨by omega, by omega⟩, Int.toNat_natCast, Option.bind_some, decide_eq_false (show ¬ 0 ≤ l.getD a 0 by omega), if_neg (by simp), Option.bind_some, if_neg (by simp), (moved_val n l a ha h10 k (by omega)).1, Option.bind_some]
theorem resultI {n : Int} {l : List Int} (hs : sh n l) (hp : isPos n l) (k : Nat) (hk : 500 ≤ k) : impl_ResultOf k n l = some (res n l, 0) := by
  have h10 := sh10 hs
  unfold impl_ResultOf impl_always
  rw [implCode_val n l true k (by omega) (by omega), Option.bind_some, if_pos rfl, cod_pos hs hp, if_neg (by simp), (result_val hs k (by omega)).1, Option.bind_some]
theorem renI {n : Int} {l p : List Int} (hl : l.length ≤ 100) (hp : p.length ≤ 100) (k : Nat) (hk : 500 ≤ k) {o : Option (List Int)} (h : impl_RenumberPosition k n l p = some (o, 0)) : sh n l ∧ isPos n l ∧ isOrd p n ∧ o = some (rn n.toNat l p) := by
  unfold impl_RenumberPosition impl_RenumberPosition_c1 at h
  rw [implOrder_eq k p n (by omega) (by omega), Option.bind_some, implCode_val n l _ k (by omega) hl, Option.bind_some] at h
  by_cases ho : isOrd p n
  · rw [decide_eq_true ho, if_pos rfl] at h
    by_cases hc : cod n l = 0
    · obtain ⟨hs, hps⟩ := cod_zero hc
      rw [if_neg (by simp [hc]), (rn_val hs ho k (by omega)).1, Option.bind_some] at h
      refine ⟨hs, hps, ho, ?_⟩
      injection h with h
      injection h with h1 h2
      exact h1.symm
    · rw [if_pos (by simp [hc])] at h
      injection h with h
      injection h with h1 h2
      exact absurd h2 hc
  · rw [decide_eq_false ho] at h
    simp at h

/-! ### The loops of the law -/
theorem play_loop (n : Int) (l0 P : List Int) (hP : P.length ≤ 1000) (k : Nat) (hk : 500 ≤ k) : ∀ (d k' : Nat) (x : List Int) (i : Nat), sh n x → isPos n x → x.count (-1) = d → P.drop i = PO n d x → i ≤ P.length → P.length - i < k' →
    ∃ y, laws_FnGameOutcomes_l0 k (n, l0) (some P, 0) k' x i = some (.inl y) ∧ sh n y ∧ isPos n y ∧ res n y = oc n x := by
  intro d
  induction d with
  | zero =>
    intro k' x i hs hp hd hdr hi hk'
    obtain ⟨k', rfl⟩ : ∃ q, k' = q + 1 := ⟨k' - 1, by omega⟩
    have hr : 0 ≤ res n x := Classical.byContradiction fun h => by
      obtain ⟨d, h2⟩ := res_open hp h
      omega
    have : P.length ≤ i := List.drop_eq_nil_iff.1 hdr
    refine ⟨x, ?_, hs, hp, (oc_over hr).symm⟩
    rw [laws_FnGameOutcomes_l0, if_neg (by simp only [Option.getD_some, decide_eq_true_eq]; omega)]
  | succ d ih =>
    intro k' x i hs hp hd hdr hi hk'
    obtain ⟨k', rfl⟩ : ∃ q, k' = q + 1 := ⟨k' - 1, by omega⟩
    by_cases hr : 0 ≤ res n x
    · rw [PO_over hr] at hdr
      have : P.length ≤ i := List.drop_eq_nil_iff.1 hdr
      refine ⟨x, ?_, hs, hp, (oc_over hr).symm⟩
      rw [laws_FnGameOutcomes_l0, if_neg (by simp only [Option.getD_some, decide_eq_true_eq]; omega)]
    obtain ⟨a, ha, hff, hoc, ea⟩ := bst_get (bst_some hs hp hr)
    rw [PO, if_neg hr, ea, Int.toNat_natCast] at hdr
    have hlt : i < P.length := Classical.byContradiction fun h => by
      rw [List.drop_of_length_le (by omega)] at hdr
      cases hdr
    rw [List.drop_eq_getElem_cons hlt] at hdr
    injection hdr with h1 h2
    have hcm := count_move hs hp ha hff
    obtain ⟨p1, p2, _⟩ := move_pos hs hp (by omega) ha (of_decide_eq_true hff)
    obtain ⟨y, e, y1, y2, y3⟩ := ih k' (x.set a (mov x)) (i + 1) p1 p2 (by omega) h2 (by omega) (by omega)
    refine ⟨y, ?_, y1, y2, by rw [y3, hoc]⟩
    rw [laws_FnGameOutcomes_l0]
    simp only [Option.getD_some]
    rw [if_pos (decide_eq_true (by omega)), if_pos ⟨by omega, by omega⟩, Int.toNat_natCast, gD hlt, h1, makeI hs hp hr ha hff k hk, Option.bind_some]
    dsimp only
    rw [if_neg (by simp), w64_id (by omega), show (i : Int) + 1 = ((i + 1 : Nat) : Int) by omega]
    exact e
theorem best_loop {n : Int} {l : List Int} (hs : sh n l) (hp : isPos n l) (k : Nat) (hk : 60000 ≤ k) (E : Int) : laws_FnGameOutcomes_l1 k (n, l) (oc n l, 0) (bestV n l, E) k 0 = some (.inl ()) := by
  have h10 := sh10 hs
  have hc := cod_pos hs hp
  obtain ⟨B, hB⟩ : ∃ B, (bestV n l).getD [] = B := ⟨_, rfl⟩
  have hBl : B.length ≤ 10 := by
    rw [← hB]; unfold bestV
    split
    · exact Nat.le_trans (fl_length _ _) h10
    · exact Nat.zero_le _
  have hget : ∀ j, j < B.length → ¬ 0 ≤ res n l ∧ ∃ a : Nat, a < l.length ∧ fre l a = true ∧ oc n (l.set a (mov l)) = oc n l ∧ B.getD j 0 = (a : Int) := fun j hj => by
    rw [← hB] at hj ⊢
    unfold bestV at hj ⊢
    by_cases h : cod n l = 0 ∧ ¬ 0 ≤ res n l
    · rw [if_pos h] at hj ⊢
      exact ⟨h.2, bst_get hj⟩
    · rw [if_neg h] at hj
      exact absurd hj (Nat.not_lt_zero j)
  have := loopI (f := fun k' i (_ : Unit) => laws_FnGameOutcomes_l1 k (n, l) (oc n l, 0) (bestV n l, E) k' i) 3 0 (fun i _ => i ≤ 3) (fun r => r = .inl ()) ?_ ?_ k 0 () (by omega) (by omega) (by omega)
  · obtain ⟨r, e, rfl⟩ := this
    exact e
  · rintro k' i ⟨⟩ h0 h1 q1
    show (∃ s', laws_FnGameOutcomes_l1 k (n, l) (oc n l, 0) (bestV n l, E) (k' + 1) i = _ ∧ _) ∨ (∃ r, laws_FnGameOutcomes_l1 k (n, l) (oc n l, 0) (bestV n l, E) (k' + 1) i = _ ∧ _)
    rw [laws_FnGameOutcomes_l1]
    unfold letO
    dsimp only
    rw [hB]
    by_cases hi : i < (B.length : Int)
    · left
      refine ⟨(), ?_, by omega⟩
      obtain ⟨hr, a, ha, hff, hoc, ea⟩ := hget i.toNat (by omega)
      have p := move_pos hs hp (by omega) ha (of_decide_eq_true hff)
      have hl2 : (l.set a (mov l)).length ≤ 100 := by rw [List.length_set]; omega
      have hov : outV n (l.set a (mov l)) = oc n l := by unfold outV; rw [if_pos (cod_pos p.1 p.2.1), hoc]
      rw [decide_eq_true hi, decide_eq_true h1]
      simp only [if_true, Option.bind_some]
      rw [if_pos ⟨h0, hi⟩, ea, makeI hs hp hr ha hff k (by omega), Option.bind_some]
      dsimp only
      rw [outcomeI n _ k hk hl2, Option.bind_some]
      dsimp only
      rw [cod_pos p.1 p.2.1, hov, w64_succ h0 h1 (by omega)]
      simp
    · right
      refine ⟨.inl (), ?_, rfl⟩
      rw [decide_eq_false hi]
      simp
  · rintro k' i ⟨⟩ h0 h1 q1
    refine ⟨.inl (), ?_, rfl⟩
    show laws_FnGameOutcomes_l1 k (n, l) (oc n l, 0) (bestV n l, E) (k' + 1) i = _
    rw [laws_FnGameOutcomes_l1]
    unfold letO
    rw [decide_eq_false (show ¬ i < 3 by omega)]
    simp

theorem least_good {n : Int} {l : List Int} (hs : sh n l) (hp : isPos n l) : sh n (least n.toNat l) ∧ isPos n (least n.toNat l) ∧ oc n (least n.toNat l) = oc n l := by
  obtain ⟨h1, h2, _⟩ := least_iso hs
  have hs' := h1.sh hs h2
  exact ⟨hs', isPos_iso hs hs' h1 hp, (oc_iso n _ l _ hs hs' hp h1 rfl).symm⟩

/-- The part of the law on a position that was drawn. -/
theorem mid_val {n : Int} {l : List Int} (hs : sh n l) (hp : isPos n l) (k : Nat) (hk : 60000 ≤ k) :
    ∃ y, laws_FnGameOutcomes_l0 k (n, l) (playV n l, 0) k l 0 = some (.inl y) ∧ impl_ResultOf k n y = some (oc n l, 0) ∧ (playV n l).getD [] = po n l ∧ (0 < (po n l).length → (bestV n l).getD [] = bst n l ∧ 0 < (bst n l).length ∧ (po n l).getD 0 0 = (bst n l).getD 0 0) := by
  have hc := cod_pos hs hp
  have h10 := free10 hs
  have hpl : playV n l = some (po n l) := by unfold playV; rw [if_pos hc]
  have hlen : (po n l).length ≤ l.count (-1) := PO_length n _ l
  obtain ⟨y, e, y1, y2, y3⟩ := play_loop n l (po n l) (by omega) k (by omega) _ k l 0 hs hp rfl rfl (by omega) (by omega)
  rw [hpl]
  refine ⟨y, e, by rw [resultI y1 y2 k (by omega), y3], rfl, fun h => ?_⟩
  have hr : ¬ 0 ≤ res n l := fun hr => by
    unfold po at h
    rw [PO_over hr] at h
    exact absurd h (Nat.lt_irrefl 0)
  refine ⟨by unfold bestV; rw [if_pos ⟨hc, hr⟩]; rfl, bst_some hs hp hr, ?_⟩
  obtain ⟨d, hd⟩ := res_open hp hr
  unfold po
  rw [hd, PO, if_neg hr]
  rfl

theorem gameOutcomes_pure (c : List UInt8) : ∃ k, laws_FnGameOutcomes k c = some true := by
  obtain ⟨k, hk⟩ : ∃ k : Nat, k = 100000 := ⟨_, rfl⟩
  refine ⟨k, ?_⟩
  unfold laws_FnGameOutcomes laws_big
  by_cases hb : (4096 : Int) < (c.length : Int)
  · rw [if_pos (decide_eq_true hb)]
  rw [if_neg (by simpa using hb)]
  have hc : c.length ≤ 4096 := by omega
  obtain ⟨n, l, e0, hl⟩ := drawWith_ok (k := k) (by omega) c hc
  unfold spec_DrawOutcomeOf
  rw [e0, Option.bind_some, Option.bind_some]
  dsimp only
  have hplen : ((playV n l).getD []).length ≤ 100 := by
    unfold playV
    split
    · rename_i h
      exact Nat.le_trans (Nat.le_trans (PO_length n _ l) List.count_le_length) (by omega)
    · exact Nat.zero_le _
  have hblen : ((bestV n l).getD []).length ≤ 100 := by
    unfold bestV
    split
    · exact Nat.le_trans (fl_length _ _) (by omega)
    · exact Nat.zero_le _
  rw [outcomeI n l k (by omega) (by omega), Option.bind_some, outcomeS n l k (by omega) (by omega), Option.bind_some, playI n l k (by omega) (by omega), Option.bind_some, playS n l k (by omega) (by omega), Option.bind_some, bestI n l k (by omega) (by omega), Option.bind_some, bestS n l k (by omega) (by omega), Option.bind_some]
  dsimp only
  rw [like_refl k ((playV n l).getD []) (by omega) (by omega), like_refl k ((bestV n l).getD []) (by omega) (by omega)]
  simp only [decide_true, Bool.not_true, Bool.false_eq_true, if_false, Option.bind_some]
  generalize hM : (if decide (cod n l = 0) = true then _ else _ : Option (Sum Unit Bool)) = M
  have hMM : M = some (.inl ()) := by
    rw [← hM]
    by_cases h0 : cod n l = 0
    · obtain ⟨hs, hp⟩ := cod_zero h0
      obtain ⟨y, m1, m2, m3, m4⟩ := mid_val hs hp k (by omega)
      have hov : outV n l = oc n l := by unfold outV; rw [if_pos h0]
      have hlv : leastV n l = least n.toNat l := by unfold leastV; rw [if_pos h0]
      obtain ⟨g1, g2, g3⟩ := least_good hs hp
      have hgl : (least n.toNat l).length ≤ 100 := by have := sh10 g1; omega
      have hov2 : outV n (least n.toNat l) = oc n l := by unfold outV; rw [if_pos (cod_pos g1 g2), g3]
      rw [if_pos (decide_eq_true h0), if_pos (by simp only [List.length_nil]; omega), List.nil_append, h0, m1, Option.bind_some]
      dsimp only
      rw [m2, Option.bind_some, m3, hov, best_loop hs hp k (by omega), leastI n l k (by omega) (by omega), Option.bind_some, hlv, h0]
      simp only [Option.bind_some]
      rw [outcomeI n _ k (by omega) hgl, cod_pos g1 g2, hov2]
      unfold letO
      simp only [decide_true, Bool.not_true, Bool.false_eq_true, if_false, Option.bind_some]
      by_cases hz : 0 < (po n l).length
      · obtain ⟨f1, f2, f3⟩ := m4 hz
        rw [f1, show (0 : Int).toNat = 0 from rfl, f3]
        rw [if_pos (decide_eq_true (show (0 : Int) < ((po n l).length : Int) by omega)), if_neg (show ¬ decide (((bst n l).length : Int) < 1) = true by rw [decide_eq_true_eq]; omega), if_pos ⟨by omega, by omega⟩, if_pos ⟨by omega, by omega⟩]
        simp
      · rw [if_neg (show ¬ decide ((0 : Int) < ((po n l).length : Int)) = true by rw [decide_eq_true_eq]; omega)]
        simp
    · rw [if_neg (by simpa using h0)]
  rw [hMM]
  simp only [Option.bind_some]
  clear hM hMM hplen hblen e0 hl
  obtain ⟨a, b, p, e1, hbl, hpl⟩ := drawRen_ok (k := k) (by omega) c hc
  obtain ⟨o, e, r1, r2, r3⟩ := renumber_same a b p k (by omega) (by omega) (by omega)
  rw [e1, Option.bind_some]
  dsimp only
  rw [r2, Option.bind_some, r1, Option.bind_some]
  dsimp only
  rw [like_refl k (o.getD []) (by omega) (by omega)]
  simp only [decide_true, Bool.not_true, Bool.false_eq_true, if_false, Option.bind_some]
  obtain ⟨c2, d2, e3, hdl⟩ := drawWith_ok (k := k) (by omega) c hc
  unfold spec_DrawLeastPosition
  have hend : laws_likeInts k (leastV c2 d2) (leastV c2 d2) = some true := by
    have : (leastV c2 d2).length ≤ 100 := by
      unfold leastV
      split
      · rename_i h
        have := (least_iso (cod_zero h).1).2.1
        omega
      · exact Nat.zero_le _
    exact like_refl k _ (by omega) (by omega)
  rw [e3]
  simp only [Option.bind_some]
  rw [leastI c2 d2 k (by omega) (by omega), leastS c2 d2 k (by omega) (by omega)]
  simp only [Option.bind_some, decide_true, if_true, hend]
  by_cases he : e = 0
  · subst he
    obtain ⟨hs, hp, ho, rfl⟩ := renI (by omega) (by omega) k (by omega) r2
    have hn := hs.1
    obtain ⟨_, _, v1, v2⟩ := rn_val hs ho k (by omega)
    have hiso : Iso a.toNat b (rn a.toNat b p) := Ren.iso (by rw [Int.toNat_of_nonneg (by omega)]; exact ho) v1
    have hs' := hiso.sh hs v2
    have hp' := isPos_iso hs hs' hiso hp
    have hle := least_eq hs hs' hiso
    have hll := (least_iso hs).2.1
    have l1 : leastV a b = least a.toNat b := by unfold leastV; rw [if_pos (cod_pos hs hp)]
    have l2 : leastV a (rn a.toNat b p) = least a.toNat b := by unfold leastV; rw [if_pos (cod_pos hs' hp'), hle]
    rw [Option.getD_some, leastI a b k (by omega) (by omega), leastI a _ k (by omega) (by omega), cod_pos hs hp, cod_pos hs' hp', l1, l2]
    simp only [Option.bind_some, decide_true, Bool.not_true, Bool.false_eq_true, if_false, if_true]
    rw [like_refl k (least a.toNat b) (by omega) (by omega)]
    simp
  · simp [he]
end
end Go.Proofs.YtghhnpdhehjlaaaGreat
