/- Plain laws of chapter 3: turned points, balanced colourings. No conditions beyond those that each lemma states. -/
import Derived.Test.YtkknnbmmcmhngaaGreatPureCirc
set_option linter.unusedVariables false
set_option linter.unusedSimpArgs false
namespace Go.Proofs.YtkknnbmmcmhngaaGreat
open Go Go.RowKit Ab

theorem is_ext {x y : Col} (hx : x.is) (hy : y.is) (hp : x.p = y.p) (hk : x.k = y.k) (h : ∀ a b : Nat, a < b → (b : Int) < x.p → x.cc a b = y.cc a b) : x = y := by
  have h1 := hx.1
  rw [is_mk hx, is_mk hy, ← hp, ← hk]
  exact mkC_congr (by omega) _ fun a b hab hb => h a b hab (by omega)
theorem ren_eq {x y : Col} (hx : x.is) {P : List Int} (ho : isOrd P x.p) (hy : y.is) (hp : y.p = x.p) (hk : y.k = x.k) (h : ∀ i j : Nat, i < j → (j : Int) < x.p → y.cc (P.getD i 0) (P.getD j 0) = x.cc i j) : ren x P = y := by
  have h1 := hx.1
  have q := ren_RI h1 ho
  have hn := (toN h1).symm
  have ho' := ho
  rw [hn] at ho'
  refine is_ext (ren_is hx ho) hy (by rw [q.p, hp]) (by rw [q.k, hk]) fun u v huv hv => ?_
  rw [q.p] at hv
  obtain ⟨i, hi, ei⟩ := ord_surj ho' (show u < x.p.toNat by omega)
  obtain ⟨j, hj, ej⟩ := ord_surj ho' (show v < x.p.toNat by omega)
  have hij : i ≠ j := fun e => by subst e; rw [ei] at ej; omega
  rw [← ei, ← ej, ren_cc hx ho (by omega) (by omega) hij]
  rcases Nat.lt_or_ge i j with r | r
  · exact (h i j r (by omega)).symm
  · rw [cc_comm x, cc_comm y]
    exact (h j i (by omega) (by omega)).symm

/-! ### Points turned -/
def turnP (p t : Nat) : List Int := mapL p (fun i => ((t * i % p : Nat) : Int))
theorem turnP_len (p t : Nat) : (turnP p t).length = p := mapL_length _ _
theorem turnP_get {p t i : Nat} (hi : i < p) : (turnP p t).getD i 0 = ((t * i % p : Nat) : Int) := mapL_get _ _ _ hi
theorem turn_val {x : Col} (hp : 1 ≤ x.p ∧ x.p ≤ 17) {t : Nat} (ht : t ≤ 17) {i : Nat} (hi : i ≤ 17) : (w64 ((t : Int) * (i : Int))).tmod x.p = ((t * i % x.p.toNat : Nat) : Int) := by
  have hb : t * i ≤ 17 * 17 := Nat.mul_le_mul (by omega) (by omega)
  have e1 : (t : Int) * (i : Int) = ((t * i : Nat) : Int) := by rw [Int.natCast_mul]
  rw [e1, w64_id (by omega), Int.tmod_eq_emod_of_nonneg (by omega)]
  conv => lhs; rw [← toN hp]
  rfl
theorem implTurn_loop {k : Nat} (hk : 20 ≤ k) {x : Col} (hp : 1 ≤ x.p ∧ x.p ≤ 17) {t : Nat} (ht : t ≤ 17) : impl_TurnColouring_l0 x t k 0 [] = some (turnP x.p.toNat t) := by
  refine collect (fun K i s => impl_TurnColouring_l0 x t K i s) x.p.toNat (fun i => ((t * i % x.p.toNat : Nat) : Int)) (fun k' i s hi hs => ?_) (fun k' s => ?_) k (by omega)
  · show impl_TurnColouring_l0 x t (k' + 1) i s = impl_TurnColouring_l0 x t k' ((i + 1 : Nat) : Int) _
    have hl : ∀ z : Int, s.length + ([z]).length ≤ 1099511627776 := fun z => by simp; omega
    have c1 : (i : Int) < x.p := by omega
    rw [impl_TurnColouring_l0, turn_val hp ht (by omega), w64_id (n := (i : Int) + 1) (by omega), decide_eq_true c1, if_pos rfl, if_pos (by omega), if_pos (hl _)]
    rfl
  · show impl_TurnColouring_l0 x t (k' + 1) (x.p.toNat : Nat) s = _
    rw [impl_TurnColouring_l0, decide_eq_false (by omega)]; rfl
theorem specTurn_loop {k : Nat} (hk : 20 ≤ k) {x : Col} (hp : 1 ≤ x.p ∧ x.p ≤ 17) {t : Nat} (ht : t ≤ 17) : spec_TurnColouring_l0 x t k 0 [] = some (turnP x.p.toNat t) := by
  refine collect (fun K i s => spec_TurnColouring_l0 x t K i s) x.p.toNat (fun i => ((t * i % x.p.toNat : Nat) : Int)) (fun k' i s hi hs => ?_) (fun k' s => ?_) k (by omega)
  · show spec_TurnColouring_l0 x t (k' + 1) i s = spec_TurnColouring_l0 x t k' ((i + 1 : Nat) : Int) _
    have hl : ∀ z : Int, s.length + ([z]).length ≤ 1099511627776 := fun z => by simp; omega
    have c1 : (i : Int) < x.p := by omega
    rw [spec_TurnColouring_l0, turn_val hp ht (by omega), w64_id (n := (i : Int) + 1) (by omega), decide_eq_true c1, if_pos rfl, if_pos (by omega), if_pos (hl _)]
    rfl
  · show spec_TurnColouring_l0 x t (k' + 1) (x.p.toNat : Nat) s = _
    rw [spec_TurnColouring_l0, decide_eq_false (by omega)]; rfl
def isT (p t : Nat) : Prop := (1 ≤ t ∧ (t < p ∨ (p = 1 ∧ t = 1))) ∧ copr t p = true
theorem turnP_ord {p t : Nat} (hp : 1 ≤ p ∧ p ≤ 17) (h : isT p t) : isOrd (turnP p t) p := by
  refine ⟨by rw [turnP_len], fun a ha => ?_, fun a b hab hb => ?_⟩
  · rw [turnP_len] at ha
    rw [turnP_get ha]
    have := Nat.mod_lt (t * a) (show p > 0 by omega)
    omega
  · rw [turnP_len] at hb
    rw [turnP_get hb, turnP_get (show a < p by omega)]
    have := turn_dst p hp.2 t (by have := h.1; omega) h.2 b hb a hab
    have := this.2
    omega
theorem turn_same {k : Nat} (hk : 5000 ≤ k) (x : Col) (t : Int) :
    (∃ z c, c ≠ 0 ∧ impl_TurnColouring k x t = some (z, c) ∧ spec_TurnColouring k x t = some (z, c)) ∨
    (x.is ∧ 0 ≤ t ∧ isT x.p.toNat t.toNat ∧ impl_TurnColouring k x t = some (ren x (turnP x.p.toNat t.toNat), 0) ∧ spec_TurnColouring k x t = some (ren x (turnP x.p.toNat t.toNat), 0)) := by
  classical
  unfold impl_TurnColouring spec_TurnColouring impl_TurnColouring_c1 impl_isTurn
  rw [specIs_eq k (by omega)]
  by_cases hx : x.is
  · have hp := hx.1
    rw [decide_eq_true hx, in_eq, specIn_eq, w64_id (n := x.p - 1) (by omega)]
    by_cases h1 : (1 ≤ t ∧ t ≤ x.p - 1) ∨ (x.p = 1 ∧ t = 1)
    · obtain ⟨m, rfl⟩ := nat_of (show 0 ≤ t by omega)
      have hg := implGcd (k := k) (a := m) (b := x.p.toNat) (by omega)
      have hg' := specGcd (k := k) (a := m) (b := x.p.toNat) (by omega)
      rw [toN hp] at hg hg'
      have hr : 1 ≤ (m : Int) ∧ (m : Int) ≤ (if x.p - 1 < 1 then 1 else x.p - 1) := by split <;> omega
      rw [decide_eq_true hr]
      simp only [hg, hg', Option.bind_some, Bool.not_true, Bool.false_eq_true, if_false, copr_dec]
      by_cases hc : copr m x.p.toNat = true
      · right
        have hT : isT x.p.toNat m := ⟨by omega, hc⟩
        have ho := turnP_ord (p := x.p.toNat) (by omega) hT
        rw [toN hp] at ho
        have hv : ((if decide (x.p = 1) = true then if decide ((m : Int) = 1) = true then some true else if decide (1 ≤ (m : Int) ∧ (m : Int) ≤ x.p - 1) = true then some true else some false else if decide (1 ≤ (m : Int) ∧ (m : Int) ≤ x.p - 1) = true then some true else some false) : Option Bool) = some true := by
          by_cases h2 : x.p = 1
          · rw [decide_eq_true h2, decide_eq_true (show (m : Int) = 1 by omega)]; rfl
          · rw [decide_eq_false h2, decide_eq_true (show 1 ≤ (m : Int) ∧ (m : Int) ≤ x.p - 1 by omega)]; rfl
        simp only [hc, hv, Option.bind_some, ((code_cases hk x).1 hx).1, decide_true, Bool.not_true, Bool.false_eq_true, if_false, implTurn_loop (show 20 ≤ k by omega) hp (show m ≤ 17 by omega), specTurn_loop (show 20 ≤ k by omega) hp (show m ≤ 17 by omega), Int.toNat_natCast]
        rw [implRen_eq x _ hp ho k (by omega), specRen_eq x _ hp ho k (by omega)]
        exact ⟨hx, by omega, hT, rfl, rfl⟩
      · left
        have hc' : copr m x.p.toNat = false := by simpa using hc
        have hne : ¬ (x.p = 1) := fun e => hc (by
          have : m = 1 := by omega
          rw [this]
          exact one_copr _ (by omega) (by omega))
        simp only [hne, hc', decide_false, Bool.false_eq_true, if_false, ite_self, Option.bind_some, ((code_cases hk x).1 hx).2, Bool.not_false, if_true]
        exact ⟨noC, 2, by omega, rfl, rfl⟩
    · left
      have hr : ¬ (1 ≤ t ∧ t ≤ (if x.p - 1 < 1 then 1 else x.p - 1)) := by split <;> omega
      have h2 : ¬ (1 ≤ t ∧ t ≤ x.p - 1) := fun q => h1 (.inl q)
      rw [decide_eq_false hr, decide_eq_false h2]
      have h3 : ¬ (x.p = 1 ∧ t = 1) := fun q => h1 (.inr q)
      have hv : ((if decide (x.p = 1) = true then if decide (t = 1) = true then some true else if false = true then (impl_divisor k t x.p).bind fun r5 => some (decide (r5 = 1)) else some false else if false = true then (impl_divisor k t x.p).bind fun r8 => some (decide (r8 = 1)) else some false) : Option Bool) = some false := by
        by_cases h4 : x.p = 1
        · rw [decide_eq_true h4, decide_eq_false (fun q => h3 ⟨h4, q⟩)]; rfl
        · rw [decide_eq_false h4]; rfl
      rw [hv]
      simp only [Option.bind_some, ((code_cases hk x).1 hx).2, Bool.not_true, Bool.not_false, Bool.false_eq_true, if_false, if_true]
      exact ⟨noC, 2, by omega, rfl, rfl⟩
  · left
    rw [decide_eq_false hx]
    refine ⟨noC, 1, by omega, ?_, rfl⟩
    unfold impl_Colouring_code
    rw [isColouring_eq k (by omega), decide_eq_false hx]
    rfl
/-- A circular colouring that is turned by one of its multipliers stays. -/
theorem turn_keep {x : Col} (hx : x.is) (hc : isCir x) {t : Nat} (h1 : 1 ≤ t) (ht : (t : Int) < x.p) (hm : isMul x t = true) : ren x (turnP x.p.toNat t) = x := by
  have hp := hx.1
  unfold isMul at hm
  rw [Bool.and_eq_true] at hm
  have hT : isT x.p.toNat t := ⟨by omega, hm.1⟩
  have ho := turnP_ord (p := x.p.toNat) (by omega) hT
  rw [toN hp] at ho
  refine ren_eq hx ho hx rfl rfl fun i j hij hj => ?_
  rw [turnP_get (show i < x.p.toNat by omega), turnP_get (show j < x.p.toNat by omega)]
  have hd := turn_dst x.p.toNat (by omega) t (by omega) hm.1 j (by omega) i hij
  have hr := dst_range (n := x.p.toNat) (a := i) (b := j) (by omega) (by omega) (by omega)
  have l1 := Nat.mod_lt (t * i) (show x.p.toNat > 0 by omega)
  have l2 := Nat.mod_lt (t * j) (show x.p.toNat > 0 by omega)
  rw [cir_cc hx hc (by omega) (by omega) hd.2, cir_cc hx hc (by omega) hj (by omega), hd.1]
  have := List.all_eq_true.1 hm.2 (dst x.p.toNat i j - 1) (List.mem_range.2 (by omega))
  unfold keeps at this
  rw [show dst x.p.toNat i j - 1 + 1 = dst x.p.toNat i j by omega] at this
  exact of_decide_eq_true this

/-! ### Balanced colourings -/
theorem deg_all {x : Col} (D : Nat → Nat → Nat) (H : Nat → Int) (hH : ∀ a b : Nat, a < x.p.toNat → b < x.p.toNat → a ≠ b → x.cc a b = H (D a b)) (c : Int) (a : Nat) (ha : a < x.p.toNat) : dgN x c a = (((List.range x.p.toNat).filter fun j => j != a).map (D a)).countP fun d => decide (H d = c) := by
  unfold dgN pts ir
  rw [← List.countP_eq_length_filter, List.countP_map, List.countP_map, List.countP_filter, Nat.sub_zero, ← List.range_eq_range']
  refine List.countP_congr fun j hj => ?_
  have hj' := List.mem_range.1 hj
  simp only [Function.comp_apply, aB, Bool.and_eq_true, decide_eq_true_eq, bne_iff_ne, ne_eq]
  constructor
  · rintro ⟨h1, h2⟩
    have hne : a ≠ j := fun e => h1 (by rw [e]; rfl)
    exact ⟨by rw [← hH a j ha hj' hne]; exact h2, fun e => hne e.symm⟩
  · rintro ⟨h1, h2⟩
    have hne : a ≠ j := fun e => h2 e.symm
    refine ⟨fun e => hne (by have : (a : Int) = (j : Int) := e; omega), ?_⟩
    have := hH a j ha hj' hne
    rw [← this] at h1
    exact h1
def bal (x : Col) : Prop := ∀ c : Nat, (c : Int) < x.k → ∀ a : Nat, (a : Int) < x.p → dgN x c a = dgN x c 0
theorem bal_cir {x : Col} (hx : x.is) (hc : isCir x) : bal x := by
  have hp := hx.1
  intro c hc' a ha
  have hH : ∀ a b : Nat, a < x.p.toNat → b < x.p.toNat → a ≠ b → x.cc a b = (fun d => (cirL x).getD (d - 1) 0) (dst x.p.toNat a b) := fun a b h1 h2 h3 => cir_cc hx hc (by omega) (by omega) h3
  have e1 := deg_all (x := x) (dst x.p.toNat) (fun d => (cirL x).getD (d - 1) 0) hH c a (by omega)
  have e2 := deg_all (x := x) (dst x.p.toNat) (fun d => (cirL x).getD (d - 1) 0) hH c 0 (by omega)
  rw [e1]
  refine Eq.trans ?_ e2.symm
  exact (dsts_perm x.p.toNat (by omega) a (by omega)).countP_eq _
open Classical in
theorem implBal {k : Nat} (hk : 5000 ≤ k) {x : Col} (hx : x.is) : impl_IsBalanced k x = some (decide (bal x), 0) := by
  have hp := hx.1
  have hkk := hx.2.1
  unfold impl_IsBalanced impl_always impl_Colouring_isBalanced
  rw [((code_cases hk x).1 hx).1]
  have inner : ∀ c : Nat, impl_Colouring_isBalanced_l1 (mapL x.p.toNat fun a => (dgN x c a : Int)) k 0 = some (if ∀ a : Nat, (a : Int) < x.p → dgN x c a = dgN x c 0 then .inl () else .inr (.inr false)) := fun c => by
    have := loopAll (f := fun k' i => impl_Colouring_isBalanced_l1 (mapL x.p.toNat fun a => (dgN x c a : Int)) k' i) x.p (.inr false) (fun i => dgN x c i.toNat = dgN x c 0) 0
      (fun k' i h0 h1 hq => by
        obtain ⟨m, rfl⟩ := nat_of h0
        show impl_Colouring_isBalanced_l1 _ (k' + 1) m = _
        rw [impl_Colouring_isBalanced_l1, mapL_length, w64_succ h0 h1 (by omega)]
        simp only [Int.toNat_natCast] at hq
        have g1 : (mapL x.p.toNat fun a => (dgN x c a : Int)).getD m 0 = (dgN x c m : Int) := mapL_get _ _ _ (by omega)
        have g2 : (mapL x.p.toNat fun a => (dgN x c a : Int)).getD 0 0 = (dgN x c 0 : Int) := mapL_get _ _ _ (by omega)
        rw [decide_eq_true (by omega), if_pos rfl, if_pos (by omega), if_pos (by omega), Int.toNat_natCast, show (0 : Int).toNat = 0 from rfl, g1, g2, hq, decide_eq_true rfl]
        rfl)
      (fun k' i h0 h1 hq => by
        obtain ⟨m, rfl⟩ := nat_of h0
        show impl_Colouring_isBalanced_l1 _ (k' + 1) m = _
        rw [impl_Colouring_isBalanced_l1, mapL_length]
        simp only [Int.toNat_natCast] at hq
        have g1 : (mapL x.p.toNat fun a => (dgN x c a : Int)).getD m 0 = (dgN x c m : Int) := mapL_get _ _ _ (by omega)
        have g2 : (mapL x.p.toNat fun a => (dgN x c a : Int)).getD 0 0 = (dgN x c 0 : Int) := mapL_get _ _ _ (by omega)
        rw [decide_eq_true (by omega), if_pos rfl, if_pos (by omega), if_pos (by omega), Int.toNat_natCast, show (0 : Int).toNat = 0 from rfl, g1, g2, decide_eq_false (by omega)]
        rfl)
      (fun k' i h1 => by
        show impl_Colouring_isBalanced_l1 _ (k' + 1) i = _
        rw [impl_Colouring_isBalanced_l1, mapL_length, decide_eq_false (by omega)]
        rfl) k 0 (by omega) (by omega)
    rw [this]
    congr 1
    have e : (∀ j : Int, 0 ≤ j → j < x.p → dgN x c j.toNat = dgN x c 0) ↔ ∀ a : Nat, (a : Int) < x.p → dgN x c a = dgN x c 0 := by
      constructor
      · intro h a ha; have := h a (by omega) ha; simpa using this
      · intro h j h0 h1; obtain ⟨m, rfl⟩ := nat_of h0; have := h m h1; simpa using this
    by_cases hq : ∀ a : Nat, (a : Int) < x.p → dgN x c a = dgN x c 0
    · rw [if_pos (e.2 hq), if_pos hq]
    · rw [if_neg (fun q => hq (e.1 q)), if_neg hq]
  have := loopAll (f := fun k' i => impl_Colouring_isBalanced_l0 k x k' i) x.k false (fun c => ∀ a : Nat, (a : Int) < x.p → dgN x c.toNat a = dgN x c.toNat 0) 0
    (fun k' i h0 h1 hq => by
      obtain ⟨m, rfl⟩ := nat_of h0
      show impl_Colouring_isBalanced_l0 k x (k' + 1) m = _
      rw [impl_Colouring_isBalanced_l0, degrees_val x hp (by omega) m, w64_succ h0 h1 (by omega), decide_eq_true h1, if_pos rfl]
      simp only [Option.bind_some]
      simp only [Int.toNat_natCast] at hq
      rw [inner m, if_pos hq]
      rfl)
    (fun k' i h0 h1 hq => by
      obtain ⟨m, rfl⟩ := nat_of h0
      show impl_Colouring_isBalanced_l0 k x (k' + 1) m = _
      rw [impl_Colouring_isBalanced_l0, degrees_val x hp (by omega) m, decide_eq_true h1, if_pos rfl]
      simp only [Option.bind_some]
      simp only [Int.toNat_natCast] at hq
      rw [inner m, if_neg hq]
      rfl)
    (fun k' i h1 => by
      show impl_Colouring_isBalanced_l0 k x (k' + 1) i = _
      rw [impl_Colouring_isBalanced_l0, decide_eq_false (by omega)]
      rfl) k 0 (by omega) (by omega)
  have this' : impl_Colouring_isBalanced_l0 k x k 0 = _ := this
  rw [this']
  have e : (∀ j : Int, 0 ≤ j → j < x.k → ∀ a : Nat, (a : Int) < x.p → dgN x j.toNat a = dgN x j.toNat 0) ↔ bal x := by
    constructor
    · intro h c hc; have := h c (by omega) hc; simpa using this
    · intro h j h0 h1; obtain ⟨m, rfl⟩ := nat_of h0; have := h m h1; simpa using this
  by_cases hq : bal x
  · rw [if_pos (e.2 hq), decide_eq_true hq]; rfl
  · rw [if_neg (fun q => hq (e.1 q)), decide_eq_false hq]; rfl
open Classical in
theorem specBal {k : Nat} (hk : 5000 ≤ k) {x : Col} (hx : x.is) : spec_IsBalanced k x = some (decide (bal x), 0) := by
  have hp := hx.1
  have hkk := hx.2.1
  unfold spec_IsBalanced
  rw [specIs_eq k (by omega), decide_eq_true hx]
  have inner : ∀ c : Nat, spec_IsBalanced_l1 k x c k 1 = some (if ∀ a : Nat, (a : Int) < x.p → dgN x c a = dgN x c 0 then .inl () else .inr (.inr (false, 0))) := fun c => by
    obtain ⟨z, z1, z2⟩ := deg_ones hk x hp c 0 (by omega)
    have z1' : spec_l01Around k x 0 c = some z := z1
    have := loopAll (f := fun k' i => spec_IsBalanced_l1 k x c k' i) x.p (.inr (false, 0)) (fun i => dgN x c i.toNat = dgN x c 0) 1
      (fun k' i h0 h1 hq => by
        obtain ⟨m, rfl⟩ := nat_of (show 0 ≤ i by omega)
        obtain ⟨b, b1, b2⟩ := deg_ones hk x hp c m h1
        show spec_IsBalanced_l1 k x c (k' + 1) m = _
        simp only [Int.toNat_natCast] at hq
        rw [spec_IsBalanced_l1, w64_id (n := (m : Int) + 1) (by omega), decide_eq_true h1, if_pos rfl]
        simp only [b1, b2, z1', z2, Option.bind_some]
        rw [decide_eq_true (show (dgN x c m : Int) = (dgN x c ((0 : Nat) : Int) : Int) by rw [hq]; rfl)]
        rfl)
      (fun k' i h0 h1 hq => by
        obtain ⟨m, rfl⟩ := nat_of (show 0 ≤ i by omega)
        obtain ⟨b, b1, b2⟩ := deg_ones hk x hp c m h1
        show spec_IsBalanced_l1 k x c (k' + 1) m = _
        simp only [Int.toNat_natCast] at hq
        rw [spec_IsBalanced_l1, decide_eq_true h1, if_pos rfl]
        simp only [b1, b2, z1', z2, Option.bind_some]
        have hne : ¬ (dgN x c m : Int) = (dgN x c ((0 : Nat) : Int) : Int) := fun q => hq (Int.ofNat.inj q)
        rw [decide_eq_false hne]
        rfl)
      (fun k' i h1 => by
        show spec_IsBalanced_l1 k x c (k' + 1) i = _
        rw [spec_IsBalanced_l1, decide_eq_false (by omega)]
        rfl) k 1 (by omega) (by omega)
    rw [this]
    congr 1
    have e : (∀ j : Int, 1 ≤ j → j < x.p → dgN x c j.toNat = dgN x c 0) ↔ ∀ a : Nat, (a : Int) < x.p → dgN x c a = dgN x c 0 := by
      constructor
      · intro h a ha
        by_cases h0 : a = 0
        · subst h0; rfl
        · have := h a (by omega) ha; simpa using this
      · intro h j h0 h1; obtain ⟨m, rfl⟩ := nat_of (show 0 ≤ j by omega); have := h m h1; simpa using this
    by_cases hq : ∀ a : Nat, (a : Int) < x.p → dgN x c a = dgN x c 0
    · rw [if_pos (e.2 hq), if_pos hq]
    · rw [if_neg (fun q => hq (e.1 q)), if_neg hq]
  have := loopAll (f := fun k' i => spec_IsBalanced_l0 k x k' i) x.k (false, 0) (fun c => ∀ a : Nat, (a : Int) < x.p → dgN x c.toNat a = dgN x c.toNat 0) 0
    (fun k' i h0 h1 hq => by
      obtain ⟨m, rfl⟩ := nat_of h0
      show spec_IsBalanced_l0 k x (k' + 1) m = _
      simp only [Int.toNat_natCast] at hq
      rw [spec_IsBalanced_l0, w64_succ h0 h1 (by omega), decide_eq_true h1, if_pos rfl, inner m, if_pos hq]
      rfl)
    (fun k' i h0 h1 hq => by
      obtain ⟨m, rfl⟩ := nat_of h0
      show spec_IsBalanced_l0 k x (k' + 1) m = _
      simp only [Int.toNat_natCast] at hq
      rw [spec_IsBalanced_l0, decide_eq_true h1, if_pos rfl, inner m, if_neg hq]
      rfl)
    (fun k' i h1 => by
      show spec_IsBalanced_l0 k x (k' + 1) i = _
      rw [spec_IsBalanced_l0, decide_eq_false (by omega)]
      rfl) k 0 (by omega) (by omega)
  have this' : spec_IsBalanced_l0 k x k 0 = _ := this
  have e : (∀ j : Int, 0 ≤ j → j < x.k → ∀ a : Nat, (a : Int) < x.p → dgN x j.toNat a = dgN x j.toNat 0) ↔ bal x := by
    constructor
    · intro h c hc; have := h c (by omega) hc; simpa using this
    · intro h j h0 h1; obtain ⟨m, rfl⟩ := nat_of h0; have := h m h1; simpa using this
  simp only [Option.bind_some, Bool.not_true, Bool.false_eq_true, if_false, this']
  by_cases hq : bal x
  · rw [if_pos (e.2 hq), decide_eq_true hq]
  · rw [if_neg (fun q => hq (e.1 q)), decide_eq_false hq]
end Go.Proofs.YtkknnbmmcmhngaaGreat
