/- Plain laws: the renumberings that lead a colouring to another one, in order; the program's first one. No conditions beyond those that each lemma states. -/
import Derived.Test.YtfnbhfobgimnjaaGreatPureTra30
import Derived.Test.YtfnbhfobgimnjaaGreatPKit
import Derived.Test.YtfnbhfobgimnjaaGreatPBits
set_option linter.unusedVariables false
set_option linter.unusedSimpArgs false
namespace Go.Proofs.YtfnbhfobgimnjaaGreat
open Go Go.RowKit Ab

theorem fm_congr {α β : Type} {f g : α → List β} : ∀ (L : List α), (∀ a ∈ L, f a = g a) → L.flatMap f = L.flatMap g
  | [], _ => rfl
  | a :: t, h => by rw [List.flatMap_cons, List.flatMap_cons, h a (by simp), fm_congr t fun b hb => h b (by simp [hb])]
theorem exts_congrR {K : Nat} {ok ok' : List Int → Nat → Bool} : ∀ (n : Nat) (l : List Int), (∀ z ∈ l, 0 ≤ z ∧ z < K) → (∀ (e : List Int) (c : Nat), e.length < l.length + n → c < K → (∀ z ∈ e, 0 ≤ z ∧ z < K) → ok e c = ok' e c) → exts K ok n l = exts K ok' n l
  | 0, l, _, _ => by rw [exts_zero, exts_zero]
  | n + 1, l, hl, h => by
    rw [exts, exts]
    refine fm_congr _ fun c hc => ?_
    have hc := List.mem_range.1 hc
    rw [h l c (by omega) hc hl, exts_congrR n (l ++ [(c : Int)]) (fun z hz => by
      rcases List.mem_append.1 hz with q | q
      · exact hl z q
      · simp at q; omega) fun e c he hc hz => h e c (by simp at he; omega) hc hz]

/-! ### The renumberings -/
def nearR (x y : Col) (l : List Int) (c : Nat) : Prop := ∀ i, i < l.length → l.getD i 0 ≠ (c : Int) ∧ x.cc i l.length = y.cc (l.getD i 0) c
instance (x y : Col) (l : List Int) (c : Nat) : Decidable (nearR x y l c) := by unfold nearR; infer_instance
def okR (x y : Col) (l : List Int) (c : Nat) : Bool := decide (dgs x l.length = dgs y c) && decide (nearR x y l c)
/-- All renumberings that lead x to y, in order. -/
def RN (x y : Col) : List (List Int) := if x.p = y.p ∧ x.k = y.k then exts x.p.toNat (okR x y) x.p.toNat [] else []
theorem RN_yes {x y : Col} (h : x.p = y.p ∧ x.k = y.k) : RN x y = exts x.p.toNat (okR x y) x.p.toNat [] := if_pos h
theorem RN_no {x y : Col} (h : ¬ (x.p = y.p ∧ x.k = y.k)) : RN x y = [] := if_neg h
theorem col_ext {x y : Col} (hx : x.is) (hy : y.is) (h1 : x.p = y.p) (h2 : x.k = y.k) (h : ∀ a b : Nat, a < b → (b : Int) < x.p → x.cc a b = y.cc a b) : x = y := by
  rw [is_mk hx, is_mk hy, ← h1, ← h2]
  have hp := hx.1
  exact mkC_congr (by omega) _ fun a b hab hb => h a b hab (by omega)
theorem pts_ord {x : Col} (hp : 1 ≤ x.p ∧ x.p ≤ 17) : ordOK (pts x) ∧ (pts x).length = x.p.toNat ∧ ∀ i, i < x.p.toNat → (pts x).getD i 0 = (i : Int) := by
  have hl : (pts x).length = x.p.toNat := by unfold pts; rw [ir_length]; omega
  have hg : ∀ i, i < x.p.toNat → (pts x).getD i 0 = (i : Int) := fun i hi => by
    unfold pts ir
    simp [List.getD, List.getElem?_map, List.getElem?_range', hi]
  exact ⟨⟨fun i hi => by rw [hg i (by omega)]; omega, ir_nodup 0 _⟩, hl, hg⟩
/-- What is found leads x to y. -/
theorem RN_ok {x y : Col} (hx : x.is) (hy : y.is) {l : List Int} (h : l ∈ RN x y) : x.p = y.p ∧ x.k = y.k ∧ isOrd l x.p ∧ ren x l = y := by
  by_cases hpk : x.p = y.p ∧ x.k = y.k
  · rw [RN_yes hpk] at h
    have hp := hx.1
    have hlen := exts_len (K := x.p.toNat) (ok := okR x y) _ _ l h
    simp only [List.length_nil, Nat.zero_add] at hlen
    have hr := exts_range (K := x.p.toNat) (ok := okR x y) _ _ (fun z hz => by simp at hz) l h
    have hok := (exts_ok _ _ l h).2
    have key : ∀ a b : Nat, a < b → b < x.p.toNat → l.getD a 0 ≠ l.getD b 0 ∧ x.cc a b = y.cc (l.getD a 0) (l.getD b 0) := fun a b hab hb => by
      obtain ⟨c, c1, c2, c3⟩ := hok b (by simp) (by omega)
      have hle : (l.take b).length = b := by simp; omega
      unfold okR at c3
      rw [Bool.and_eq_true, decide_eq_true_eq, decide_eq_true_eq] at c3
      have := c3.2 a (by omega)
      have hg : (l.take b).getD a 0 = l.getD a 0 := by simp [List.getD, List.getElem?_take, hab]
      rw [hg, hle, ← c2] at this
      exact this
    have ho : isOrd l x.p := ⟨by omega, fun a ha => by have := hr _ (mem_getD.2 ⟨a, ha, rfl⟩); omega, fun a b hab hb => (key a b hab (by omega)).1⟩
    refine ⟨hpk.1, hpk.2, ho, ?_⟩
    have on := ord_nat hp ho
    have hrp := ren_p x hx ho
    have hrk := ren_k x hx ho
    refine col_ext (ren_is hx ho) hy (hrp.trans hpk.1) (hrk.trans hpk.2) fun a b hab hb => ?_
    rw [hrp] at hb
    obtain ⟨i, hi, ei⟩ := ord_surj on (v := a) (by omega)
    obtain ⟨j, hj, ej⟩ := ord_surj on (v := b) (by omega)
    have hij : i ≠ j := fun e => by subst e; omega
    have hc := ren_cc hx ho (a := i) (b := j) (by omega) (by omega) hij
    rw [ei, ej] at hc
    rw [hc]
    rcases Nat.lt_or_gt_of_ne hij with w | w
    · have := (key i j w hj).2
      rw [ei, ej] at this
      exact this
    · have := (key j i w hi).2
      rw [ei, ej] at this
      rw [cc_comm, this, cc_comm]
  · rw [RN_no hpk] at h
    simp at h
/-! ### The program's first one -/
def cbR (e : List Int) (s : List Int) : Bool × List Int := (false, e)
theorem points_val {k : Nat} (x : Col) (hp : 1 ≤ x.p ∧ x.p ≤ 17) (hk : 20 ≤ k) : impl_Colouring_points k x = some (pts x) := by
  unfold impl_Colouring_points impl_Colouring_points_c1
  rw [that_val x hp hk _ (fun _ => true) (fun a _ => rfl), Option.bind_some, List.filter_eq_self.2 (fun _ _ => rfl)]
  rfl
theorem TI_okT {x y : Col} (hx : x.is) (hy : y.is) (h1 : x.p = y.p) {t : Tra} (ht : TI x y (pts x) x.p.toNat 0 t) (m : Nat) (hm : m ≤ x.p.toNat) : exts t.y.p.toNat (okT t) m [] = exts x.p.toNat (okR x y) m [] := by
  have hp := hx.1
  obtain ⟨o1, o2, o3⟩ := pts_ord hp
  rw [ht.hy, ← h1]
  refine exts_congrR m [] (fun z hz => by simp at hz) fun e c he hc hz => ?_
  simp only [List.length_nil, Nat.zero_add] at he
  unfold okT okR
  rw [ht.ho, o3 e.length (by omega), Int.toNat_natCast, ht.g e.length c (by omega) (by omega) (.inl (by omega))]
  congr 1
  rw [decide_eq_decide]
  unfold nearT nearR nearP
  rw [ht.hx, ht.hy, ht.ho]
  constructor
  · intro h i hi
    have := h i hi
    rw [o3 i (by omega), o3 e.length (by omega)] at this
    exact this
  · intro h i hi
    rw [o3 i (by omega), o3 e.length (by omega)]
    exact h i hi
theorem renumbering_val {k : Nat} (hk : 5000 ≤ k) {x y : Col} (hx : x.is) (hy : y.is) : impl_Colouring_renumbering k x y = some ((RN x y).headD [], decide (RN x y ≠ [])) := by
  have hp := hx.1
  unfold impl_Colouring_renumbering impl_Colouring_leading_on_renumbering_c1
  rw [points_val x hp (by omega), Option.bind_some]
  by_cases hpk : x.p = y.p ∧ x.k = y.k
  · obtain ⟨o1, o2, o3⟩ := pts_ord hp
    obtain ⟨t, e, ht⟩ := tracer_val hx hy (pts x) k (by omega) hpk.1 hpk.2
    have hto : t.o.length = x.p.toNat := by rw [ht.ho, o2]
    have hty : t.y.p = x.p := by rw [ht.hy, hpk.1]
    obtain ⟨cs', _, _, r, _⟩ := run_renumbering_c1 t (by rw [ht.ho]; exact o1) (by omega) cbR (fun _ => True) (fun k cs s _ hcs _ _ => by
      refine ⟨?_, fun h => by cases h⟩
      have hne : ((cs.drop 0).take t.o.length).isEmpty = false := by
        rw [List.drop_zero]
        cases hc : cs.take t.o.length with
        | nil => have := congrArg List.length hc; rw [List.length_take, hcs, hto, List.length_nil] at this; omega
        | cons a b => rfl
      have hcl : (cs.take t.o.length).length ≤ 1099511627776 := Nat.le_trans (List.length_take_le _ _) (by rw [hto]; omega)
      unfold impl_Colouring_renumbering_c1 cloneA
      rw [hne, if_neg (by simp), List.drop_zero, if_pos hcl]
      rfl) x.p.toNat (List.replicate 17 0) 0 [] k (by omega) (by simp) (isRen_nil t) trivial (by omega)
    rw [List.take_zero, TI_okT hx hy hpk.1 ht _ (Nat.le_refl _), ← RN_yes hpk] at r
    rw [e, Option.bind_some]
    dsimp only
    rw [r]
    cases RN x y with
    | nil => rfl
    | cons a b => simp [runT, cbR]
  · rw [tracer_none _ k hpk, RN_no hpk]
    rfl
theorem implFind_val {k : Nat} (hk : 5000 ≤ k) {x y : Col} (hx : x.is) (hy : y.is) : impl_FindRenumbering k x y = if RN x y = [] then some (none, 4) else some (some ((RN x y).headD []), 0) := by
  classical
  unfold impl_FindRenumbering
  rw [isColouring_eq k (by omega), isColouring_eq k (by omega), decide_eq_true hx, decide_eq_true hy]
  simp only [Option.bind_some, Bool.not_true, Bool.false_eq_true, if_false]
  rw [renumbering_val hk hx hy, Option.bind_some]
  by_cases h : RN x y = []
  · simp [h]
  · simp [h]
theorem implIso_val {k : Nat} (hk : 5000 ≤ k) {x y : Col} (hx : x.is) (hy : y.is) : impl_AreIsomorphic k x y = some (decide (RN x y ≠ []), 0) := by
  classical
  unfold impl_AreIsomorphic
  rw [isColouring_eq k (by omega), isColouring_eq k (by omega), decide_eq_true hx, decide_eq_true hy]
  simp only [Option.bind_some, Bool.not_true, Bool.false_eq_true, if_false]
  rw [renumbering_val hk hx hy, Option.bind_some]

/-- The neighbours of a point, as bits. -/
def nb (x : Col) (c : Int) (p : Nat) : Nat := bitsN (fun j => aB x c (p : Int) (j : Int)) x.p.toNat

theorem nb_test (x : Col) (c : Int) (p j : Nat) : (nb x c p).testBit j = (decide (j < x.p.toNat) && aB x c (p : Int) (j : Int)) := bitsN_test _ _ _

theorem around_nb (k : Nat) (x : Col) (hx : 1 ≤ x.p ∧ x.p ≤ 17) (hk : 20 ≤ k) (c : Int) (i : Nat) (hi : (i : Int) < x.p) : spec_l01Around k x i c = some ((nb x c i : Nat) : Int) := by
  unfold spec_l01Around nb
  generalize hP : (fun j : Nat => aB x c (i : Int) (j : Int)) = P
  have hP' : ∀ j : Nat, P j = aB x c (i : Int) (j : Int) := fun j => by rw [← hP]
  have := loopI (f := fun k t (s : Int) => spec_l01Around_l0 x i c k s t) x.p 0 (fun t s => t ≤ x.p ∧ s = ((bitsN P t.toNat : Nat) : Int)) (fun r => r = ((bitsN P x.p.toNat : Nat) : Int)) ?_ ?_ k 0 0 (by omega) (by omega) ⟨by omega, rfl⟩
  · obtain ⟨r, e, rfl⟩ := this
    rw [e]; rfl
  · intro k t s h0 h1 ⟨_, q⟩
    left
    obtain ⟨m, rfl⟩ := nat_of h0
    refine ⟨_, ?_, by omega, rfl⟩
    show spec_l01Around_l0 x i c (k + 1) s m = _
    have e0 : ((m : Int) + 1).toNat = m + 1 := by omega
    rw [spec_l01Around_l0, w64_succ h0 h1 (by omega), e0, u64_id (by omega)]
    simp only [Int.toNat_natCast] at q
    have hb := lt63 (lt17 (bitsN_lt P m) (by omega))
    have hor := bOr_nat (a := bitsN P m) (b := 2 ^ m) hb (Nat.pow_lt_pow_right (by omega) (by omega))
    simp only [h1, decide_true, if_true]
    have hPm := hP' m
    unfold aB at hPm
    by_cases e : m = i
    · subst e
      simp only [ne_eq, not_true_eq_false, false_and, decide_false] at hPm
      simp [hPm, bitsN, q]
    · have e' : ¬ (m : Int) = i := by omega
      have e'' : ¬ (i : Int) = m := by omega
      rw [specAt_ne x i m (by omega) (by omega) (by omega) (by omega) (by omega)]
      by_cases h : x.cc i m = c
      · simp only [ne_eq, e'', not_false_eq_true, h, and_self, decide_true] at hPm
        simp only [e', h, decide_false, Bool.not_false, if_true, Option.bind_some, decide_true, h0, q]
        rw [bShl_one (by omega), hor]
        simp [bitsN, hPm]
      · simp only [ne_eq, e'', not_false_eq_true, h, and_false, decide_false] at hPm
        simp [e', h, bitsN, hPm, q]
  · intro k t s h0 h1 ⟨q1, q2⟩
    have : t = x.p := by omega
    subst this
    refine ⟨s, ?_, q2⟩
    show spec_l01Around_l0 x i c (k + 1) s x.p = _
    rw [spec_l01Around_l0]; simp

theorem ones_loop : ∀ (m s : Nat) (cnt : Int) (k : Nat), s < 2 ^ m → m ≤ 60 → m < k → 0 ≤ cnt → cnt + m ≤ 1000 → spec_l01Ones_l0 k (s : Int) cnt = some (cnt + (mem s 0 m).length) := by
  intro m
  induction m with
  | zero =>
    intro s cnt k hs hm hk h0 h1
    obtain ⟨k, rfl⟩ : ∃ q, k = q + 1 := ⟨k - 1, by omega⟩
    have : s = 0 := by simpa using hs
    subst this
    rw [spec_l01Ones_l0, mem_end (by omega)]; simp
  | succ m ih =>
    intro s cnt k hs hm hk h0 h1
    obtain ⟨k, rfl⟩ : ∃ q, k = q + 1 := ⟨k - 1, by omega⟩
    rw [spec_l01Ones_l0]
    by_cases h : s = 0
    · subst h
      have : mem 0 0 (m + 1) = [] := by
        unfold mem
        rw [List.filter_eq_nil_iff]
        intro a _; simp
      rw [this]; simp
    · have hp : (0 : Int) < (s : Int) := by omega
      have hb : s < 2 ^ 61 := Nat.lt_of_lt_of_le hs (Nat.pow_le_pow_right (by omega) (by omega))
      have e1 : (s : Int).tdiv 2 = ((s / 2 : Nat) : Int) := by rw [Int.tdiv_eq_ediv_of_nonneg (by omega)]; omega
      have e2 : (s : Int).tmod 2 = ((s % 2 : Nat) : Int) := by rw [Int.tmod_eq_emod_of_nonneg (by omega)]; omega
      rw [decide_eq_true hp, if_pos rfl, e1, e2, w64_id (by omega), w64_id (by omega), ih (s / 2) _ k (by rw [Nat.pow_succ] at hs; omega) (by omega) (by omega) (by omega) (by omega), mem_half]
      congr 1
      rw [Int.natCast_add]
      omega

theorem ones_val {k n s : Nat} (hk : 100 ≤ k) (hn : n ≤ 60) (hs : s < 2 ^ n) : spec_l01Ones k (s : Int) = some ((mem s 0 n).length : Int) := by
  unfold spec_l01Ones
  rw [ones_loop n s 0 k hs hn (by omega) (by omega) (by omega)]
  simp

/-! ### Types -/
theorem nb_count (x : Col) (a c : Nat) : (mem (nb x c a) 0 x.p.toNat).length = dgC x a c x.p.toNat := by
  unfold mem dgC ir
  rw [← List.countP_eq_length_filter, List.countP_map, Nat.sub_zero, ← List.range_eq_range']
  refine List.countP_congr fun q hq => ?_
  have hq := List.mem_range.1 hq
  have hq' : (Int.ofNat q).toNat = q := rfl
  simp only [Function.comp_apply, hq', nb_test, Bool.and_eq_true, decide_eq_true_eq]
  unfold aB
  rw [decide_eq_true_eq]
  constructor
  · rintro ⟨_, h1, h2⟩; exact ⟨fun e => h1 (by rw [e]), h2⟩
  · rintro ⟨h1, h2⟩; exact ⟨hq, fun e => h1 (by omega), h2⟩
def tyN (x : Col) (a : Nat) : Nat → Nat
  | 0 => 0
  | m + 1 => tyN x a m * 18 + dgC x a m x.p.toNat
theorem dg_lt {x : Col} (hp : 1 ≤ x.p ∧ x.p ≤ 17) (a c : Nat) : dgC x a c x.p.toNat < 18 := by
  have := dgC_le x a c x.p.toNat
  omega
theorem tyN_lt {x : Col} (hp : 1 ≤ x.p ∧ x.p ≤ 17) (a : Nat) : ∀ m, tyN x a m < 18 ^ m
  | 0 => by simp [tyN]
  | m + 1 => by
    have h1 := tyN_lt hp a m
    have h2 := dg_lt hp a m
    rw [tyN, Nat.pow_succ]
    omega
theorem tyN_iff {x y : Col} (hx : 1 ≤ x.p ∧ x.p ≤ 17) (hy : 1 ≤ y.p ∧ y.p ≤ 17) (a b : Nat) : ∀ m, tyN x a m = tyN y b m ↔ ∀ c, c < m → dgC x a c x.p.toNat = dgC y b c y.p.toNat
  | 0 => by simp [tyN]
  | m + 1 => by
    have h1 := dg_lt hx a m
    have h2 := dg_lt hy b m
    have ih := tyN_iff hx hy a b m
    rw [tyN, tyN]
    constructor
    · intro h c hc
      have e1 : tyN x a m = tyN y b m := by omega
      rcases Nat.lt_or_ge c m with w | w
      · exact ih.1 e1 c w
      · rw [show c = m by omega]; omega
    · intro h
      rw [ih.2 fun c hc => h c (by omega), h m (by omega)]
theorem ty_dgs {x y : Col} (hx : x.is) (hy : y.is) (hk : x.k = y.k) (a b : Nat) : tyN x a x.k.toNat = tyN y b y.k.toNat ↔ dgs x a = dgs y b := by
  rw [← hk, tyN_iff hx.1 hy.1]
  unfold dgs
  rw [← hk]
  constructor
  · exact fun h => mapL_ext fun c hc => by rw [h c hc]
  · intro h c hc
    have : (mapL x.k.toNat fun c => (dgC x a c x.p.toNat : Int)).getD c 0 = (mapL x.k.toNat fun c => (dgC y b c y.p.toNat : Int)).getD c 0 := by rw [h]
    rw [mapL_get _ _ _ hc, mapL_get _ _ _ hc] at this
    omega
def tyL (x : Col) : List Int := mapL x.p.toNat fun a => (tyN x a x.k.toNat : Int)
theorem pow18 {m : Nat} (h : m ≤ 4) : 18 ^ m ≤ 104976 := by
  have : m = 0 ∨ m = 1 ∨ m = 2 ∨ m = 3 ∨ m = 4 := by omega
  rcases this with rfl | rfl | rfl | rfl | rfl <;> decide
theorem types_val {k : Nat} (hk : 5000 ≤ k) {x : Col} (hx : x.is) : spec_l06Types k x = some (tyL x) := by
  have hp := hx.1
  have hkk := hx.2.1
  have hrow : ∀ a : Nat, (a : Int) < x.p → spec_l06Types_l1 k x a k 0 0 = some ((tyN x a x.k.toNat : Nat) : Int) := fun a ha => by
    have := loopI (f := fun k' c (s : Int) => spec_l06Types_l1 k x a k' s c) x.k 0 (fun c s => c ≤ x.k ∧ s = ((tyN x a c.toNat : Nat) : Int)) (fun s => s = ((tyN x a x.k.toNat : Nat) : Int)) ?_ ?_ k 0 0 (by omega) (by omega) ⟨by omega, rfl⟩
    · obtain ⟨s, e, rfl⟩ := this
      exact e
    · rintro k' c s h0 h1 ⟨q1, rfl⟩
      obtain ⟨c, rfl⟩ := nat_of h0
      left
      refine ⟨((tyN x a (c + 1) : Nat) : Int), ?_, by omega, by rw [show ((c : Int) + 1).toNat = c + 1 by omega]⟩
      show spec_l06Types_l1 k x a (k' + 1) _ c = _
      have hb := tyN_lt hp a c
      have hb2 := pow18 (m := c) (by omega)
      have hd := dg_lt hp a c
      have hbl : nb x (c : Int) a < 2 ^ x.p.toNat := bitsN_lt _ _
      rw [spec_l06Types_l1, if_pos (decide_eq_true h1), around_nb k x hp (by omega) c a ha, Option.bind_some, ones_val (k := k) (n := x.p.toNat) (by omega) (by omega) hbl, Option.bind_some, nb_count, w64_succ h0 h1 (by omega), Int.toNat_natCast, w64_id (n := ((tyN x a c : Nat) : Int) * 18) (by omega), w64_id (by omega)]
      have : ((tyN x a c : Nat) : Int) * 18 + ((dgC x a c x.p.toNat : Nat) : Int) = ((tyN x a (c + 1) : Nat) : Int) := by rw [tyN]; omega
      rw [this]
    · rintro k' c s h0 h1 ⟨q1, rfl⟩
      refine ⟨_, ?_, rfl⟩
      show spec_l06Types_l1 k x a (k' + 1) _ c = _
      rw [spec_l06Types_l1, if_neg (by simp only [decide_eq_true_eq]; omega), show c = x.k by omega]
  unfold spec_l06Types tyL
  have := collect (fun k' i s => spec_l06Types_l0 k x k' i s) x.p.toNat (fun a => (tyN x a x.k.toNat : Int)) (fun k' i s hi hl => by
    have h1 : (i : Int) < x.p := by omega
    show spec_l06Types_l0 k x (k' + 1) i s = _
    rw [spec_l06Types_l0, if_pos (decide_eq_true h1), hrow i h1, Option.bind_some, if_pos (by simp only [List.length_singleton]; omega), Option.bind_some, w64_succ (by omega) h1 (by omega)]
    rfl) (fun k' s => by
    show spec_l06Types_l0 k x (k' + 1) _ s = _
    rw [spec_l06Types_l0, if_neg (by simp only [decide_eq_true_eq]; omega)]) k (by omega)
  rw [this, Option.bind_some]
theorem tyL_get {x : Col} {a : Nat} (h : a < x.p.toNat) : (tyL x).getD a 0 = ((tyN x a x.k.toNat : Nat) : Int) := mapL_get _ _ _ h
theorem tyL_len (x : Col) : (tyL x).length = x.p.toNat := mapL_length _ _

/-! ### The search -/
def cbS (e : List Int) (s : Sea) : Bool × Sea := (decide (s.count + 1 < s.most), ⟨s.x, s.y, s.one, s.two, s.most, s.count + 1, if s.count = 0 then e else s.first⟩)
structure GoodS (x y : Col) (s : Sea) : Prop where
  hx : s.x = x
  hy : s.y = y
  h1 : s.one = tyL x
  h2 : s.two = tyL y
  c0 : 0 ≤ s.count
  cm : s.count ≤ s.most
  m : s.most ≤ 100000
theorem runS_flag : ∀ (L : List (List Int)) (s : Sea), s.count < s.most → (runT cbS L s).1 = decide ((runT cbS L s).2.count < (runT cbS L s).2.most)
  | [], s, h => (decide_eq_true h).symm
  | a :: t, s, h => by
    rw [runT]
    by_cases hq : s.count + 1 < s.most
    · rw [if_pos (show (cbS a s).1 = true from decide_eq_true hq)]
      exact runS_flag t _ hq
    · rw [if_neg (show ¬ (cbS a s).1 = true by unfold cbS; simpa using hq)]
      exact (decide_eq_false hq).symm
theorem runS_good {x y : Col} : ∀ (L : List (List Int)) (s : Sea), GoodS x y s → s.count < s.most → GoodS x y (runT cbS L s).2
  | [], s, g, _ => g
  | a :: t, s, g, h => by
    have g' : GoodS x y (cbS a s).2 := ⟨g.hx, g.hy, g.h1, g.h2, by show 0 ≤ s.count + 1; have := g.c0; omega, by show s.count + 1 ≤ s.most; omega, g.m⟩
    rw [runT]
    by_cases hq : s.count + 1 < s.most
    · rw [if_pos (show (cbS a s).1 = true from decide_eq_true hq)]
      exact runS_good t _ g' hq
    · rw [if_neg (show ¬ (cbS a s).1 = true by unfold cbS; simpa using hq)]
      exact g'
theorem own_val (l : List Int) (h : l.length ≤ 1000) : spec_l01Own l = some l := by
  unfold spec_l01Own
  rw [if_pos (by simp only [List.length_nil]; omega), List.nil_append]
theorem fits_val {x y : Col} (hx : x.is) (hy : y.is) (s : Sea) (hs : GoodS x y s) (hpk : x.p = y.p) (l : List Int) (hl : (l.length : Int) < x.p) (hr : ∀ z ∈ l, 0 ≤ z ∧ z < x.p) (c : Nat) (hc : (c : Int) < x.p) (hnm : (c : Int) ∉ l) (k : Nat) (hk : 100 ≤ k) :
    spec_l06Go_l1 l c s k true 0 = some (decide (nearR x y l c)) := by
  have hp := hx.1
  have hne : ∀ i : Nat, i < l.length → l.getD i 0 ≠ (c : Int) := fun i hi e => hnm (mem_getD.2 ⟨i, hi, e⟩)
  have := loopI (f := fun k' j (b : Bool) => spec_l06Go_l1 l c s k' b j) (l.length : Int) 0
    (fun j b => j ≤ l.length ∧ (b = true → ∀ i : Nat, (i : Int) < j → x.cc i l.length = y.cc (l.getD i 0) c) ∧ (b = false → ¬ nearR x y l c)) (fun r => r = decide (nearR x y l c)) ?_ ?_ k 0 true (by omega) (by omega) ⟨by omega, fun _ i hi => by omega, fun h => by cases h⟩
  · obtain ⟨r, e, rfl⟩ := this
    exact e
  · rintro k' j b h0 h1 ⟨q1, q2, q3⟩
    obtain ⟨i, rfl⟩ := nat_of h0
    have hi : i < l.length := by omega
    cases b with
    | false =>
      right
      refine ⟨false, ?_, (decide_eq_false (q3 rfl)).symm⟩
      show spec_l06Go_l1 l c s (k' + 1) false i = _
      rw [spec_l06Go_l1, decide_eq_true h1]; rfl
    | true =>
      left
      have hz := hr _ (mem_getD.2 ⟨i, hi, rfl⟩)
      refine ⟨decide (x.cc i l.length = y.cc (l.getD i 0) c), ?_, by omega, fun hb a ha => ?_, fun hb h => ?_⟩
      · show spec_l06Go_l1 l c s (k' + 1) true i = _
        rw [spec_l06Go_l1, decide_eq_true h1]
        simp only [letO, if_true, Option.bind_some]
        rw [hs.hx, hs.hy, specAt_ne x _ _ (by omega) (by omega) (by omega) (by omega) (by omega), Option.bind_some, if_pos ⟨h0, h1⟩, Int.toNat_natCast, specAt_ne y _ _ (by omega) (by omega) (by omega) (by omega) (hne i hi), Option.bind_some, w64_succ h0 h1 (by omega)]
      · rcases Nat.lt_or_ge a i with w | w
        · exact q2 rfl a (by omega)
        · rw [show a = i by omega]; exact of_decide_eq_true hb
      · exact of_decide_eq_false hb (h i hi).2
  · rintro k' j b h0 h1 ⟨q1, q2, q3⟩
    refine ⟨b, ?_, ?_⟩
    · show spec_l06Go_l1 l c s (k' + 1) b j = _
      rw [spec_l06Go_l1, decide_eq_false (show ¬ j < (l.length : Int) by omega)]; rfl
    · cases b with
      | true => exact (decide_eq_true fun i hi => ⟨hne i hi, q2 rfl i (by omega)⟩).symm
      | false => exact (decide_eq_false (q3 rfl)).symm

theorem go_val {x y : Col} (hx : x.is) (hy : y.is) (hpk : x.p = y.p) (hkk : x.k = y.k) :
    ∀ (d : Nat) (l : List Int) (u : Nat) (s : Sea) (k : Nat), l.length + d = x.p.toNat → (∀ z ∈ l, 0 ≤ z ∧ z < x.p) → (∀ j : Nat, u.testBit j = decide ((j : Int) ∈ l)) → u < 2 ^ 17 → GoodS x y s → s.count < s.most → d + 200 ≤ k →
      spec_l06Go k s l u = some (runT cbS (exts x.p.toNat (okR x y) d l) s).2 := by
  have hp := hx.1
  have hK : ((x.p.toNat : Nat) : Int) = x.p := by omega
  intro d
  induction d with
  | zero =>
    intro l u s k hl hr hb hu hs hc hk
    obtain ⟨k, rfl⟩ : ∃ q, k = q + 1 := ⟨k - 1, by omega⟩
    have h0 := hs.c0
    have hm := hs.m
    rw [exts_zero, runT_one, spec_l06Go, spec_l06Go_body, hs.hx, if_pos (decide_eq_true (by omega)), own_val l (by omega)]
    have hw : w64 (s.count + 1) = s.count + 1 := w64_id (by omega)
    by_cases e : s.count = 0
    · rw [if_pos (decide_eq_true e), Option.bind_some, Option.bind_some]
      dsimp only
      rw [hw]
      unfold cbS
      rw [if_pos e, hs.hx]
    · rw [if_neg (by simpa using e), Option.bind_some, hw]
      unfold cbS
      rw [if_neg e]
  | succ d ih =>
    intro l u s k hl hr hb hu hs hc hk
    obtain ⟨k, rfl⟩ : ∃ q, k = q + 1 := ⟨k - 1, by omega⟩
    rw [exts_succ, spec_l06Go, spec_l06Go_body, hs.hx, if_neg (by simp only [decide_eq_true_eq]; omega)]
    have hu63 : u < 2 ^ 63 := Nat.lt_of_lt_of_le hu (Nat.pow_le_pow_right (by omega) (by omega))
    have hstop : ∀ (c : Nat) (t : Sea), t.x = x → ¬ t.count < t.most → ∀ k', spec_l06Go_l0 k (spec_l06Go k) l u (k' + 1) c t = some t := fun c t htx h k' => by
      rw [spec_l06Go_l0, decide_eq_false h]
      simp [letO]
    have hstep : ∀ (c : Nat) (t : Sea) (k' : Nat), (c : Int) < x.p → GoodS x y t → t.count < t.most → spec_l06Go_l0 k (spec_l06Go k) l u (k' + 1) c t = if okR x y l c then (spec_l06Go k t (l ++ [(c : Int)]) ((u ||| 2 ^ c : Nat) : Int)).bind fun r => spec_l06Go_l0 k (spec_l06Go k) l u k' ((c : Int) + 1) r else spec_l06Go_l0 k (spec_l06Go k) l u k' ((c : Int) + 1) t := fun c t k' hcx ht htc => by
      have hwr : IntKind.u64.wrap (c : Int) = c := u64_id (by omega)
      have hor : bOr .i64 (u : Int) (bShl .i64 1 (c : Int)) = ((u ||| 2 ^ c : Nat) : Int) := by
        rw [bShl_one (by omega), bOr_nat hu63 (Nat.pow_lt_pow_right (by omega) (by omega))]
      rw [spec_l06Go_l0, ht.hx, decide_eq_true hcx, decide_eq_true htc, hwr, bit_eq hu63 (by omega), hor, w64_succ (by omega) hcx (by omega), ht.h1, ht.h2, tyL_len, tyL_len, hb c]
      simp only [letO, if_true, Option.bind_some]
      rw [if_pos (show (0 : Int) ≤ (c : Int) by omega)]
      by_cases hm : (c : Int) ∈ l
      · have : okR x y l c = false := by
          unfold okR
          obtain ⟨i, hi, e⟩ := mem_getD.1 hm
          rw [decide_eq_false (show ¬ nearR x y l c from fun h => (h i hi).1 e), Bool.and_false]
        rw [this]
        simp [hm]
      · rw [decide_eq_false hm]
        simp only [Bool.false_eq_true, if_false, show ((0 : Int) = 1) = False by simp, decide_false]
        rw [if_pos ⟨by omega, by omega⟩, if_pos ⟨by omega, by omega⟩, Int.toNat_natCast, Int.toNat_natCast, tyL_get (by omega), tyL_get (by omega), Option.bind_some]
        have hty := ty_dgs hx hy hkk l.length c
        unfold okR
        by_cases he : dgs x l.length = dgs y c
        · have he' := hty.2 he
          rw [decide_eq_true he, decide_eq_true (show ((tyN x l.length x.k.toNat : Nat) : Int) = ((tyN y c y.k.toNat : Nat) : Int) by omega), Bool.true_and]
          simp only [Bool.not_true, Bool.false_eq_true, if_false, Option.bind_some]
          rw [fits_val hx hy t ht hpk l (by omega) hr c hcx hm k (by omega), Option.bind_some]
          by_cases hn : nearR x y l c
          · rw [decide_eq_true hn]
            simp only [if_true]
            rw [own_val l (by omega), Option.bind_some, if_pos (by simp only [List.length_singleton]; omega)]
            cases spec_l06Go k t (l ++ [(c : Int)]) ((u ||| 2 ^ c : Nat) : Int) <;> rfl
          · rw [decide_eq_false hn]
            simp
        · have he' : ¬ tyN x l.length x.k.toNat = tyN y c y.k.toNat := fun h => he (hty.1 h)
          rw [decide_eq_false he, decide_eq_false (show ¬ ((tyN x l.length x.k.toNat : Nat) : Int) = ((tyN y c y.k.toNat : Nat) : Int) by omega), Bool.false_and]
          simp
    have := loopI (f := fun k' c (t : Sea) => spec_l06Go_l0 k (spec_l06Go k) l u k' c t) x.p 0
      (fun c t => c ≤ x.p ∧ t = (runT cbS (epre x.p.toNat (okR x y) d l c.toNat) s).2) (fun r => r = (runT cbS (epre x.p.toNat (okR x y) d l x.p.toNat) s).2) ?_ ?_ k 0 s (by omega) (by omega) ⟨by omega, rfl⟩
    · obtain ⟨r, e, rfl⟩ := this
      exact e
    · rintro k' j t h0 h1 ⟨q1, rfl⟩
      obtain ⟨c, rfl⟩ := nat_of h0
      rw [Int.toNat_natCast]
      obtain ⟨A, hA⟩ : ∃ A, A = epre x.p.toNat (okR x y) d l c := ⟨_, rfl⟩
      rw [← hA]
      have hg := runS_good A s hs hc
      have hf := runS_flag A s hc
      obtain ⟨B, hB⟩ := epre_more (K := x.p.toNat) (ok := okR x y) (n := d) (l := l) c (x.p.toNat - c)
      rw [show c + (x.p.toNat - c) = x.p.toNat by omega, ← hA] at hB
      have hpre := epre_succ (K := x.p.toNat) (ok := okR x y) (n := d) (l := l) c
      rw [← hA] at hpre
      by_cases hq : (runT cbS A s).2.count < (runT cbS A s).2.most
      · rw [decide_eq_true hq] at hf
        left
        cases hok : okR x y l c with
        | false =>
          refine ⟨(runT cbS A s).2, ?_, by omega, ?_⟩
          · show spec_l06Go_l0 k (spec_l06Go k) l u (k' + 1) c _ = _
            rw [hstep c _ k' h1 hg hq, hok, if_neg (by simp)]
          · rw [show ((c : Int) + 1).toNat = c + 1 by omega, hpre]
            unfold esub
            rw [hok, if_neg (by simp), List.append_nil]
        | true =>
          have hmem : (c : Int) ∉ l := fun hm => by
            unfold okR at hok
            rw [Bool.and_eq_true, decide_eq_true_eq, decide_eq_true_eq] at hok
            obtain ⟨i, hi, e⟩ := mem_getD.1 hm
            exact (hok.2 i hi).1 e
          have := ih (l ++ [(c : Int)]) (u ||| 2 ^ c) (runT cbS A s).2 k (by simp; omega) (fun z hz => by
            rcases List.mem_append.1 hz with w | w
            · exact hr z w
            · simp at w; omega) (fun j => by
            have e1 : ((j : Int) ∈ l ++ [(c : Int)]) ↔ ((j : Int) ∈ l ∨ c = j) := by
              rw [List.mem_append, List.mem_singleton]
              constructor
              · rintro (h | h)
                · exact .inl h
                · exact .inr (by omega)
              · rintro (h | h)
                · exact .inl h
                · exact .inr (by omega)
            rw [add_bit, hb j, decide_eq_decide.2 e1, Bool.decide_or]) (Nat.or_lt_two_pow hu (Nat.pow_lt_pow_right (by omega) (by omega))) hg hq (by omega)
          refine ⟨(runT cbS (exts x.p.toNat (okR x y) d (l ++ [(c : Int)])) (runT cbS A s).2).2, ?_, by omega, ?_⟩
          · show spec_l06Go_l0 k (spec_l06Go k) l u (k' + 1) c _ = _
            rw [hstep c _ k' h1 hg hq, hok, if_pos rfl, this, Option.bind_some]
          · rw [show ((c : Int) + 1).toNat = c + 1 by omega, hpre, runT_app, hf, if_pos rfl]
            unfold esub
            rw [hok, if_pos rfl]
      · rw [decide_eq_false hq] at hf
        right
        refine ⟨(runT cbS A s).2, hstop c _ hg.hx hq k', ?_⟩
        rw [hB, runT_app, hf, if_neg (by simp)]
    · rintro k' j t h0 h1 ⟨q1, rfl⟩
      refine ⟨(runT cbS (epre x.p.toNat (okR x y) d l j.toNat) s).2, ?_, by rw [show j.toNat = x.p.toNat by omega]⟩
      show spec_l06Go_l0 k (spec_l06Go k) l u (k' + 1) j _ = _
      have hg := runS_good (epre x.p.toNat (okR x y) d l j.toNat) s hs hc
      rw [spec_l06Go_l0, hg.hx, decide_eq_false (show ¬ j < x.p by omega)]
      simp [letO]
theorem between_val {k : Nat} (hk : 5000 ≤ k) {x y : Col} (hx : x.is) (hy : y.is) {m : Int} (hm : 1 ≤ m ∧ m ≤ 100000) : spec_l06Between k x y m = some (runT cbS (RN x y) ⟨x, y, tyL x, tyL y, m, 0, []⟩).2 := by
  have hp := hx.1
  unfold spec_l06Between
  rw [types_val hk hx, Option.bind_some, types_val hk hy, Option.bind_some]
  by_cases hpk : x.p = y.p ∧ x.k = y.k
  · have := go_val hx hy hpk.1 hpk.2 x.p.toNat [] 0 ⟨x, y, tyL x, tyL y, m, 0, []⟩ k (by simp) (fun z hz => by simp at hz) (fun j => by simp) (by decide) ⟨rfl, rfl, rfl, rfl, by simp, by show (0 : Int) ≤ m; omega, hm.2⟩ (by show (0 : Int) < m; omega) (by omega)
    rw [RN_yes hpk, decide_eq_true hpk.1, decide_eq_true hpk.2]
    simp only [letO, Bool.not_true, Bool.false_eq_true, if_false, Option.bind_some]
    rw [show ((0 : Nat) : Int) = 0 from rfl] at this
    rw [this, Option.bind_some]
  · rw [RN_no hpk]
    by_cases h1 : x.p = y.p
    · rw [decide_eq_true h1, decide_eq_false (fun q => hpk ⟨h1, q⟩)]; rfl
    · rw [decide_eq_false h1]; rfl
/-- At most one. -/
theorem between_one {k : Nat} (hk : 5000 ≤ k) {x y : Col} (hx : x.is) (hy : y.is) : ∃ s, spec_l06Between k x y 1 = some s ∧ s.count = (if RN x y = [] then 0 else 1) ∧ s.first = (RN x y).headD [] := by
  refine ⟨_, between_val hk hx hy (by omega), ?_, ?_⟩
  · cases RN x y with
    | nil => rfl
    | cons a b => simp [runT, cbS]
  · cases RN x y with
    | nil => rfl
    | cons a b => simp [runT, cbS]
theorem specFind_val {k : Nat} (hk : 5000 ≤ k) {x y : Col} (hx : x.is) (hy : y.is) : spec_FindRenumbering k x y = if RN x y = [] then some ([], 4) else some ((RN x y).headD [], 0) := by
  classical
  unfold spec_FindRenumbering
  rw [specIs_eq k (by omega), specIs_eq k (by omega), decide_eq_true hx, decide_eq_true hy]
  simp only [Option.bind_some, Bool.not_true, Bool.false_eq_true, if_false]
  obtain ⟨s, e, h1, h2⟩ := between_one hk hx hy
  rw [e, Option.bind_some, h1, h2]
  by_cases h : RN x y = []
  · simp [h]
  · simp [h]
theorem specIso_val {k : Nat} (hk : 5000 ≤ k) {x y : Col} (hx : x.is) (hy : y.is) : spec_AreIsomorphic k x y = some (decide (RN x y ≠ []), 0) := by
  classical
  unfold spec_AreIsomorphic
  rw [specIs_eq k (by omega), specIs_eq k (by omega), decide_eq_true hx, decide_eq_true hy]
  simp only [Option.bind_some, Bool.not_true, Bool.false_eq_true, if_false]
  obtain ⟨s, e, h1, h2⟩ := between_one hk hx hy
  rw [e, Option.bind_some, h1]
  by_cases h : RN x y = []
  · simp [h]
  · simp [h]
end Go.Proofs.YtfnbhfobgimnjaaGreat
