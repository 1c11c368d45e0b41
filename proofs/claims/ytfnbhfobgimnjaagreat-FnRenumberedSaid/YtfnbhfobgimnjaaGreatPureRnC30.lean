/- Plain laws: orders one after the other, the first list that exchanges colours, by both sides. No conditions beyond those that each lemma states. -/
import Derived.Test.YtfnbhfobgimnjaaGreatPureRnB30
set_option linter.unusedVariables false
set_option linter.unusedSimpArgs false
namespace Go.Proofs.YtfnbhfobgimnjaaGreat
open Go Go.RowKit Ab

/-! ### Orders -/
def okD (l : List Int) (c : Nat) : Bool := decide ((c : Int) ∉ l)
def ordL (n : Nat) : List (List Int) := exts n okD n []
theorem ordL_ok {n : Nat} {q : List Int} (h : q ∈ ordL n) : isOrd q n := by
  have hlen := exts_len (K := n) (ok := okD) _ _ q h
  simp only [List.length_nil, Nat.zero_add] at hlen
  have hr := exts_range (K := n) (ok := okD) _ _ (fun z hz => by simp at hz) q h
  have hok := (exts_ok _ _ q h).2
  refine ⟨by omega, fun a ha => hr _ (mem_getD.2 ⟨a, ha, rfl⟩), fun a b hab hb e => ?_⟩
  obtain ⟨c, c1, c2, c3⟩ := hok b (by simp) hb
  unfold okD at c3
  rw [decide_eq_true_eq] at c3
  exact c3 (mem_getD.2 ⟨a, by simp; omega, by rw [← c2, ← e]; simp [List.getD, List.getElem?_take, hab]⟩)
theorem ordL_id (n : Nat) : (mapL n fun i => (i : Int)) ∈ ordL n := by
  have hl : (mapL n fun i => (i : Int)).length = n := mapL_length _ _
  refine mem_exts _ _ _ (by simp [hl]) (by simp) fun i _ hi => ⟨i, by omega, mapL_get _ _ _ (by omega), ?_⟩
  unfold okD
  rw [decide_eq_true_eq]
  intro hm
  obtain ⟨a, ha, e⟩ := mem_getD.1 hm
  have ha2 : a < i := by simp at ha; omega
  have : ((mapL n fun i => (i : Int)).take i).getD a 0 = (a : Int) := by
    rw [show ((mapL n fun i => (i : Int)).take i).getD a 0 = (mapL n fun i => (i : Int)).getD a 0 by simp [List.getD, List.getElem?_take, ha2]]
    exact mapL_get _ _ _ (by omega)
  omega
theorem pow6 {n d : Nat} (hn : n ≤ 6) (hd : d ≤ 6) : n ^ d ≤ 46656 := by
  have h1 : n ^ d ≤ 6 ^ d := Nat.pow_le_pow_left hn d
  have h2 : 6 ^ d ≤ 6 ^ 6 := Nat.pow_le_pow_right (by omega) hd
  have : 6 ^ 6 = 46656 := by decide
  omega
theorem epre_le {n d : Nat} {l : List Int} (c : Nat) (hc : c ≤ n) : (epre n okD d l c).length ≤ n ^ (d + 1) := by
  obtain ⟨B, hB⟩ := epre_more (K := n) (ok := okD) (n := d) (l := l) c (n - c)
  rw [show c + (n - c) = n by omega] at hB
  have := exts_count (K := n) (ok := okD) (d + 1) l
  rw [exts_succ, hB, List.length_append] at this
  omega
theorem implOrders_val (n : Nat) (hn : n ≤ 6) : ∀ (d : Nat) (l : List Int) (k : Nat), l.length + d = n → d + 200 ≤ k → impl_orders k n l = some (exts n okD d l) := by
  intro d
  induction d with
  | zero =>
    intro l k hl hk
    obtain ⟨k, rfl⟩ : ∃ q, k = q + 1 := ⟨k - 1, by omega⟩
    rw [impl_orders, impl_orders_body, exts_zero, if_pos (decide_eq_true (by unfold impl_size; omega))]
  | succ d ih =>
    intro l k hl hk
    obtain ⟨k, rfl⟩ : ∃ q, k = q + 1 := ⟨k - 1, by omega⟩
    rw [impl_orders, impl_orders_body, exts_succ, if_neg (by unfold impl_size; simp only [decide_eq_true_eq]; omega)]
    have := loopI (f := fun k' j (s : List (List Int)) => impl_orders_l0 k (impl_orders k) n l k' j s) (n : Int) 0 (fun j s => j ≤ n ∧ s = epre n okD d l j.toNat) (fun s => s = epre n okD d l n) ?_ ?_ k 0 [] (by omega) (by omega) ⟨by omega, rfl⟩
    · obtain ⟨s, e, rfl⟩ := this
      rw [e, Option.bind_some]
    · rintro k' j s h0 h1 ⟨q1, rfl⟩
      obtain ⟨c, rfl⟩ := nat_of h0
      left
      refine ⟨epre n okD d l (c + 1), ?_, by omega, by rw [show ((c : Int) + 1).toNat = c + 1 by omega]⟩
      show impl_orders_l0 k (impl_orders k) n l (k' + 1) c _ = _
      have e1 : slices_Contains k l c = some (decide ((c : Int) ∈ l)) := by
        rw [index_eq k l c (by omega) (by omega)]
        congr 1
        rw [decide_eq_decide]
        exact mem_getD.symm
      have hle := epre_le (n := n) (d := d) (l := l) (c + 1) (by omega)
      have hp6 := pow6 (n := n) (d := d + 1) hn (by omega)
      have hpre := epre_succ (K := n) (ok := okD) (n := d) (l := l) c
      rw [impl_orders_l0, if_pos (decide_eq_true h1), e1, Option.bind_some, w64_succ h0 h1 (by omega), Int.toNat_natCast]
      rw [hpre, List.length_append] at hle
      rw [hpre]
      unfold esub at hle ⊢
      by_cases hm : (c : Int) ∈ l
      · have : okD l c = false := decide_eq_false (fun h => h hm)
        rw [decide_eq_true hm, this, if_neg (by simp), if_neg (by simp), Option.bind_some, List.append_nil]
      · have hok : okD l c = true := decide_eq_true hm
        rw [hok, if_pos rfl] at hle
        rw [decide_eq_false hm, hok, Bool.not_false, if_pos rfl, if_pos rfl]
        have hr := ih (l ++ [(c : Int)]) k (by simp; omega) (by omega)
        cases l with
        | nil =>
          rw [List.nil_append] at hr hle
          rw [if_pos (show ([] : List Int).isEmpty = true from rfl), if_pos ⟨by simp, by simp⟩, hr, Option.bind_some, if_pos (by omega), Option.bind_some, List.nil_append]
        | cons a t =>
          have ecl : cloneA (a :: t) = some (a :: t) := by
            unfold cloneA
            rw [if_pos (by omega)]
          rw [if_neg (by simp), ecl, Option.bind_some, if_pos (by simp only [List.length_singleton]; omega), hr, Option.bind_some, if_pos (by omega), Option.bind_some]
    · rintro k' j s h0 h1 ⟨q1, rfl⟩
      refine ⟨epre n okD d l j.toNat, ?_, by rw [show j.toNat = n by omega]⟩
      show impl_orders_l0 k (impl_orders k) n l (k' + 1) j _ = _
      rw [impl_orders_l0, if_neg (by simp only [decide_eq_true_eq]; omega)]
theorem known_val (l : List Int) (c : Int) (hl : l.length ≤ 1000) (k : Nat) (hk : l.length + 1 ≤ k) : spec_l06Orders_l1 l c k false 0 = some (decide (c ∈ l)) := by
  have := loopI (f := fun k' j (b : Bool) => spec_l06Orders_l1 l c k' b j) (l.length : Int) 0 (fun j b => j ≤ l.length ∧ (b = true ↔ ∃ i : Nat, (i : Int) < j ∧ l.getD i 0 = c)) (fun r => r = decide (c ∈ l)) ?_ ?_ k 0 false (by omega) (by omega) ⟨by omega, by simp; intro i hi; omega⟩
  · obtain ⟨r, e, rfl⟩ := this
    exact e
  · rintro k' j b h0 h1 ⟨q1, q2⟩
    obtain ⟨i, rfl⟩ := nat_of h0
    left
    refine ⟨b || decide (l.getD i 0 = c), ?_, by omega, ?_⟩
    · show spec_l06Orders_l1 l c (k' + 1) b i = _
      rw [spec_l06Orders_l1, if_pos (decide_eq_true h1), w64_succ h0 h1 (by omega)]
      cases b with
      | true => rfl
      | false =>
        rw [if_neg (by simp), if_pos ⟨h0, h1⟩, Option.bind_some, Int.toNat_natCast, Bool.false_or]
    · rw [Bool.or_eq_true, decide_eq_true_eq, q2]
      constructor
      · rintro (⟨a, h1, h2⟩ | h)
        · exact ⟨a, by omega, h2⟩
        · exact ⟨i, by omega, h⟩
      · rintro ⟨a, h1, h2⟩
        rcases Nat.lt_or_ge a i with w | w
        · exact .inl ⟨a, by omega, h2⟩
        · exact .inr (by rw [show i = a by omega]; exact h2)
  · rintro k' j b h0 h1 ⟨q1, q2⟩
    refine ⟨b, ?_, ?_⟩
    · show spec_l06Orders_l1 l c (k' + 1) b j = _
      rw [spec_l06Orders_l1, if_neg (by simp only [decide_eq_true_eq]; omega)]
    · have : b = true ↔ c ∈ l := by
        rw [q2, mem_getD]
        constructor
        · rintro ⟨a, h1, h2⟩; exact ⟨a, by omega, h2⟩
        · rintro ⟨a, h1, h2⟩; exact ⟨a, by omega, h2⟩
      by_cases hm : c ∈ l
      · rw [decide_eq_true hm, this.2 hm]
      · rw [decide_eq_false hm]
        cases b with
        | true => exact absurd (this.1 rfl) hm
        | false => rfl
theorem specOrders_val (n : Nat) (hn : n ≤ 6) : ∀ (d : Nat) (l : List Int) (k : Nat), l.length + d = n → d + 200 ≤ k → spec_l06Orders k l n = some (exts n okD d l) := by
  intro d
  induction d with
  | zero =>
    intro l k hl hk
    obtain ⟨k, rfl⟩ : ∃ q, k = q + 1 := ⟨k - 1, by omega⟩
    rw [spec_l06Orders, spec_l06Orders_body, exts_zero, if_pos (decide_eq_true (by omega))]
  | succ d ih =>
    intro l k hl hk
    obtain ⟨k, rfl⟩ : ∃ q, k = q + 1 := ⟨k - 1, by omega⟩
    rw [spec_l06Orders, spec_l06Orders_body, exts_succ, if_neg (by simp only [decide_eq_true_eq]; omega)]
    have := loopI (f := fun k' j (s : List (List Int)) => spec_l06Orders_l0 k (spec_l06Orders k) l n k' j s) (n : Int) 0 (fun j s => j ≤ n ∧ s = epre n okD d l j.toNat) (fun s => s = epre n okD d l n) ?_ ?_ k 0 [] (by omega) (by omega) ⟨by omega, rfl⟩
    · obtain ⟨s, e, rfl⟩ := this
      rw [e, Option.bind_some]
    · rintro k' j s h0 h1 ⟨q1, rfl⟩
      obtain ⟨c, rfl⟩ := nat_of h0
      left
      refine ⟨epre n okD d l (c + 1), ?_, by omega, by rw [show ((c : Int) + 1).toNat = c + 1 by omega]⟩
      show spec_l06Orders_l0 k (spec_l06Orders k) l n (k' + 1) c _ = _
      have hle := epre_le (n := n) (d := d) (l := l) (c + 1) (by omega)
      have hp6 := pow6 (n := n) (d := d + 1) hn (by omega)
      have hpre := epre_succ (K := n) (ok := okD) (n := d) (l := l) c
      rw [spec_l06Orders_l0, if_pos (decide_eq_true h1), known_val l c (by omega) k (by omega), Option.bind_some, w64_succ h0 h1 (by omega), Int.toNat_natCast]
      rw [hpre, List.length_append] at hle
      rw [hpre]
      unfold esub at hle ⊢
      by_cases hm : (c : Int) ∈ l
      · have : okD l c = false := decide_eq_false (fun h => h hm)
        rw [decide_eq_true hm, this, if_neg (by simp), if_neg (by simp), Option.bind_some, List.append_nil]
      · have hok : okD l c = true := decide_eq_true hm
        rw [hok, if_pos rfl] at hle
        rw [decide_eq_false hm, hok, Bool.not_false, if_pos rfl, if_pos rfl]
        have hr := ih (l ++ [(c : Int)]) k (by simp; omega) (by omega)
        rw [own_val l (by omega), Option.bind_some, if_pos (by simp only [List.length_singleton]; omega), hr, Option.bind_some, if_pos (by omega), Option.bind_some]
    · rintro k' j s h0 h1 ⟨q1, rfl⟩
      refine ⟨epre n okD d l j.toNat, ?_, by rw [show j.toNat = n by omega]⟩
      show spec_l06Orders_l0 k (spec_l06Orders k) l n (k' + 1) j _ = _
      rw [spec_l06Orders_l0, if_neg (by simp only [decide_eq_true_eq]; omega)]

/-! ### Colours exchanged -/
def faL (x y : Col) : List (List Int) → Option (List Int × List Int)
  | [] => none
  | q :: t => if RN (exC x q) y = [] then faL x y t else some (q, (RN (exC x q) y).headD [])
theorem faL_some {x y : Col} : ∀ (L : List (List Int)) (q p : List Int), faL x y L = some (q, p) → q ∈ L ∧ p ∈ RN (exC x q) y
  | [], _, _, h => by simp [faL] at h
  | a :: t, q, p, h => by
    rw [faL] at h
    split at h
    · obtain ⟨h1, h2⟩ := faL_some t q p h
      exact ⟨List.mem_cons_of_mem _ h1, h2⟩
    · rename_i hne
      cases h
      refine ⟨by simp, ?_⟩
      cases hR : RN (exC x a) y with
      | nil => exact absurd hR hne
      | cons b s => simp
theorem faL_none {x y : Col} : ∀ (L : List (List Int)), faL x y L = none → ∀ q ∈ L, RN (exC x q) y = []
  | [], _, q, h => by simp at h
  | a :: t, h, q, hq => by
    rw [faL] at h
    split at h
    · rcases List.mem_cons.1 hq with rfl | hq
      · assumption
      · exact faL_none t h q hq
    · cases h
def FA (x y : Col) : Option (List Int × List Int) := faL x y (ordL x.k.toNat)
theorem exC_p (x : Col) (hp : 1 ≤ x.p ∧ x.p ≤ 17) (q : List Int) : (exC x q).p = x.p := by
  show ((x.p.toNat : Nat) : Int) = x.p
  omega
theorem ordK {x : Col} (hx : x.is) {q : List Int} (h : q ∈ ordL x.k.toNat) : isOrd q x.k := by
  have := ordL_ok h
  rwa [show ((x.k.toNat : Nat) : Int) = x.k by have := hx.2.1; omega] at this
theorem implAlike_val {k : Nat} (hk : 5000 ≤ k) {x y : Col} (hx : x.is) (hy : y.is) : impl_FindAlike k x y = match FA x y with | none => some ([], none, 4) | some (q, p) => some (q, some p, 0) := by
  classical
  have hkk := hx.2.1
  have ek : ((x.k.toNat : Nat) : Int) = x.k := by omega
  unfold impl_FindAlike impl_Colouring_alike
  rw [isColouring_eq k (by omega), isColouring_eq k (by omega), decide_eq_true hx, decide_eq_true hy]
  simp only [Option.bind_some, Bool.not_true, Bool.false_eq_true, if_false]
  have ho := implOrders_val x.k.toNat (by omega) x.k.toNat [] k (by simp) (by omega)
  rw [ek] at ho
  rw [ho, Option.bind_some]
  obtain ⟨L, hL⟩ : ∃ L, L = exts x.k.toNat okD x.k.toNat [] := ⟨_, rfl⟩
  have hfa : FA x y = faL x y L := by rw [hL]; rfl
  have hlen : L.length ≤ 46656 := by
    have := exts_count (K := x.k.toNat) (ok := okD) x.k.toNat []
    have h6 := pow6 (n := x.k.toNat) (d := x.k.toNat) (by omega) (by omega)
    rw [hL]
    omega
  have hmem : ∀ q ∈ L, isOrd q x.k := fun q hq => ordK hx (by rw [hL] at hq; exact hq)
  have hl256 : L.length ≤ 256 := by
    have := exts_count (K := x.k.toNat) (ok := okD) x.k.toNat []
    rw [hL]
    have h4 : x.k.toNat ^ x.k.toNat ≤ 4 ^ x.k.toNat := Nat.pow_le_pow_left (by omega) _
    have h5 : 4 ^ x.k.toNat ≤ 4 ^ 4 := Nat.pow_le_pow_right (by omega) (by omega)
    have h6 : 4 ^ 4 = 256 := by decide
    omega
  rw [← hL, hfa]
  rw [if_pos ⟨by omega, by omega, by omega⟩]
  have hdrop : (L.take L.length).drop (0 : Int).toNat = L := by simp
  have := loopI (f := fun k' j (_ : Unit) => impl_Colouring_alike_l0 k x y 0 L k' j) (L.length : Int) 0 (fun j _ => j ≤ L.length ∧ faL x y (L.drop j.toNat) = faL x y L)
    (fun r => r = match faL x y L with | none => .inl () | some (q, p) => .inr (q, some p, true)) ?_ ?_ k 0 () (by omega) (by omega) ⟨by omega, by simp⟩
  · obtain ⟨r, e, rfl⟩ := this
    rw [e]
    cases faL x y L with
    | none => rfl
    | some v => rfl
  · rintro k' j _ h0 h1 ⟨q1, q2⟩
    obtain ⟨i, rfl⟩ := nat_of h0
    rw [Int.toNat_natCast] at q2
    have hi : i < L.length := by omega
    have hq : L.getD i [] = L[i] := by simp [List.getD, hi]
    have hoq := hmem L[i] (List.getElem_mem hi)
    have hql := hoq.1
    have hexis := exC_is hx hoq
    have hdr : faL x y (L.drop i) = if RN (exC x L[i]) y = [] then faL x y (L.drop (i + 1)) else some (L[i], (RN (exC x L[i]) y).headD []) := by
      rw [List.drop_eq_getElem_cons hi, faL]
    rw [hdr] at q2
    have hrec : impl_Colouring_recoloured k x x.k (fun a0 => impl_Colouring_alike_c1 a0 L[i]) = some (exC x L[i]) := recol_val hx x.k _ (fun c => L[i].getD c.toNat 0) (fun c h0 h1 => by
      unfold impl_Colouring_alike_c1
      rw [if_pos (by omega)]) (by omega)
    have hstep : impl_Colouring_alike_l0 k x y 0 L (k' + 1) i = if RN (exC x L[i]) y = [] then impl_Colouring_alike_l0 k x y 0 L k' ((i : Int) + 1) else some (.inr (L[i], some ((RN (exC x L[i]) y).headD []), true)) := by
      rw [impl_Colouring_alike_l0, hdrop, if_pos (decide_eq_true h1), if_pos ⟨h0, h1⟩, Int.toNat_natCast, hq, hrec, Option.bind_some, renumbering_val hk hexis hy, Option.bind_some, w64_succ h0 h1 (by omega)]
      by_cases e : RN (exC x L[i]) y = []
      · rw [if_pos e]; simp [e]
      · rw [if_neg e]; simp [e]
    by_cases e : RN (exC x L[i]) y = []
    · left
      rw [if_pos e] at q2
      refine ⟨(), ?_, by omega, by rw [show ((i : Int) + 1).toNat = i + 1 by omega]; exact q2⟩
      show impl_Colouring_alike_l0 k x y 0 L (k' + 1) i = _
      rw [hstep, if_pos e]
    · right
      rw [if_neg e] at q2
      refine ⟨.inr (L[i], some ((RN (exC x L[i]) y).headD []), true), ?_, by rw [← q2]⟩
      show impl_Colouring_alike_l0 k x y 0 L (k' + 1) i = _
      rw [hstep, if_neg e]
  · rintro k' j _ h0 h1 ⟨q1, q2⟩
    refine ⟨.inl (), ?_, ?_⟩
    · show impl_Colouring_alike_l0 k x y 0 L (k' + 1) j = _
      rw [impl_Colouring_alike_l0, hdrop, if_neg (by simp only [decide_eq_true_eq]; omega)]
    · rw [show j.toNat = L.length by omega, List.drop_length] at q2
      rw [← q2]; rfl
theorem specAlike_val {k : Nat} (hk : 5000 ≤ k) {x y : Col} (hx : x.is) (hy : y.is) : spec_FindAlike k x y = match FA x y with | none => some ([], [], 4) | some (q, p) => some (q, p, 0) := by
  classical
  have hkk := hx.2.1
  have ek : ((x.k.toNat : Nat) : Int) = x.k := by omega
  unfold spec_FindAlike
  rw [specIs_eq k (by omega), specIs_eq k (by omega), decide_eq_true hx, decide_eq_true hy]
  simp only [Option.bind_some, Bool.not_true, Bool.false_eq_true, if_false]
  have ho := specOrders_val x.k.toNat (by omega) x.k.toNat [] k (by simp) (by omega)
  rw [ek] at ho
  rw [ho, Option.bind_some]
  obtain ⟨L, hL⟩ : ∃ L, L = exts x.k.toNat okD x.k.toNat [] := ⟨_, rfl⟩
  have hfa : FA x y = faL x y L := by rw [hL]; rfl
  have hmem : ∀ q ∈ L, isOrd q x.k := fun q hq => ordK hx (by rw [hL] at hq; exact hq)
  have hl256 : L.length ≤ 256 := by
    have := exts_count (K := x.k.toNat) (ok := okD) x.k.toNat []
    rw [hL]
    have h4 : x.k.toNat ^ x.k.toNat ≤ 4 ^ x.k.toNat := Nat.pow_le_pow_left (by omega) _
    have h5 : 4 ^ x.k.toNat ≤ 4 ^ 4 := Nat.pow_le_pow_right (by omega) (by omega)
    have h6 : 4 ^ 4 = 256 := by decide
    omega
  rw [← hL, hfa]
  have := loopI (f := fun k' j (_ : Unit) => spec_FindAlike_l0 k x y L k' j) (L.length : Int) 0 (fun j _ => j ≤ L.length ∧ faL x y (L.drop j.toNat) = faL x y L)
    (fun r => r = match faL x y L with | none => .inl () | some (q, p) => .inr (q, p, 0)) ?_ ?_ k 0 () (by omega) (by omega) ⟨by omega, by simp⟩
  · obtain ⟨r, e, rfl⟩ := this
    rw [e]
    cases faL x y L with
    | none => rfl
    | some v => rfl
  · rintro k' j _ h0 h1 ⟨q1, q2⟩
    obtain ⟨i, rfl⟩ := nat_of h0
    rw [Int.toNat_natCast] at q2
    have hi : i < L.length := by omega
    have hq : L.getD i [] = L[i] := by simp [List.getD, hi]
    have hoq := hmem L[i] (List.getElem_mem hi)
    have hexis := exC_is hx hoq
    have hdr : faL x y (L.drop i) = if RN (exC x L[i]) y = [] then faL x y (L.drop (i + 1)) else some (L[i], (RN (exC x L[i]) y).headD []) := by
      rw [List.drop_eq_getElem_cons hi, faL]
    rw [hdr] at q2
    obtain ⟨s, hs, hs1, hs2⟩ := between_one hk hexis hy
    have htu : spec_l01Turned k x L[i] = some (exC x L[i]) := turned_val hx L[i] hoq.1 (by omega)
    have hstep : spec_FindAlike_l0 k x y L (k' + 1) i = if RN (exC x L[i]) y = [] then spec_FindAlike_l0 k x y L k' ((i : Int) + 1) else some (.inr (L[i], (RN (exC x L[i]) y).headD [], 0)) := by
      rw [spec_FindAlike_l0, if_pos (decide_eq_true h1), if_pos ⟨h0, h1⟩, Int.toNat_natCast, hq, htu, Option.bind_some, hs, Option.bind_some, hs1, hs2, w64_succ h0 h1 (by omega)]
      by_cases e : RN (exC x L[i]) y = []
      · rw [if_pos e, if_pos e]; simp
      · rw [if_neg e, if_neg e]; simp [hi]
    by_cases e : RN (exC x L[i]) y = []
    · left
      rw [if_pos e] at q2
      refine ⟨(), ?_, by omega, by rw [show ((i : Int) + 1).toNat = i + 1 by omega]; exact q2⟩
      show spec_FindAlike_l0 k x y L (k' + 1) i = _
      rw [hstep, if_pos e]
    · right
      rw [if_neg e] at q2
      refine ⟨.inr (L[i], (RN (exC x L[i]) y).headD [], 0), ?_, by rw [← q2]⟩
      show spec_FindAlike_l0 k x y L (k' + 1) i = _
      rw [hstep, if_neg e]
  · rintro k' j _ h0 h1 ⟨q1, q2⟩
    refine ⟨.inl (), ?_, ?_⟩
    · show spec_FindAlike_l0 k x y L (k' + 1) j = _
      rw [spec_FindAlike_l0, if_neg (by simp only [decide_eq_true_eq]; omega)]
    · rw [show j.toNat = L.length by omega, List.drop_length] at q2
      rw [← q2]; rfl
/-- What leads without exchange is found with the first list already. -/
theorem exC_id {x : Col} (hx : x.is) : exC x (mapL x.k.toNat fun i => (i : Int)) = x := by
  have hp := hx.1
  have hkk := hx.2.1
  conv => rhs; rw [is_mk hx]
  refine mkC_congr (by omega) _ fun a b hab hb => ?_
  have := is_cc hx (a := a) (b := b) (by omega) (by omega) (by omega)
  rw [mapL_get _ _ _ (by omega)]
  omega
theorem FA_of_RN {x y : Col} (hx : x.is) (h : RN x y ≠ []) : FA x y ≠ none := fun e => h (by
  have := faL_none _ e _ (ordL_id x.k.toNat)
  rwa [exC_id hx] at this)
end Go.Proofs.YtfnbhfobgimnjaaGreat
