/- Plain laws: the number of colourings that avoid sizes, and the first one: both sides. No conditions beyond those that each lemma states. -/
import Derived.Test.YtfnbhfobgimnjaaPureAvB27
set_option linter.unusedVariables false
set_option linter.unusedSimpArgs false
namespace Go.Proofs.Ytfnbhfobgimnjaa
open Go Go.RowKit Ab

theorem min_val (l : List Int) (hl : l ≠ []) (k : Nat) (hk : l.length + 1 ≤ k) (hb : l.length ≤ 1000) : ∃ m, slices_Min k l = some m ∧ m ∈ l ∧ ∀ z ∈ l, m ≤ z := by
  have hpos := List.length_pos_iff.2 hl
  unfold slices_Min
  rw [if_neg (by simp only [decide_eq_true_eq]; omega), Option.bind_some, if_pos ⟨by omega, by omega⟩]
  have hget : ∀ j : Nat, j < l.length → l.getD j 0 ∈ l := fun j hj => mem_getD.2 ⟨j, hj, rfl⟩
  have := loopI (f := fun k' i (m : Int) => slices_Min_l0 l k' m i) (l.length : Int) 1 (fun i m => i ≤ l.length ∧ m ∈ l ∧ ∀ j : Nat, (j : Int) < i → m ≤ l.getD j 0) (fun m => m ∈ l ∧ ∀ z ∈ l, m ≤ z) ?_ ?_ k 1 (l.getD (0 : Int).toNat 0) (by omega) (by omega) ⟨by omega, hget 0 (by omega), fun j hj => by
    have : j = 0 := by omega
    subst this; exact Int.le_refl _⟩
  · obtain ⟨m, e, h1, h2⟩ := this
    exact ⟨m, by rw [e]; rfl, h1, h2⟩
  · rintro k' i m h0 h1 ⟨q1, q2, q3⟩
    left
    refine ⟨if l.getD i.toNat 0 < m then l.getD i.toNat 0 else m, ?_, by omega, ?_, fun j hj => ?_⟩
    · show slices_Min_l0 l (k' + 1) m i = _
      rw [slices_Min_l0, if_pos (decide_eq_true h1), if_pos ⟨by omega, h1⟩, w64_succ (by omega) h1 (by omega)]
    · split
      · exact hget _ (by omega)
      · exact q2
    · by_cases hji : (j : Int) = i
      · rw [show i.toNat = j by omega]
        split <;> omega
      · have := q3 j (by omega)
        split <;> omega
  · rintro k' i m h0 h1 ⟨q1, q2, q3⟩
    refine ⟨m, ?_, q2, fun z hz => ?_⟩
    · show slices_Min_l0 l (k' + 1) m i = _
      rw [slices_Min_l0, if_neg (by simp only [decide_eq_true_eq]; omega)]
    · obtain ⟨j, hj, rfl⟩ := mem_getD.1 hz
      exact q3 j (by omega)

/-- All colourings of n points that avoid sizes, as flat lists. -/
def AV (n : Nat) (K : Int) (sizes : List Int) : List (List Int) := exts K.toNat (okF n K sizes) (tri n) []
def One (sizes : List Int) : Prop := 1 ∈ sizes
theorem avoids_one {K : Int} (hK : 1 ≤ K ∧ K ≤ 4) {sizes : List Int} (hz : zOK K sizes) : avoidsP (flC 1 K []) sizes ↔ ¬ One sizes := by
  have hp : pts (flC 1 K []) = [0] := by
    unfold pts
    show ir 0 (1 : Int).toNat = _
    rw [show (1 : Int).toNat = 0 + 1 from rfl, ir_next (by omega), ir_end (Nat.le_refl _)]; rfl
  unfold avoidsP
  rw [hp]
  constructor
  · intro h h1
    obtain ⟨c, hc, e⟩ := mem_getD.1 h1
    have := h c hc
    rw [e, show (1 : Int).toNat = 0 + 1 from rfl, cl_cons, cl_zero] at this
    simp at this
  · intro h c hc
    have hm := mem_getD.2 ⟨c, hc, rfl⟩
    have h1 := hz.2 _ hm
    have h2 : sizes.getD c 0 ≠ 1 := fun e => h (by rw [e] at hm; exact hm)
    exact cl_short _ _ _ (by show 1 < _; omega)

theorem runC_val {n : Nat} {K : Int} : ∀ (L : List (List Int)) (v : Int), 0 ≤ v → v + L.length ≤ 1099511627776 → runT (fun l s => impl_CountAvoiding_c1 (flC n K l) s) L v = (true, v + L.length)
  | [], v, _, _ => by simp [runT]
  | a :: t, v, h0, h1 => by
    rw [List.length_cons] at h1
    have e : impl_CountAvoiding_c1 (flC n K a) v = (true, v + 1) := by unfold impl_CountAvoiding_c1; rw [w64_id (by omega)]
    rw [runT, if_pos (by rw [e]), e, runC_val t (v + 1) (by omega) (by omega), List.length_cons]
    congr 1; omega
theorem inK_nil {K : Int} : inK K [] := fun z hz => by simp at hz

theorem allCount_val {k : Nat} (hk : 2000 ≤ k) {n : Nat} (hn1 : 1 ≤ n) (hn : n ≤ 17) {K : Int} (hK : 1 ≤ K ∧ K ≤ 4) {sizes : List Int} (hz : zOK K sizes) (hone : ¬ One sizes) (hB : (AV n K sizes).length ≤ 1000000) :
    impl_avoiding_on_CountAvoiding_c1 k ⟨n, K, B136.zero⟩ sizes 0 1 0 = impl_avoiding_on_CountAvoiding_c1 k (flC n K []) sizes ((0 : Nat) : Int) ((1 : Nat) : Int) 0 ∧ ∃ X, impl_avoiding_on_CountAvoiding_c1 k (flC n K []) sizes ((0 : Nat) : Int) ((1 : Nat) : Int) 0 = some (true, X, ((AV n K sizes).length : Int)) := by
  refine ⟨by rw [flC_start]; rfl, ?_⟩
  have h136 := tri_le hn
  obtain ⟨X, e, _⟩ := runV_CountAvoiding_c1 hn1 hn hK hz (tri n) [] 0 1 0 k (by simp) inK_nil (by omega) rfl (by omega) (by omega)
  unfold AV at hB
  rw [runC_val _ 0 (by omega) (by omega)] at e
  refine ⟨X, ?_⟩
  rw [e]
  unfold AV
  simp

theorem forb_val (k : Nat) (sizes : List Int) (K : Int) (hk : sizes.length + 1 ≤ k) (hl : sizes.length ≤ 1000) : ∃ b, impl_areForbidden k sizes K = some b ∧ (b = true ↔ zOK K sizes) := by
  classical
  unfold impl_areForbidden
  rw [areIn_val k sizes K 1 17 hk (by omega)]
  exact ⟨_, rfl, by rw [decide_eq_true_iff]; exact Iff.rfl⟩

/-! ### The reference's -/
theorem ext_step {n : Nat} (hn : n ≤ 17) {K : Int} (hK : 1 ≤ K ∧ K ≤ 4) {sizes l : List Int} {j : Nat} (hj1 : 1 ≤ j) (hj : j < n) (hl : inK K l) (hll : l.length = tri j) :
    exts K.toNat (okF n K sizes) (tri n - tri j) l = (EX (flC j K l) sizes).flatMap fun e => exts K.toNat (okF n K sizes) (tri n - tri (j + 1)) (l ++ e) := by
  have h1 := tri_succ j
  have h2 := tri_mono (show j + 1 ≤ n by omega)
  rw [show tri n - tri j = j + (tri n - tri (j + 1)) by omega, exts_split, ext_flat hn hK hj1 hj hl hll, List.flatMap_map]
theorem EX_inK {K : Int} (hK : 1 ≤ K ∧ K ≤ 4) {sizes l : List Int} {j : Nat} : ∀ e ∈ EX (flC j K l) sizes, inK K e ∧ e.length = j := fun e he => by
  have h2 := exts_range (K := K.toNat) (ok := okX (flC j K l) sizes) j [] (fun z hz => by simp at hz) e he
  refine ⟨fun z hz => ?_, EX_len e he⟩
  have := h2 z hz
  omega
theorem EX_le {K : Int} (hK : 1 ≤ K ∧ K ≤ 4) {sizes l : List Int} {j n : Nat} (hj : j ≤ n) : (EX (flC j K l) sizes).length ≤ K.toNat ^ n := by
  refine Nat.le_trans (exts_count _ _) ?_
  show K.toNat ^ (j : Int).toNat ≤ _
  rw [Int.toNat_natCast]
  exact Nat.pow_le_pow_right (by omega) hj
theorem take_flat {α β : Type} (f : α → List β) (L : List α) (i : Nat) : ((L.take i).flatMap f).length ≤ (L.flatMap f).length := by
  have : L.flatMap f = (L.take i).flatMap f ++ (L.drop i).flatMap f := by rw [← List.flatMap_append, List.take_append_drop]
  rw [this, List.length_append]; omega
theorem take_snoc {α β : Type} (f : α → List β) (L : List α) (i : Nat) (h : i < L.length) : (L.take (i + 1)).flatMap f = (L.take i).flatMap f ++ f L[i] := by
  rw [List.take_succ_eq_append_getElem h, List.flatMap_append]; simp

theorem number_val {n : Nat} (hn : n ≤ 17) {K : Int} (hK : 1 ≤ K ∧ K ≤ 4) {sizes : List Int} (hz : zOK K sizes) (hone : ¬ One sizes) (hB : K.toNat ^ n ≤ 1000) (hT : K.toNat ^ tri n ≤ 1000000) :
    ∀ (d j : Nat) (l : List Int) (k : Nat), j + d = n → 1 ≤ j → inK K l → l.length = tri j → 6000 + d ≤ k → spec_l05Number k (flC j K l) n sizes = some ((exts K.toNat (okF n K sizes) (tri n - tri j) l).length : Int) := by
  intro d
  induction d with
  | zero =>
    intro j l k hd hj1 hl hll hk
    obtain ⟨k, rfl⟩ : ∃ q, k = q + 1 := ⟨k - 1, by omega⟩
    obtain rfl : j = n := by omega
    rw [spec_l05Number, spec_l05Number_body, if_pos (decide_eq_true (show (flC j K l).p = (j : Int) from rfl)), Nat.sub_self, exts_zero]; rfl
  | succ d ih =>
    intro j l k hd hj1 hl hll hk
    obtain ⟨k, rfl⟩ : ∃ q, k = q + 1 := ⟨k - 1, by omega⟩
    have hall := all_val (k := k) (by omega) (x := flC j K l) (by show 1 ≤ (j : Int) ∧ (j : Int) ≤ 17; omega) hK (show szOK (flC j K l) sizes from hz) (fun z hz2 e => hone (by rw [e] at hz2; exact hz2)) 1048576 (by omega) (by omega)
    have hle := EX_le hK (sizes := sizes) (l := l) (show j ≤ n by omega)
    rw [List.take_of_length_le (by omega)] at hall
    have hIn := EX_inK hK (sizes := sizes) (l := l) (j := j)
    have hst := ext_step hn hK hj1 (show j < n by omega) hl hll (sizes := sizes)
    have hcount : (exts K.toNat (okF n K sizes) (tri n - tri j) l).length ≤ 1000000 := Nat.le_trans (exts_count _ _) (Nat.le_trans (Nat.pow_le_pow_right (by omega) (by omega)) hT)
    rw [hst] at hcount ⊢
    have his : (flC j K l).is := flC_is hj1 (by omega) hK hl (by omega)
    rw [spec_l05Number, spec_l05Number_body, if_neg (by show ¬ decide ((j : Int) = (n : Int)) = true; simp; omega)]
    rw [show ((1048576 : Nat) : Int) = 1048576 from rfl] at hall
    rw [hall, Option.bind_some]
    generalize hEX : EX (flC j K l) sizes = L at *
    generalize hf : (fun e : List Int => exts K.toNat (okF n K sizes) (tri n - tri (j + 1)) (l ++ e)) = f at *
    have := loopI (f := fun k' i (s : Int) => spec_l05Number_l0 k (spec_l05Number k) (flC j K l) n sizes L k' s i) (L.length : Int) 0 (fun i s => i ≤ L.length ∧ s = (((L.take i.toNat).flatMap f).length : Int)) (fun r => r = ((L.flatMap f).length : Int)) ?_ ?_ k 0 0 (by omega) (by omega) ⟨by omega, rfl⟩
    · obtain ⟨r, e, rfl⟩ := this
      rw [e]; rfl
    · rintro k' i s h0 h1 ⟨q1, rfl⟩
      left
      obtain ⟨a, rfl⟩ : ∃ a : Nat, i = a := ⟨i.toNat, by omega⟩
      have ha : a < L.length := by omega
      have hg : L.getD a [] = L[a] := by simp [ha]
      obtain ⟨m1, m2⟩ := hIn L[a] (List.getElem_mem ha)
      have hput : spec_l01Put k (flC j K l) L[a] = some (flC (j + 1) K (l ++ L[a])) := by
        rw [specPut_val his (by show (j : Int) < 17; omega) (by show ((L[a].length : Nat) : Int) = (j : Int); omega) (by omega), flC_put hj1 (by omega) hK hl hll m2]
      have hrec := ih (j + 1) (l ++ L[a]) k (by omega) (by omega) (inK_app hl m1) (by rw [List.length_append, m2, hll, tri_succ]) (by omega)
      have hfa : exts K.toNat (okF n K sizes) (tri n - tri (j + 1)) (l ++ L[a]) = f L[a] := by rw [← hf]
      rw [hfa] at hrec
      have hle2 := take_flat f L (a + 1)
      have hsn := take_snoc f L a ha
      have hlen : ((L.take (a + 1)).flatMap f).length = ((L.take a).flatMap f).length + (f L[a]).length := by rw [hsn, List.length_append]
      refine ⟨(((L.take (a + 1)).flatMap f).length : Int), ?_, by omega, rfl⟩
      show spec_l05Number_l0 k (spec_l05Number k) (flC j K l) n sizes L (k' + 1) _ a = _
      rw [spec_l05Number_l0, if_pos (decide_eq_true h1), if_pos ⟨h0, h1⟩, Int.toNat_natCast, hg, hput, Option.bind_some, hrec, Option.bind_some, w64_succ h0 h1 (by omega), w64_id (by omega), hlen, Int.natCast_add]
    · rintro k' i s h0 h1 ⟨q1, rfl⟩
      refine ⟨_, ?_, rfl⟩
      show spec_l05Number_l0 k (spec_l05Number k) (flC j K l) n sizes L (k' + 1) _ i = _
      rw [spec_l05Number_l0, if_neg (by simp only [decide_eq_true_eq]; omega), show i.toNat = L.length by omega, List.take_length]

def firstC (n : Nat) (K : Int) (L : List (List Int)) : Col × Bool := match L with | [] => (⟨0, 0, B136.zero⟩, false) | a :: _ => (flC n K a, true)
theorem specFirst_val {n : Nat} (hn : n ≤ 17) {K : Int} (hK : 1 ≤ K ∧ K ≤ 4) {sizes : List Int} (hz : zOK K sizes) (hone : ¬ One sizes) (hB : K.toNat ^ n ≤ 1000) :
    ∀ (d j : Nat) (l : List Int) (k : Nat), j + d = n → 1 ≤ j → inK K l → l.length = tri j → 6000 + d ≤ k → spec_l05First k (flC j K l) n sizes = some (firstC n K (exts K.toNat (okF n K sizes) (tri n - tri j) l)) := by
  intro d
  induction d with
  | zero =>
    intro j l k hd hj1 hl hll hk
    obtain ⟨k, rfl⟩ : ∃ q, k = q + 1 := ⟨k - 1, by omega⟩
    obtain rfl : j = n := by omega
    rw [spec_l05First, spec_l05First_body, if_pos (decide_eq_true (show (flC j K l).p = (j : Int) from rfl)), Nat.sub_self, exts_zero]; rfl
  | succ d ih =>
    intro j l k hd hj1 hl hll hk
    obtain ⟨k, rfl⟩ : ∃ q, k = q + 1 := ⟨k - 1, by omega⟩
    have hall := all_val (k := k) (by omega) (x := flC j K l) (by show 1 ≤ (j : Int) ∧ (j : Int) ≤ 17; omega) hK (show szOK (flC j K l) sizes from hz) (fun z hz2 e => hone (by rw [e] at hz2; exact hz2)) 1048576 (by omega) (by omega)
    have hle := EX_le hK (sizes := sizes) (l := l) (show j ≤ n by omega)
    rw [List.take_of_length_le (by omega)] at hall
    have hIn := EX_inK hK (sizes := sizes) (l := l) (j := j)
    have hst := ext_step hn hK hj1 (show j < n by omega) hl hll (sizes := sizes)
    rw [hst]
    have his : (flC j K l).is := flC_is hj1 (by omega) hK hl (by omega)
    rw [spec_l05First, spec_l05First_body, if_neg (by show ¬ decide ((j : Int) = (n : Int)) = true; simp; omega)]
    rw [show ((1048576 : Nat) : Int) = 1048576 from rfl] at hall
    rw [hall, Option.bind_some]
    generalize hEX : EX (flC j K l) sizes = L at *
    generalize hf : (fun e : List Int => exts K.toNat (okF n K sizes) (tri n - tri (j + 1)) (l ++ e)) = f at *
    have := loopI (f := fun k' i (s : Col) => spec_l05First_l0 k (spec_l05First k) (flC j K l) n sizes L k' i s) (L.length : Int) 0 (fun i s => i ≤ L.length ∧ (L.take i.toNat).flatMap f = []) (fun r => ((∃ s, r = .inl s) ∧ L.flatMap f = []) ∨ (∃ a t, r = .inr (flC n K a, true) ∧ L.flatMap f = a :: t)) ?_ ?_ k 0 Col.zero (by omega) (by omega) ⟨by omega, rfl⟩
    · obtain ⟨r, e, h⟩ := this
      rw [e]
      rcases h with ⟨⟨s, rfl⟩, h⟩ | ⟨a, t, rfl, h⟩ <;> rw [h] <;> rfl
    · rintro k' i s h0 h1 ⟨q1, q2⟩
      obtain ⟨a, rfl⟩ : ∃ a : Nat, i = a := ⟨i.toNat, by omega⟩
      rw [Int.toNat_natCast] at q2
      have ha : a < L.length := by omega
      have hg : L.getD a [] = L[a] := by simp [ha]
      obtain ⟨m1, m2⟩ := hIn L[a] (List.getElem_mem ha)
      have hput : spec_l01Put k (flC j K l) L[a] = some (flC (j + 1) K (l ++ L[a])) := by
        rw [specPut_val his (by show (j : Int) < 17; omega) (by show ((L[a].length : Nat) : Int) = (j : Int); omega) (by omega), flC_put hj1 (by omega) hK hl hll m2]
      have hrec := ih (j + 1) (l ++ L[a]) k (by omega) (by omega) (inK_app hl m1) (by rw [List.length_append, m2, hll, tri_succ]) (by omega)
      have hfa : exts K.toNat (okF n K sizes) (tri n - tri (j + 1)) (l ++ L[a]) = f L[a] := by rw [← hf]
      rw [hfa] at hrec
      have hsn := take_snoc f L a ha
      rw [q2, List.nil_append] at hsn
      cases hfL : f L[a] with
      | nil =>
        left
        refine ⟨s, ?_, by omega, by rw [show ((a : Int) + 1).toNat = a + 1 by omega, hsn, hfL]⟩
        show spec_l05First_l0 k (spec_l05First k) (flC j K l) n sizes L (k' + 1) a s = _
        rw [spec_l05First_l0, if_pos (decide_eq_true h1), if_pos ⟨h0, h1⟩, Int.toNat_natCast, hg, hput, Option.bind_some, hrec, Option.bind_some, hfL, w64_succ h0 h1 (by omega)]
        rfl
      | cons b t =>
        right
        refine ⟨.inr (flC n K b, true), ?_, .inr ⟨b, t ++ (L.drop (a + 1)).flatMap f, rfl, ?_⟩⟩
        · show spec_l05First_l0 k (spec_l05First k) (flC j K l) n sizes L (k' + 1) a s = _
          rw [spec_l05First_l0, if_pos (decide_eq_true h1), if_pos ⟨h0, h1⟩, Int.toNat_natCast, hg, hput, Option.bind_some, hrec, Option.bind_some, hfL]
          rfl
        · have : L.flatMap f = (L.take (a + 1)).flatMap f ++ (L.drop (a + 1)).flatMap f := by rw [← List.flatMap_append, List.take_append_drop]
          rw [this, hsn, hfL]; rfl
    · rintro k' i s h0 h1 ⟨q1, q2⟩
      refine ⟨.inl s, ?_, .inl ⟨⟨s, rfl⟩, ?_⟩⟩
      · show spec_l05First_l0 k (spec_l05First k) (flC j K l) n sizes L (k' + 1) i s = _
        rw [spec_l05First_l0, if_neg (by simp only [decide_eq_true_eq]; omega)]
      · rw [show i.toNat = L.length by omega, List.take_length] at q2
        exact q2

def mostN (K : Int) : Int := if K = 3 then 5 else if K = 4 then 4 else 6
def goodCt (n : Int) (sizes : List Int) : Prop := (1 ≤ (sizes.length : Int) ∧ (sizes.length : Int) ≤ 4) ∧ zOK sizes.length sizes ∧ 1 ≤ n ∧ n ≤ mostN sizes.length
theorem small_pow {n : Nat} {K : Int} (hK : 1 ≤ K ∧ K ≤ 4) (hn1 : 1 ≤ n) (hn : (n : Int) ≤ mostN K) : n ≤ 6 ∧ K.toNat ^ n ≤ 1000 ∧ K.toNat ^ tri n ≤ 1000000 := by
  have key : ∀ K : Nat, K < 5 → ∀ n : Nat, n < 7 → (K = 3 → n ≤ 5) → (K = 4 → n ≤ 4) → K ^ n ≤ 1000 ∧ K ^ tri n ≤ 1000000 := by decide
  have h6 : n ≤ 6 := by
    unfold mostN at hn
    split at hn
    · omega
    · split at hn <;> omega
  obtain ⟨h1, h2⟩ := key K.toNat (by omega) n (by omega) (fun h => by
    unfold mostN at hn
    rw [if_pos (by omega)] at hn
    omega) (fun h => by
    unfold mostN at hn
    rw [if_neg (by omega), if_pos (by omega)] at hn
    omega)
  exact ⟨h6, h1, h2⟩
open Classical in
noncomputable def ctV (n : Nat) (sizes : List Int) : Int := if One sizes then 0 else ((AV n sizes.length sizes).length : Int)

theorem minOne {k : Nat} {sizes : List Int} {K : Int} (hz : zOK K sizes) (hK : 1 ≤ K) (hk : 200 ≤ k) (hl : sizes.length ≤ 100) : ∃ m, slices_Min k sizes = some m ∧ (m = 1 ↔ One sizes) := by
  obtain ⟨m, e, h1, h2⟩ := min_val sizes (fun h => by have := hz.1; rw [h] at this; simp at this; omega) k (by omega) (by omega)
  refine ⟨m, e, fun h => by rw [h] at h1; exact h1, fun h => ?_⟩
  have := h2 1 h
  have := hz.2 m h1
  omega

theorem countAv_val {k : Nat} (hk : 7000 ≤ k) (n : Int) (sizes : List Int) (hl : sizes.length ≤ 100) :
    (¬ goodCt n sizes → impl_CountAvoiding k n sizes = some (0, 2) ∧ spec_CountAvoiding k n sizes = some (0, 2)) ∧
    (goodCt n sizes → impl_CountAvoiding k n sizes = some (ctV n.toNat sizes, 0) ∧ spec_CountAvoiding k n sizes = some (ctV n.toNat sizes, 0)) := by
  classical
  obtain ⟨fb, fe, fiff⟩ := forb_val k sizes (sizes.length : Int) (by omega) (by omega)
  have hsz := specSizes_val sizes (sizes.length : Int) k (by omega) (by omega)
  have hmost : impl_mostAvoiding (sizes.length : Int) = mostN sizes.length := by
    unfold impl_mostAvoiding mostN
    by_cases h3 : (sizes.length : Int) = 3
    · simp [h3]
    · by_cases h4 : (sizes.length : Int) = 4 <;> simp [h3, h4]
  have hsize : impl_size sizes = (sizes.length : Int) := rfl
  have hmost2 : 1 ≤ (sizes.length : Int) ∧ (sizes.length : Int) ≤ 4 → (if decide (2 < (sizes.length : Int)) then w64 (8 - (sizes.length : Int)) else 6) = mostN sizes.length := fun h => by
    unfold mostN
    by_cases h2 : 2 < (sizes.length : Int)
    · rw [if_pos (decide_eq_true h2), w64_id (by omega)]
      by_cases h3 : (sizes.length : Int) = 3
      · rw [if_pos h3]; omega
      · rw [if_neg h3, if_pos (by omega)]; omega
    · rw [if_neg (by simpa using h2), if_neg (by omega), if_neg (by omega)]
  unfold impl_CountAvoiding spec_CountAvoiding
  rw [hsize, hmost, in_eq, in_eq, specIn_eq, fe]
  simp only [letO, specIn_eq]
  by_cases hK : 1 ≤ (sizes.length : Int) ∧ (sizes.length : Int) ≤ 4
  · rw [hmost2 hK, decide_eq_true hK]
    simp only [Bool.not_true, Bool.false_eq_true, if_false]
    by_cases hzz : zOK sizes.length sizes
    · obtain rfl := fiff.2 hzz
      rw [if_pos (show (sizes.length : Int) = (sizes.length : Int) ∧ ∀ z ∈ sizes, 1 ≤ z ∧ z ≤ 17 from hzz)] at hsz
      by_cases hn : 1 ≤ n ∧ n ≤ mostN sizes.length
      · refine ⟨fun h => absurd ⟨hK, hzz, hn⟩ h, fun _ => ?_⟩
        obtain ⟨N, rfl⟩ : ∃ N : Nat, n = N := ⟨n.toNat, by omega⟩
        obtain ⟨p1, p2, p3⟩ := small_pow hK (by omega) hn.2
        obtain ⟨m, em, hm⟩ := minOne hzz hK.1 (show 200 ≤ k by omega) hl
        obtain ⟨b, eb, hb⟩ := specAvoids_val (k := k) (by omega) (flC 1 sizes.length []) (by show 1 ≤ (1 : Int) ∧ (1 : Int) ≤ 17; omega) sizes hzz hK
        have hb2 := avoids_one hK hzz
        have hst : (⟨1, (sizes.length : Int), B136.zero⟩ : Col) = flC 1 sizes.length [] := flC_start 1 _
        rw [decide_eq_true hn, hsz, hst, eb, Int.toNat_natCast]
        simp only [Option.bind_some, Bool.not_true, Bool.false_eq_true, if_false, decide_true]
        unfold impl_allAvoiding_on_CountAvoiding_c1 ctV
        rw [em, hsize, Option.bind_some]
        by_cases hone : One sizes
        · have hbf : b = false := by
            cases b with
            | false => rfl
            | true => exact absurd hone (hb2.1 (hb.1 rfl))
          subst hbf
          rw [if_pos hone, if_pos (decide_eq_true (hm.2 hone))]
          exact ⟨rfl, rfl⟩
        · obtain rfl := hb.2 (hb2.2 hone)
          have hlen : (AV N sizes.length sizes).length ≤ 1000000 := Nat.le_trans (exts_count _ _) p3
          obtain ⟨c1, X, c2⟩ := allCount_val (k := k) (by omega) (n := N) (by omega) (by omega) hK hzz hone hlen
          have hsp := number_val (n := N) (by omega) hK hzz hone p2 p3 (N - 1) 1 [] k (by omega) (by omega) inK_nil rfl (by omega)
          rw [show tri 1 = 0 from rfl, Nat.sub_zero] at hsp
          rw [if_neg hone, if_neg (by simp only [decide_eq_true_eq]; exact fun h => hone (hm.1 h)), c1, c2, hsp]
          exact ⟨rfl, rfl⟩
      · refine ⟨fun _ => ?_, fun h => absurd h.2.2 hn⟩
        rw [decide_eq_false hn]
        exact ⟨rfl, rfl⟩
    · have hf : fb = false := by
        cases fb with
        | false => rfl
        | true => exact absurd (fiff.1 rfl) hzz
      subst hf
      rw [if_neg (show ¬ ((sizes.length : Int) = (sizes.length : Int) ∧ ∀ z ∈ sizes, 1 ≤ z ∧ z ≤ 17) from hzz)] at hsz
      refine ⟨fun _ => ⟨rfl, ?_⟩, fun h => absurd h.2.1 hzz⟩
      rw [hsz]
      cases decide (1 ≤ n ∧ n ≤ mostN sizes.length) <;> rfl
  · refine ⟨fun _ => ?_, fun h => absurd h.1 hK⟩
    rw [decide_eq_false hK]
    exact ⟨rfl, rfl⟩

theorem okF_more {n : Nat} {K : Int} {sizes sizes' l : List Int} {c : Nat} (h : sizes.getD c 0 ≤ sizes'.getD c 0) (hok : okF n K sizes l c = true) : okF n K sizes' l c = true := by
  unfold okF at hok ⊢
  rw [decide_eq_true_eq] at hok ⊢
  rcases Classical.em (cl (aB (flC n K l) c) (sizes'.getD c 0 - 2).toNat (nearF (flC n K l) (eLo l.length) (eHi l.length) c) = []) with h2 | h2
  · exact h2
  · exfalso
    have e : (sizes'.getD c 0 - 2).toNat = (sizes.getD c 0 - 2).toNat + ((sizes'.getD c 0 - 2).toNat - (sizes.getD c 0 - 2).toNat) := by omega
    rw [e] at h2
    exact cl_down _ _ _ _ h2 hok
theorem ctV_more {n : Nat} {sizes sizes' : List Int} (hlen : sizes.length = sizes'.length) (h : ∀ c : Nat, c < sizes.length → sizes.getD c 0 ≤ sizes'.getD c 0) (hz : ∀ z ∈ sizes, 1 ≤ z) : ctV n sizes ≤ ctV n sizes' := by
  unfold ctV
  by_cases h1 : One sizes
  · rw [if_pos h1]
    split <;> omega
  · have h2 : ¬ One sizes' := fun h2 => by
      obtain ⟨c, hc, e⟩ := mem_getD.1 h2
      have h3 := h c (by omega)
      have hm := mem_getD.2 ⟨c, (by omega : c < sizes.length), rfl⟩
      have h4 := hz _ hm
      exact h1 (by rw [show sizes.getD c 0 = 1 by omega] at hm; exact hm)
    rw [if_neg h1, if_neg h2, ← hlen]
    have := exts_more (K := ((sizes.length : Nat) : Int).toNat) (ok := okF n sizes.length sizes) (ok' := okF n sizes.length sizes') (tri n) [] (fun e c _ hc hok => okF_more (h c (by omega)) hok)
    unfold AV
    omega

/-! ### The first one -/
theorem runF_val {n : Nat} {K : Int} (L : List (List Int)) : runT (fun l s => impl_firstAvoiding_c1 (flC n K l) s) L (⟨0, 0, B136.zero⟩ : Col) = (!(firstC n K L).2, (firstC n K L).1) := by
  cases L with
  | nil => rfl
  | cons a t => rfl
def goodFst (n : Int) (sizes : List Int) : Prop := (1 ≤ n ∧ n ≤ 8) ∧ zOK 2 sizes
theorem firstAv_val {k : Nat} (hk : 7000 ≤ k) (n : Int) (sizes : List Int) (hl : sizes.length ≤ 100) :
    ∃ x c, impl_FirstAvoiding k n sizes = some (x, c) ∧ spec_FirstAvoiding k n sizes = some (x, c) ∧ (c = 0 → goodFst n sizes ∧ ¬ One sizes ∧ ∃ a, a ∈ AV n.toNat 2 sizes ∧ x = flC n.toNat 2 a) := by
  classical
  obtain ⟨fb, fe, fiff⟩ := forb_val k sizes 2 (by omega) (by omega)
  have hsz := specSizes_val sizes 2 k (by omega) (by omega)
  unfold impl_FirstAvoiding spec_FirstAvoiding
  rw [in_eq, specIn_eq, fe, hsz]
  by_cases hn : 1 ≤ n ∧ n ≤ 8
  · rw [decide_eq_true hn]
    simp only [Bool.not_true, Bool.false_eq_true, if_false, Option.bind_some]
    by_cases hzz : zOK 2 sizes
    · obtain rfl := fiff.2 hzz
      rw [if_pos (show (sizes.length : Int) = 2 ∧ ∀ z ∈ sizes, 1 ≤ z ∧ z ≤ 17 from hzz)]
      obtain ⟨N, rfl⟩ : ∃ N : Nat, n = N := ⟨n.toNat, by omega⟩
      have hK : 1 ≤ (2 : Int) ∧ (2 : Int) ≤ 4 := by omega
      have p2 : (2 : Int).toNat ^ N ≤ 1000 := Nat.le_trans (Nat.pow_le_pow_right (by decide) (show N ≤ 8 by omega)) (by decide)
      obtain ⟨m, em, hm⟩ := minOne hzz hK.1 (show 200 ≤ k by omega) hl
      obtain ⟨b, eb, hb⟩ := specAvoids_val (k := k) (by omega) (flC 1 2 []) (by show 1 ≤ (1 : Int) ∧ (1 : Int) ≤ 17; omega) sizes hzz hK
      have hb2 := avoids_one hK hzz
      have hst : (⟨1, 2, B136.zero⟩ : Col) = flC 1 2 [] := flC_start 1 _
      have hsize : impl_size sizes = 2 := hzz.1
      rw [hst, eb, Int.toNat_natCast]
      simp only [Option.bind_some, Bool.not_true, Bool.false_eq_true, if_false, decide_true]
      unfold impl_firstAvoiding impl_allAvoiding_on_firstAvoiding_c1
      rw [em, hsize, Option.bind_some]
      by_cases hone : One sizes
      · have hbf : b = false := by
          cases b with
          | false => rfl
          | true => exact absurd hone (hb2.1 (hb.1 rfl))
        subst hbf
        rw [if_pos (decide_eq_true (hm.2 hone))]
        exact ⟨_, 4, rfl, rfl, fun h => by omega⟩
      · obtain rfl := hb.2 (hb2.2 hone)
        have h136 := tri_le (show N ≤ 17 by omega)
        obtain ⟨X, e, _⟩ := runV_firstAvoiding_c1 (n := N) (by omega) (by omega) hK hzz (tri N) [] 0 1 (⟨0, 0, B136.zero⟩ : Col) k (by simp) inK_nil (by omega) rfl (by omega) (by omega)
        rw [runF_val] at e
        have hst2 : (⟨(N : Int), 2, B136.zero⟩ : Col) = flC N 2 [] := flC_start N _
        have hsp := specFirst_val (n := N) (by omega) hK hzz hone p2 (N - 1) 1 [] k (by omega) (by omega) inK_nil rfl (by omega)
        rw [show tri 1 = 0 from rfl, Nat.sub_zero] at hsp
        rw [if_neg (by simp only [decide_eq_true_eq]; exact fun h => hone (hm.1 h)), hst2]
        rw [show ((0 : Nat) : Int) = 0 from rfl, show ((1 : Nat) : Int) = 1 from rfl] at e
        rw [e, hsp]
        have hAV : exts (2 : Int).toNat (okF N 2 sizes) (tri N) [] = AV N 2 sizes := rfl
        rw [hAV]
        cases hA : AV N 2 sizes with
        | nil => exact ⟨_, 4, rfl, rfl, fun h => by omega⟩
        | cons a t => exact ⟨flC N 2 a, 0, rfl, rfl, fun _ => ⟨⟨hn, hzz⟩, hone, a, by simp, rfl⟩⟩
    · have hf : fb = false := by
        cases fb with
        | false => rfl
        | true => exact absurd (fiff.1 rfl) hzz
      subst hf
      rw [if_neg (show ¬ ((sizes.length : Int) = 2 ∧ ∀ z ∈ sizes, 1 ≤ z ∧ z ≤ 17) from hzz)]
      exact ⟨_, 2, rfl, rfl, fun h => by omega⟩
  · rw [decide_eq_false hn]
    exact ⟨_, 2, rfl, rfl, fun h => by omega⟩

/-- All that are found avoid the sizes. -/
theorem av_avoids {n : Nat} (hn : n ≤ 17) {K : Int} (hK : 1 ≤ K ∧ K ≤ 4) {sizes : List Int} (hz : zOK K sizes) (hone : ¬ One sizes) :
    ∀ (j : Nat), 1 ≤ j → j ≤ n → ∀ l ∈ exts K.toNat (okF n K sizes) (tri j) [], inK K l ∧ l.length = tri j ∧ avoidsP (flC j K l) sizes := by
  have hin : ∀ (j : Nat) (l : List Int), l ∈ exts K.toNat (okF n K sizes) (tri j) [] → inK K l ∧ l.length = tri j := fun j l hl => by
    have h1 := exts_range (K := K.toNat) (ok := okF n K sizes) (tri j) [] (fun z hz => by simp at hz) l hl
    have h2 := exts_len (tri j) [] l hl
    refine ⟨fun z hz => ?_, by simpa using h2⟩
    have := h1 z hz
    omega
  intro j
  induction j with
  | zero => intro h; omega
  | succ j ih =>
    intro _ hjn l hl
    obtain ⟨i1, i2⟩ := hin (j + 1) l hl
    refine ⟨i1, i2, ?_⟩
    by_cases h0 : j = 0
    · subst h0
      have : l = [] := List.eq_nil_of_length_eq_zero (by rw [i2]; rfl)
      subst this
      exact (avoids_one hK hz).2 hone
    · rw [tri_succ, exts_split] at hl
      obtain ⟨l', h1, h2⟩ := List.mem_flatMap.1 hl
      obtain ⟨j1, j2, j3⟩ := ih (by omega) (by omega) l' h1
      rw [ext_flat hn hK (by omega) (by omega) j1 j2] at h2
      obtain ⟨e, h3, rfl⟩ := List.mem_map.1 h2
      have his : (flC j K l').is := flC_is (by omega) (by omega) hK j1 (by omega)
      have := ext_avoids his (by show (j : Int) < 17; omega) (show szOK (flC j K l') sizes from hz) j3 h3
      rw [flC_put (by omega) (by omega) hK j1 j2 (EX_inK hK e h3).2] at this
      exact this

theorem implFirstExt {k : Nat} (hk : 5000 ≤ k) {x : Col} {sizes : List Int} (hl : sizes.length ≤ 1000) (hi : x.is) (hz : szOK x sizes) (ha : avoidsP x sizes) (h12 : x.p ≤ 12) {e : List Int} (he : e ∈ EX x sizes) :
    ∃ o, impl_FirstExtension k x sizes = some (some o, 0) ∧ (o.length : Int) = x.p := by
  have hs : eS x sizes 12 = 0 := by
    unfold eS eC
    rw [if_pos hi, if_pos hz, if_pos rfl, if_pos ha, if_neg (by omega)]
  obtain ⟨hp, hk4⟩ := is_range hi
  unfold impl_FirstExtension impl_always
  rw [implExt_val hk x sizes hl 12, hs, Option.bind_some, if_neg (by simp), first_val hk x (by omega) hk4 sizes hz]
  have hlen := EX_len (x := x) (sizes := sizes)
  cases hE : EX x sizes with
  | nil => rw [hE] at he; simp at he
  | cons a t =>
    refine ⟨a, rfl, ?_⟩
    have := hlen a (by rw [hE]; simp)
    omega

theorem takeLast_val {k : Nat} (hk : 5000 ≤ k) {x : Col} (h : x.is) (hp : x.p < 17) {l : List Int} (hl : (l.length : Int) = x.p) (hr : ∀ a : Nat, a < l.length → 0 ≤ l.getD a 0 ∧ l.getD a 0 < x.k) : impl_TakePoint k (putC x l) x.p = some (x, 0) := by
  have hp1 := h.1
  have hq : (putC x l).p = x.p + 1 := by show ((x.p.toNat + 1 : Nat) : Int) = _; omega
  have h1 := put_is h hp hl hr
  have hc1 : impl_TakePoint_c1 (putC x l) x.p = true := by
    unfold impl_TakePoint_c1 impl_Colouring_has
    rw [in_eq, hq, w64_id (by omega)]
    simp; omega
  have hthat := that_val (k := k) (putC x l) h1.1 (by omega) (fun a0 => some (impl_TakePoint_c2 a0 x.p)) (fun i => !decide (i = x.p)) (fun a _ => rfl)
  have ht : impl_Colouring_that k (putC x l) (fun a0 => some (impl_TakePoint_c2 a0 x.p)) = some (lessL (putC x l).p.toNat x.p) := hthat
  unfold impl_TakePoint
  have e1 : (putC x l).p.toNat = x.p.toNat + 1 := by omega
  have e2 : x.p = (x.p.toNat : Int) := by omega
  have e3 : lessL (putC x l).p.toNat x.p = ir 0 x.p.toNat := by
    rw [e1]
    conv => lhs; rw [e2, Int.toNat_natCast]
    exact less_last _
  rw [hc1, ((code_cases hk (putC x l)).1 h1).1]
  have hne : ¬ (putC x l).p = 1 := by omega
  simp only [letO, hne, decide_true, decide_false, Bool.not_true, Bool.false_eq_true, if_false, if_true, Option.bind_some, ht, part_val h1.1 (lessL_ok h1.1 x.p) (show 19 ≤ k by omega)]
  rw [e3, put_part h hp]

/-- What the law asks of the first one. -/
theorem first_law {k : Nat} (hk : 7000 ≤ k) {n : Nat} (h1 : 1 ≤ n) (hn : n ≤ 8) {sizes : List Int} (hz : zOK 2 sizes) (hone : ¬ One sizes) {a : List Int} (ha : a ∈ AV n 2 sizes) :
    impl_AvoidsSizes k (flC n 2 a) sizes = some (true, 0) ∧ (1 < n → ∃ y o, impl_TakePoint k (flC n 2 a) (((n - 1 : Nat) : Nat) : Int) = some (y, 0) ∧ impl_FirstExtension k y sizes = some (some o, 0) ∧ (o.length : Int) = ((n - 1 : Nat) : Int)) := by
  classical
  have hK : 1 ≤ (2 : Int) ∧ (2 : Int) ≤ 4 := by omega
  have hl := hz.1
  obtain ⟨i1, i2, i3⟩ := av_avoids (n := n) (by omega) hK hz hone n h1 (Nat.le_refl _) a ha
  refine ⟨?_, fun hn2 => ?_⟩
  · have := (implAvoids_val (k := k) (by omega) (flC n 2 a) sizes (by omega)).2.2 (flC_is h1 (by omega) hK i1 (by omega)) hz
    rw [this, decide_eq_true i3]
  · obtain ⟨j, rfl⟩ : ∃ j, n = j + 1 := ⟨n - 1, by omega⟩
    rw [Nat.add_sub_cancel]
    unfold AV at ha
    rw [tri_succ, exts_split] at ha
    obtain ⟨l', h3, h4⟩ := List.mem_flatMap.1 ha
    obtain ⟨j1, j2, j3⟩ := av_avoids (n := j + 1) (by omega) hK hz hone j (by omega) (by omega) l' h3
    rw [ext_flat (n := j + 1) (by omega) hK (by omega) (by omega) j1 j2] at h4
    obtain ⟨e, h5, rfl⟩ := List.mem_map.1 h4
    have his : (flC j 2 l').is := flC_is (by omega) (by omega) hK j1 (by omega)
    obtain ⟨e1, e2⟩ := EX_inK hK e h5
    obtain ⟨o, g1, g2⟩ := implFirstExt (k := k) (by omega) (by omega) his (show szOK (flC j 2 l') sizes from hz) j3 (by show (j : Int) ≤ 12; omega) h5
    refine ⟨flC j 2 l', o, ?_, g1, g2⟩
    rw [← flC_put (by omega) (by omega) hK j1 j2 e2]
    exact takeLast_val (by omega) his (by show (j : Int) < 17; omega) (by show (e.length : Int) = (j : Int); omega) fun b hb => e1 _ (mem_getD.2 ⟨b, hb, rfl⟩)
end Go.Proofs.Ytfnbhfobgimnjaa
