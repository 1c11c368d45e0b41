/- Plain laws: the number of extensions, the first one, lists of them, closed colourings: both sides. No conditions beyond those that each lemma states. -/
import Derived.Test.YtjcgphgipleccaaGreatPureExtD26
set_option linter.unusedVariables false
set_option linter.unusedSimpArgs false
namespace Go.Proofs.YtjcgphgipleccaaGreat
open Go Go.RowKit Ab

def wsum (l : List Int) : Int := l.foldl (fun a b => w64 (a + b)) 0
theorem sum_go (l : List Int) (f : Nat → Int → Int → Option Int) (hf : ∀ k i a, f (k + 1) a i = if decide (i < (l.length : Int)) then (if 0 ≤ i ∧ i < (l.length : Int) then f k (w64 (a + l.getD i.toNat 0)) (w64 (i + 1)) else none) else some a)
    (k : Nat) (hk : l.length + 1 ≤ k) (hl : l.length ≤ 1000) : f k 0 0 = some (wsum l) := by
  have := loopI (f := fun k' i (a : Int) => f k' a i) (l.length : Int) 0 (fun i a => i ≤ l.length ∧ a = wsum (l.take i.toNat)) (fun r => r = wsum l) ?_ ?_ k 0 0 (by omega) (by omega) ⟨by omega, rfl⟩
  · obtain ⟨r, e, rfl⟩ := this
    exact e
  · rintro k' i a h0 h1 ⟨q1, rfl⟩
    left
    refine ⟨_, ?_, by omega, rfl⟩
    show f (k' + 1) _ i = _
    rw [hf, if_pos (decide_eq_true h1), if_pos ⟨h0, h1⟩, w64_succ h0 h1 (by omega), show (i + 1).toNat = i.toNat + 1 by omega, List.take_succ_eq_append_getElem (show i.toNat < l.length by omega)]
    have hg : l.getD i.toNat 0 = l[i.toNat]'(by omega) := by simp [show i.toNat < l.length by omega]
    rw [hg]
    unfold wsum
    rw [List.foldl_append]
    rfl
  · rintro k' i a h0 h1 ⟨q1, rfl⟩
    refine ⟨wsum l, ?_, rfl⟩
    show f (k' + 1) _ i = _
    rw [hf, if_neg (by simp only [decide_eq_true_eq]; omega), show i.toNat = l.length by omega, List.take_length]
theorem implSum_val (l : List Int) (k : Nat) (hk : l.length + 1 ≤ k) (hl : l.length ≤ 1000) : impl_sum k l = some (wsum l) := by
  unfold impl_sum
  rw [sum_go l (fun k a i => impl_sum_l0 l k a i) (fun k i a => by rw [impl_sum_l0]) k hk hl]; rfl
theorem lawsSum_val (l : List Int) (k : Nat) (hk : l.length + 1 ≤ k) (hl : l.length ≤ 1000) : laws_sum k l = some (wsum l) := by
  unfold laws_sum
  rw [sum_go l (fun k a i => laws_sum_l0 l k a i) (fun k i a => by rw [laws_sum_l0]) k hk hl]; rfl

theorem wsum_sum (l : List Int) (h0 : ∀ z ∈ l, 0 ≤ z) (h1 : l.sum ≤ 1099511627776) : wsum l = l.sum := by
  have key : ∀ (l : List Int) (a : Int), (∀ z ∈ l, 0 ≤ z) → 0 ≤ a → a + l.sum ≤ 1099511627776 → l.foldl (fun a b => w64 (a + b)) a = a + l.sum := by
    intro l
    induction l with
    | nil => intro a _ _ _; simp
    | cons b t ih =>
      intro a hz ha hs
      have hb := hz b (by simp)
      have ht : 0 ≤ t.sum := by
        clear ih hs
        induction t with
        | nil => simp
        | cons c t ih2 =>
          have := hz c (by simp)
          have h2 := ih2 (fun z hz2 => hz z (by simp at hz2 ⊢; rcases hz2 with h | h <;> simp [h]))
          rw [List.sum_cons]; omega
      rw [List.sum_cons] at hs ⊢
      rw [List.foldl_cons, w64_id (by omega), ih (a + b) (fun z hz2 => hz z (by simp [hz2])) (by omega) (by omega)]
      omega
  have := key l 0 h0 (by omega) (by omega)
  unfold wsum
  rw [this]; omega

theorem sum_set (y : Int) : ∀ (s : List Int) (i : Nat), i < s.length → (s.set i y).sum = s.sum - s.getD i 0 + y
  | [], i, h => by simp at h
  | a :: t, 0, _ => by simp; omega
  | a :: t, i + 1, h => by
    rw [List.set_cons_succ, List.sum_cons, List.sum_cons, sum_set y t i (by simpa using h)]
    show a + (t.sum - t.getD i 0 + y) = a + t.sum - (a :: t).getD (i + 1) 0 + y
    have : (a :: t).getD (i + 1) 0 = t.getD i 0 := rfl
    rw [this]; omega

theorem runD_sum : ∀ (L : List (List Int)) (s : List Int) (B : Int), (∀ e ∈ L, e.count 0 < s.length) → (∀ v ∈ s, 0 ≤ v ∧ v ≤ B) → 0 ≤ B → B + L.length ≤ 1099511627776 →
    (runT cbD L s).2.sum = s.sum + L.length ∧ ∀ v ∈ (runT cbD L s).2, 0 ≤ v
  | [], s, B, _, h, _, _ => ⟨by simp [runT], fun v hv => (h v hv).1⟩
  | e :: t, s, B, hc, h, hB, hl => by
    have hi := hc e (by simp)
    have hg : s.getD (e.count 0) 0 ∈ s := mem_getD.2 ⟨_, hi, rfl⟩
    have hv := h _ hg
    rw [List.length_cons] at hl
    have hset : cbD e s = (true, s.set (e.count 0) (s.getD (e.count 0) 0 + 1)) := by unfold cbD; rw [w64_id (by omega)]
    rw [runT, if_pos (by rw [hset]), hset]
    have := runD_sum t (s.set (e.count 0) (s.getD (e.count 0) 0 + 1)) (B + 1) (fun e' he => by rw [List.length_set]; exact hc e' (by simp [he])) (fun v hv2 => by
      rcases List.mem_or_eq_of_mem_set hv2 with h2 | rfl
      · have := h v h2; omega
      · omega) (by omega) (by omega)
    obtain ⟨r1, r2⟩ := this
    refine ⟨?_, r2⟩
    dsimp only
    rw [r1, sum_set _ s _ hi, List.length_cons]
    omega

theorem EX_count {x : Col} {sizes : List Int} (hp : 1 ≤ x.p ∧ x.p ≤ 12) (hk4 : 1 ≤ x.k ∧ x.k ≤ 4) : (EX x sizes).length ≤ 16777216 := by
  refine Nat.le_trans (exts_count _ _) ?_
  refine Nat.le_trans (Nat.pow_le_pow_left (show x.k.toNat ≤ 4 by omega) _) ?_
  exact Nat.le_trans (Nat.pow_le_pow_right (by omega) (show x.p.toNat ≤ 12 by omega)) (by decide)
theorem EX_len {x : Col} {sizes : List Int} : ∀ e ∈ EX x sizes, e.length = x.p.toNat := fun e he => by
  have := exts_len _ _ e he
  simpa using this
theorem DG_sum {x : Col} {sizes : List Int} (hp : 1 ≤ x.p ∧ x.p ≤ 12) (hk4 : 1 ≤ x.k ∧ x.k ≤ 4) : wsum (DG x sizes) = ((EX x sizes).length : Int) := by
  have hc := EX_count (sizes := sizes) hp hk4
  obtain ⟨r1, r2⟩ := runD_sum (EX x sizes) (List.replicate (x.p.toNat + 1) 0) 0 (fun e he => by
    have h1 := List.count_le_length (a := (0 : Int)) (l := e)
    have h2 := EX_len e he
    simp; omega) (fun v hv => by have := List.eq_of_mem_replicate hv; omega) (by omega) (by omega)
  have hz : (List.replicate (x.p.toNat + 1) (0 : Int)).sum = 0 := by
    have : ∀ n : Nat, (List.replicate n (0 : Int)).sum = 0 := fun n => by
      induction n with
      | zero => rfl
      | succ n ih => rw [List.replicate_succ, List.sum_cons, ih]; rfl
    exact this _
  rw [hz] at r1
  unfold DG
  rw [wsum_sum _ r2 (by omega), r1]; omega

theorem count_val {k : Nat} (hk : 5000 ≤ k) (x : Col) (sizes : List Int) (hl : sizes.length ≤ 1000) : ∃ v, impl_CountExtensions k x sizes = some (v, eS x sizes 12) ∧ spec_CountExtensions k x sizes = some (v, eS x sizes 12) ∧ (eS x sizes 12 = 0 → v = ((EX x sizes).length : Int)) := by
  obtain ⟨o, e1, e2, e3, e4, e5⟩ := deg_val hk x sizes hl
  unfold impl_CountExtensions spec_CountExtensions
  rw [e1, specSmall_val hk x sizes hl, Option.bind_some, Option.bind_some]
  by_cases h : eS x sizes 12 = 0
  · obtain ⟨hi, hz, ha, h12⟩ := eS_zero h
    obtain ⟨hp, hk4⟩ := is_range hi
    obtain ⟨rfl, e6⟩ := e3 h
    simp only [Option.getD_some] at e4
    refine ⟨wsum (DG x sizes), ?_, ?_, fun _ => DG_sum (by omega) hk4⟩
    · dsimp only
      rw [implSum_val _ k (by omega) (by omega)]; rfl
    · rw [if_neg (by simpa using h), e6, Option.bind_some, sum_go (DG x sizes) (fun k a i => spec_CountExtensions_l0 (DG x sizes) k a i) (fun k i a => by rw [spec_CountExtensions_l0]) k (by omega) (by omega), h]
      rfl
  · obtain rfl := e5 h
    refine ⟨0, ?_, by rw [if_pos (by simpa using h)], fun q => absurd q h⟩
    dsimp only
    rw [implSum_val [] k (by simp; omega) (by simp)]; rfl

/-! ### The first one -/
def cbF (l : List Int) (_ : List Int) : Bool × List Int := (false, l)
def firstE (L : List (List Int)) : List Int × Bool := match L with | [] => ([], false) | a :: _ => (a, true)
theorem first_val {k : Nat} (hk : 5000 ≤ k) (x : Col) (hp : 1 ≤ x.p ∧ x.p ≤ 16) (hk4 : 1 ≤ x.k ∧ x.k ≤ 4) (sizes : List Int) (hz : szOK x sizes) : impl_Colouring_firstExtension k x sizes = some (firstE (EX x sizes)) := by
  unfold impl_Colouring_firstExtension impl_Colouring_extend_on_firstExtension_c1
  obtain ⟨cs', _, _, e, _⟩ := run_firstExtension_c1 x hp (by omega) sizes hz cbF (fun _ => True) (fun k cs s h1 h2 _ => ⟨by
    unfold impl_Colouring_firstExtension_c1 cloneA cbF
    have hne : ((cs.drop 0).take x.p.toNat).isEmpty = false := by
      rw [List.drop_zero, List.isEmpty_eq_false_iff]
      intro h
      have := congrArg List.length h
      rw [List.length_take, List.length_nil] at this
      omega
    rw [hne, if_neg (by simp), if_pos (by simp; omega)]
    rfl, fun _ => trivial⟩) x.p.toNat (List.replicate 17 0) 0 [] k (by omega) (by simp) trivial (by omega)
  rw [e, List.take_zero]
  show some _ = some (firstE (exts x.k.toNat (okX x sizes) x.p.toNat []))
  generalize exts x.k.toNat (okX x sizes) x.p.toNat [] = L
  cases L with
  | nil => rfl
  | cons a t => rfl

theorem firstExt_val {k : Nat} (hk : 5000 ≤ k) (x : Col) (sizes : List Int) (hl : sizes.length ≤ 1000) : ∃ o c, impl_FirstExtension k x sizes = some (o, c) ∧ spec_FirstExtension k x sizes = some (o.getD [], c) ∧ (eS x sizes 12 = 0 → (c = 0 ↔ EX x sizes ≠ [])) ∧ (o.getD []).length ≤ 100 := by
  unfold impl_FirstExtension spec_FirstExtension impl_always
  rw [implExt_val hk x sizes hl 12, specSmall_val hk x sizes hl, Option.bind_some, Option.bind_some]
  by_cases h : eS x sizes 12 = 0
  · obtain ⟨hi, hz, ha, h12⟩ := eS_zero h
    obtain ⟨hp, hk4⟩ := is_range hi
    rw [if_neg (by simpa using h), if_neg (by simpa using h), first_val hk x (by omega) hk4 sizes hz]
    have hall := all_val hk hp hk4 hz (no_one hp.1 ha) 1 (by omega) (by omega)
    rw [show ((1 : Nat) : Int) = 1 from rfl] at hall
    rw [hall]
    have hlen := EX_len (x := x) (sizes := sizes)
    cases hE : EX x sizes with
    | nil => exact ⟨none, 4, rfl, rfl, fun _ => by simp, by simp⟩
    | cons a t =>
      refine ⟨some a, 0, rfl, rfl, fun _ => by simp, ?_⟩
      have := hlen a (by rw [hE]; simp)
      simp only [Option.getD_some]; omega
  · exact ⟨none, eS x sizes 12, by rw [if_pos (by simpa using h)], by rw [if_pos (by simpa using h)]; rfl, fun q => absurd q h, by simp⟩

/-! ### Lists -/
def cbL (l : List Int) (s : List (List Int)) : Bool × List (List Int) := (decide (((s ++ [l]).length : Int) ≤ 200), s ++ [l])
theorem runL_val : ∀ (L s : List (List Int)), s.length ≤ 200 → (s.length + L.length ≤ 200 → runT cbL L s = (true, s ++ L)) ∧ (200 < s.length + L.length → (runT cbL L s).1 = false)
  | [], s, h => ⟨fun _ => by simp [runT], fun h2 => by simp at h2; omega⟩
  | a :: t, s, h => by
    rw [runT]
    by_cases h2 : s.length < 200
    · have hb : (cbL a s).1 = true := by unfold cbL; simp; omega
      have := runL_val t (s ++ [a]) (by simp; omega)
      rw [if_pos hb]
      have e2 : (cbL a s).2 = s ++ [a] := rfl
      rw [e2]
      refine ⟨fun h3 => ?_, fun h3 => this.2 (by simp at h3 ⊢; omega)⟩
      rw [this.1 (by simp at h3 ⊢; omega)]
      simp
    · have hb : (cbL a s).1 = false := by unfold cbL; simp; omega
      rw [if_neg (by rw [hb]; simp)]
      exact ⟨fun h3 => by simp at h3; omega, fun _ => rfl⟩

theorem listExt_val {k : Nat} (hk : 5000 ≤ k) (x : Col) (sizes : List Int) (hl : sizes.length ≤ 1000) : ∃ o c, impl_ExtensionList k x sizes = some (o, c) ∧ spec_ExtensionList k x sizes = some (o.getD [], c) ∧ (eS x sizes 12 = 0 → (c = 0 → o = some (EX x sizes))) ∧ (o.getD []).length ≤ 200 ∧ (∀ e ∈ o.getD [], e.length ≤ 100) ∧ (c ≠ 0 → o = none) ∧ (c = 0 → eS x sizes 12 = 0) := by
  unfold impl_ExtensionList spec_ExtensionList impl_always
  rw [implExt_val hk x sizes hl 12, specSmall_val hk x sizes hl, Option.bind_some, Option.bind_some]
  by_cases h : eS x sizes 12 = 0
  · obtain ⟨hi, hz, ha, h12⟩ := eS_zero h
    obtain ⟨hp, hk4⟩ := is_range hi
    rw [if_neg (by simpa using h), if_neg (by simpa using h)]
    have hall := all_val hk hp hk4 hz (no_one hp.1 ha) 201 (by omega) (by omega)
    rw [show ((201 : Nat) : Int) = 201 from rfl] at hall
    rw [hall]
    unfold impl_Colouring_extend_on_ExtensionList_c1
    obtain ⟨cs', _, _, e, _⟩ := run_ExtensionList_c1 x (by omega) (by omega) sizes hz cbL (fun s => s.length ≤ 200) (fun k cs s h1 h2 h3 => ⟨by
      unfold impl_ExtensionList_c1 cloneA cbL
      have hne : ((cs.drop 0).take x.p.toNat).isEmpty = false := by
        rw [List.drop_zero, List.isEmpty_eq_false_iff]
        intro h
        have := congrArg List.length h
        rw [List.length_take, List.length_nil] at this
        omega
      rw [hne, if_neg (by simp), if_pos (by simp; omega), Option.bind_some, if_pos (by simp; omega)]
      rfl, fun h4 => by
        have : ((s ++ [cs.take x.p.toNat]).length : Int) ≤ 200 := of_decide_eq_true h4
        show (s ++ [cs.take x.p.toNat]).length ≤ 200
        omega⟩) x.p.toNat (List.replicate 17 0) 0 [] k (by omega) (by simp) (by simp) (by omega)
    rw [e, List.take_zero]
    have hrun := runL_val (EX x sizes) [] (by simp)
    have hlen := EX_len (x := x) (sizes := sizes)
    change ∃ o c, ((some ((runT cbL (EX x sizes) []).1, cs', (runT cbL (EX x sizes) []).2)).bind _).bind _ = _ ∧ _
    generalize EX x sizes = L at *
    rw [List.length_nil, Nat.zero_add] at hrun
    by_cases h200 : L.length ≤ 200
    · refine ⟨some L, 0, ?_, ?_, fun _ _ => rfl, h200, fun e he => by have := hlen e he; omega, fun q => absurd rfl q, fun _ => h⟩
      · rw [hrun.1 h200]; rfl
      · rw [Option.bind_some, List.take_of_length_le (by omega), if_neg (by simp only [decide_eq_true_eq]; omega)]; rfl
    · refine ⟨none, 3, ?_, ?_, fun _ q => by omega, by simp, by simp, fun _ => rfl, fun q => by omega⟩
      · have := hrun.2 (by omega)
        simp only [Option.bind_some, this, Bool.not_false, if_true]
      · rw [Option.bind_some, if_pos (decide_eq_true (by rw [List.length_take]; omega))]; rfl
  · exact ⟨none, eS x sizes 12, by rw [if_pos (by simpa using h)], by rw [if_pos (by simpa using h)]; rfl, fun q => absurd q h, by simp, by simp, fun _ => rfl, fun q => absurd q h⟩

/-! ### Closed colourings -/
theorem closed_val {k : Nat} (hk : 5000 ≤ k) (x : Col) (sizes : List Int) (hl : sizes.length ≤ 1000) : ∃ b c, impl_IsClosed k x sizes = some (b, c) ∧ spec_IsClosed k x sizes = some (b, c) ∧ (eS x sizes 12 = 0 → (b = true ↔ EX x sizes = [])) := by
  classical
  unfold impl_IsClosed spec_IsClosed impl_always
  obtain ⟨s1, s2⟩ := sizesCode_val hk x sizes hl true
  have e1 : impl_Colouring_sizesCode k x sizes (some true) = some (eC x sizes) := by
    unfold eC
    by_cases h : x.is
    · rw [s2 h, if_pos h]
      by_cases h2 : szOK x sizes
      · rw [if_pos ⟨h2, rfl⟩, if_pos h2]
      · rw [if_neg (fun q => h2 q.1), if_neg h2]
    · rw [s1 h, if_neg h]
  rw [e1, specCode_val hk x sizes hl, Option.bind_some, Option.bind_some]
  by_cases h : eC x sizes = 0
  · obtain ⟨hi, hz⟩ := eC_zero h
    obtain ⟨hp, hk4⟩ := is_range hi
    by_cases h12 : 12 < x.p
    · refine ⟨false, 3, ?_, ?_, fun q => by have := (eS_zero q).2.2.2; omega⟩ <;> simp [letO, h, h12]
    · obtain ⟨b, eb, hb⟩ := specAvoids_val hk x hp sizes hz hk4
      by_cases ha : avoidsP x sizes
      · have hall := all_val hk hp hk4 hz (no_one hp.1 ha) 1 (by omega) (by omega)
        rw [show ((1 : Nat) : Int) = 1 from rfl] at hall
        obtain rfl := hb.2 ha
        refine ⟨decide (EX x sizes = []), 0, ?_, ?_, fun _ => by simp⟩
        · simp only [letO, h, h12, decide_true, decide_false, if_true, if_false, Bool.false_eq_true, Bool.not_true, avoids_loop hk x hp sizes hz.2 hl, ha, Option.bind_some, first_val hk x (by omega) hk4 sizes hz]
          cases EX x sizes <;> rfl
        · simp only [letO, h, h12, decide_true, decide_false, if_true, if_false, Bool.false_eq_true, Bool.not_true, eb, Option.bind_some, hall]
          cases EX x sizes <;> simp
      · have hbf : b = false := by
          cases b with
          | false => rfl
          | true => exact absurd (hb.1 rfl) ha
        subst hbf
        refine ⟨false, 0, ?_, ?_, fun q => absurd (eS_zero q).2.2.1 ha⟩
        · simp only [letO, h, h12, decide_true, decide_false, if_true, if_false, Bool.false_eq_true, Bool.not_true, avoids_loop hk x hp sizes hz.2 hl, ha, Option.bind_some, Bool.not_false]
        · simp only [letO, h, h12, decide_true, decide_false, if_true, if_false, Bool.false_eq_true, Bool.not_true, eb, Option.bind_some]
  · refine ⟨false, eC x sizes, ?_, ?_, fun q => by unfold eS at q; rw [if_neg h] at q; exact absurd q h⟩ <;> simp [letO, h]

theorem rows_refl (k : Nat) (L : List (List Int)) (hk : 5000 ≤ k) (hL : L.length ≤ 200) (hl : ∀ e ∈ L, e.length ≤ 100) : laws_rows5 k L L = some true := by
  unfold laws_rows5
  rw [if_neg (by simp), loopAll (f := fun k' i => laws_rows5_l0 k L L k' i) (L.length : Int) false (fun _ => True) 0 ?_ ?_ ?_ k 0 (by omega) (by omega), if_pos (fun _ _ _ => trivial)]
  · rfl
  all_goals intro k' i h0
  · intro h1 _
    show laws_rows5_l0 k L L (k' + 1) i = _
    have hi : i.toNat < L.length := by omega
    have hm : (L.getD i.toNat []).length ≤ 100 := by
      have e : L.getD i.toNat [] = L[i.toNat] := by simp [hi]
      rw [e]; exact hl _ (List.getElem_mem hi)
    rw [laws_rows5_l0, if_pos (decide_eq_true h1), if_pos ⟨h0, h1⟩, if_pos ⟨h0, h1⟩, like_refl k _ (by omega) (by omega), Option.bind_some, if_neg (by simp), w64_succ h0 h1 (by omega)]
  · intro h1 hq; exact absurd trivial hq
  · show laws_rows5_l0 k L L (k' + 1) i = _
    rw [laws_rows5_l0, if_neg (by simp only [decide_eq_true_eq]; omega)]
end Go.Proofs.YtjcgphgipleccaaGreat
