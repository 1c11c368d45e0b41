/- The plain law of FnAvoided. No conditions beyond those that each lemma states. -/
import Derived.Test.YtghhnpdhehjlaaaGreatPureCh39
import Derived.Test.YtghhnpdhehjlaaaGreatRam
set_option linter.unusedVariables false
set_option linter.unusedSimpArgs false
namespace Go.Proofs.YtghhnpdhehjlaaaGreat
open Go Go.RowKit Ab

/-! ### The draws -/
theorem drawSizes_loop {k : Nat} (r2 : Col × Src) : ∀ (d k' : Nat) (i : Int) (s : Src) (l : List Int), ((if 4 < (if r2.1.k < 1 then 1 else r2.1.k) then 4 else (if r2.1.k < 1 then 1 else r2.1.k)) - i).toNat = d → 0 ≤ i → d < k' → okS s → l.length + d ≤ 100 →
    ∃ s' l', spec_l02DrawSizes_l0 k r2 k' i s l = some (s', l') ∧ okS s' ∧ l'.length = l.length + d := by
  intro d
  induction d with
  | zero =>
    intro k' i s l hd h0 hk hs hl
    obtain ⟨k', rfl⟩ : ∃ q, k' = q + 1 := ⟨k' - 1, by omega⟩
    rw [spec_l02DrawSizes_l0, decide_eq_false (by omega), if_neg (by simp)]
    exact ⟨s, l, rfl, hs, rfl⟩
  | succ d ih =>
    intro k' i s l hd h0 hk hs hl
    obtain ⟨k', rfl⟩ : ∃ q, k' = q + 1 := ⟨k' - 1, by omega⟩
    obtain ⟨v, s1, h1, hs1, _⟩ := next_ok s 17 hs
    obtain ⟨u, s2, h2, hs2, _⟩ := pick_ok s1 [2, 3, 3, 3, 4, 4, 5, w64 (v + 1)] hs1 (by simp)
    have hi4 : i < 4 := by
      generalize (if r2.1.k < 1 then (1 : Int) else r2.1.k) = q at hd
      by_cases hq : 4 < q
      · rw [if_pos hq] at hd; omega
      · rw [if_neg hq] at hd; omega
    rw [spec_l02DrawSizes_l0, decide_eq_true (by omega), if_pos rfl, h1, Option.bind_some, h2, Option.bind_some, if_pos (by simp; omega), w64_id (by omega)]
    obtain ⟨s', l', e, hs', hl'⟩ := ih k' (i + 1) s2 (l ++ [u]) (by omega) (by omega) (by omega) hs2 (by simp; omega)
    exact ⟨s', l', e, hs', by rw [hl']; simp; omega⟩
theorem drawSizes_ok {k : Nat} (hk : 5000 ≤ k) (c : List UInt8) (hc : c.length ≤ 4096) : ∃ x sizes, spec_l02DrawSizes k c = some (x, sizes) ∧ sizes.length ≤ 100 := by
  obtain ⟨s, h1, hs⟩ := from_ok hk c hc
  obtain ⟨x, s2, h2, hs2⟩ := spoil_ok hk s hs
  have hm : ∀ q : Int, ((if 4 < (if q < 1 then 1 else q) then 4 else (if q < 1 then 1 else q)) - 0).toNat ≤ 4 ∧ 1 ≤ ((if 4 < (if q < 1 then 1 else q) then 4 else (if q < 1 then 1 else q)) - 0 : Int).toNat := fun q => by
    by_cases h : q < 1
    · rw [if_pos h]; decide
    · rw [if_neg h]
      by_cases h4 : 4 < q
      · rw [if_pos h4]; decide
      · rw [if_neg h4]; omega
  have hm0 := hm x.k
  obtain ⟨s3, l, h3, hs3, hl⟩ := drawSizes_loop (k := k) (x, s2) _ k 0 s2 [] rfl (by omega) (by simp only; omega) hs2 (by simp only [List.length_nil]; omega)
  simp only [List.length_nil] at hl
  obtain ⟨v, s4, h4, hs4, _⟩ := next_ok s3 24 hs3
  obtain ⟨u, s5, h5, _⟩ := pick_ok s4 [0, 18, (-1)] hs4 (by simp)
  unfold spec_l02DrawSizes
  rw [h1, Option.bind_some, h2, Option.bind_some, h3, Option.bind_some]
  simp only
  rw [h4, Option.bind_some]
  simp only
  by_cases e0 : v = 0
  · rw [decide_eq_true e0, if_pos rfl, if_pos (by simp; omega)]
    exact ⟨x, _, rfl, by simp; omega⟩
  · rw [decide_eq_false e0, if_neg (by simp)]
    by_cases e1 : v = 1
    · rw [decide_eq_true e1, if_pos rfl, h5, Option.bind_some, if_pos (by omega)]
      exact ⟨x, _, rfl, by simp; omega⟩
    · rw [decide_eq_false e1, if_neg (by simp)]
      exact ⟨x, _, rfl, by omega⟩
theorem specNumbers_ok {k : Nat} (hk : 5000 ≤ k) (x : Col) : ∃ l e, spec_CliqueNumbers k x = some (l, e) ∧ l.length ≤ 4 := by
  classical
  unfold spec_CliqueNumbers
  rw [specIs_eq k (by omega), Option.bind_some]
  by_cases h : x.is
  · have hkk := h.2.1
    have ek : ((x.k.toNat : Nat) : Int) = x.k := by omega
    rw [decide_eq_true h, Bool.not_true, if_neg (by simp)]
    have hg : ∀ c : Nat, ∃ l, spec_l02Greatest k x c = some l := fun c => by
      obtain ⟨w, l, e, _⟩ := specGreatest_val hk x h.1 c
      exact ⟨l, e⟩
    obtain ⟨g, hg⟩ : ∃ g : Nat → List Int, ∀ c : Nat, spec_l02Greatest k x c = some (g c) := ⟨fun c => (hg c).choose, fun c => (hg c).choose_spec⟩
    have := collect (fun k' i s => spec_CliqueNumbers_l0 k x k' i s) x.k.toNat (fun c => ((g c).length : Int)) (fun k' i s hi hl => by
      have h1 : (i : Int) < x.k := by omega
      have hl' : s.length + ([((g i).length : Int)]).length ≤ 1099511627776 := by simp; omega
      rw [spec_CliqueNumbers_l0, hg i, w64_id (by omega)]
      simp only [h1, decide_true, if_true, Option.bind_some, hl']
      rfl) (fun k' s => by rw [ek, spec_CliqueNumbers_l0]; simp) k (by omega)
    rw [this]
    exact ⟨_, _, rfl, by rw [mapL_length]; omega⟩
  · rw [decide_eq_false h, Bool.not_false, if_pos rfl]
    exact ⟨[], 1, rfl, by simp⟩
theorem drawLower_loop (r3 : List Int × Int) (hl : r3.1.length ≤ 100) : ∀ (d k' : Nat) (i : Int) (l : List Int), ((r3.1.length : Int) - i).toNat = d → 0 ≤ i → d < k' → l.length + d ≤ 200 → ∃ l', spec_DrawLowerBound_l0 r3 k' i l = some l' ∧ l'.length = l.length + d := by
  intro d
  induction d with
  | zero =>
    intro k' i l hd h0 hk hl
    obtain ⟨k', rfl⟩ : ∃ q, k' = q + 1 := ⟨k' - 1, by omega⟩
    rw [spec_DrawLowerBound_l0, decide_eq_false (by omega), if_neg (by simp)]
    exact ⟨l, rfl, rfl⟩
  | succ d ih =>
    intro k' i l hd h0 hk hl
    obtain ⟨k', rfl⟩ : ∃ q, k' = q + 1 := ⟨k' - 1, by omega⟩
    rw [spec_DrawLowerBound_l0, decide_eq_true (by omega), if_pos rfl, if_pos (by omega), if_pos (by simp; omega), w64_id (n := i + 1) (by omega)]
    obtain ⟨l', e, hl'⟩ := ih k' (i + 1) (l ++ [(if 17 < w64 ((r3.1.getD i.toNat 0) + 1) then 17 else w64 ((r3.1.getD i.toNat 0) + 1))]) (by omega) (by omega) (by omega) (by simp; omega)
    exact ⟨l', e, by rw [hl']; simp; omega⟩
theorem drawLower_ok {k : Nat} (hk : 5000 ≤ k) (c : List UInt8) (hc : c.length ≤ 4096) : ∃ y given, spec_DrawLowerBound k c = some (y, given) ∧ given.length ≤ 100 := by
  obtain ⟨y, sizes, h1, hl⟩ := drawSizes_ok hk c hc
  obtain ⟨s, h2, hs⟩ := from_ok hk c hc
  obtain ⟨nl, e, h3, hnl⟩ := specNumbers_ok hk y
  obtain ⟨v, s4, h4, hs4, _⟩ := next_ok s 2 hs
  obtain ⟨l', h5, hl'⟩ := drawLower_loop (nl, e) (by simp only; omega) _ k 0 [] rfl (by omega) (by simp only; omega) (by simp only [List.length_nil]; omega)
  simp only [List.length_nil] at hl'
  unfold spec_DrawLowerBound
  rw [h1, Option.bind_some, h2, Option.bind_some]
  simp only
  rw [h3, Option.bind_some]
  simp only
  by_cases e0 : e = 0
  · rw [decide_eq_true e0, if_pos rfl, h4, Option.bind_some, Option.bind_some]
    by_cases e1 : v = 0
    · rw [decide_eq_true e1, if_pos rfl, h5]
      exact ⟨y, l', rfl, by omega⟩
    · rw [decide_eq_false e1, if_neg (by simp)]
      exact ⟨y, sizes, rfl, hl⟩
  · rw [decide_eq_false e0, if_neg (by simp), Option.bind_some, if_neg (by simp)]
    exact ⟨y, sizes, rfl, hl⟩

/-! ### The codes and the searches -/
open Classical in
noncomputable def avR (x : Col) (sizes : List Int) : Bool × Int := if eC x sizes = 0 then (decide (avoidsP x sizes), 0) else (false, eC x sizes)
theorem eC_ok {x : Col} {sizes : List Int} (h : x.is) (hz : szOK x sizes) : eC x sizes = 0 := by unfold eC; rw [if_pos h, if_pos hz]
theorem eC_bad {x : Col} {sizes : List Int} (h : x.is) (hz : ¬ szOK x sizes) : eC x sizes = 2 := by unfold eC; rw [if_pos h, if_neg hz]
theorem eC_inv {x : Col} {sizes : List Int} (h : ¬ x.is) : eC x sizes = 1 := by unfold eC; rw [if_neg h]
theorem av_impl {k : Nat} (hk : 5000 ≤ k) (x : Col) (sizes : List Int) (hl : sizes.length ≤ 1000) : impl_AvoidsSizes k x sizes = some (avR x sizes) := by
  classical
  obtain ⟨h1, h2, h3⟩ := implAvoids_val hk x sizes hl
  unfold avR
  by_cases h : x.is
  · by_cases hz : szOK x sizes
    · rw [h3 h hz, eC_ok h hz, if_pos rfl]
    · rw [h2 h hz, eC_bad h hz, if_neg (by decide)]
  · rw [h1 h, eC_inv h, if_neg (by decide)]
theorem specSizes2 {k : Nat} (hk : 5000 ≤ k) (x : Col) (sizes : List Int) (hl : sizes.length ≤ 1000) : spec_l02Sizes k x sizes = some (eC x sizes) := by
  classical
  unfold spec_l02Sizes
  rw [specIs_eq k (by omega), Option.bind_some]
  by_cases hx : x.is
  · rw [decide_eq_true hx, Bool.not_true, if_neg (by simp)]
    by_cases h : (sizes.length : Int) = x.k
    · rw [decide_eq_true h, Bool.not_true, if_neg (by simp)]
      rw [loopAll (f := fun k' i => spec_l02Sizes_l0 sizes k' i) (sizes.length : Int) 2 (fun i => 1 ≤ sizes.getD i.toNat 0 ∧ sizes.getD i.toNat 0 ≤ 17) 0 ?_ ?_ ?_ k 0 (by omega) (by omega), Option.bind_some]
      · by_cases hq : ∀ z ∈ sizes, 1 ≤ z ∧ z ≤ 17
        · rw [if_pos, eC_ok hx ⟨h, hq⟩]
          exact fun j h0 h1 => hq _ (mem_getD.2 ⟨j.toNat, by omega, rfl⟩)
        · rw [if_neg, eC_bad hx (fun q => hq q.2)]
          intro h2
          refine hq fun z hz => ?_
          obtain ⟨a, h3, h4⟩ := mem_getD.1 hz
          have := h2 a (by omega) (by omega)
          rw [Int.toNat_natCast, h4] at this
          exact this
      all_goals intro k' i h0
      · intro h1 hq
        show spec_l02Sizes_l0 sizes (k' + 1) i = _
        rw [spec_l02Sizes_l0, if_pos (decide_eq_true h1), if_pos ⟨h0, h1⟩, specIn_eq, decide_eq_true hq, if_neg (by simp), w64_succ h0 h1 (by omega)]
      · intro h1 hq
        show spec_l02Sizes_l0 sizes (k' + 1) i = _
        rw [spec_l02Sizes_l0, if_pos (decide_eq_true h1), if_pos ⟨h0, h1⟩, specIn_eq, decide_eq_false hq, if_pos (by simp)]
      · show spec_l02Sizes_l0 sizes (k' + 1) i = _
        rw [spec_l02Sizes_l0, if_neg (by simp only [decide_eq_true_eq]; omega)]
    · rw [decide_eq_false h, Bool.not_false, if_pos rfl, eC_bad hx (fun q => h q.1)]
  · rw [decide_eq_false hx, Bool.not_false, if_pos rfl, eC_inv hx]
theorem list1_val {k : Nat} (hk : 5000 ≤ k) {x : Col} (hx : x.is) {sizes : List Int} (h : szOK x sizes) {c : Nat} (hc : (c : Int) < x.k) : spec_l02List k x c (sizes.getD c 0) 1 = some ((cl (aB x c) (sizes.getD c 0).toNat (pts x)).take 1) := by
  obtain ⟨z1, z2, z3⟩ := sz_get h hc
  have := spec_list x hx.1 (c : Int) hk (sizes.getD c 0).toNat 1 (by omega) (by omega) (by omega)
  rw [show (((sizes.getD c 0).toNat : Nat) : Int) = sizes.getD c 0 by omega] at this
  exact this
theorem specAvoids2 {k : Nat} (hk : 5000 ≤ k) {x : Col} (hx : x.is) {sizes : List Int} (h : szOK x sizes) : ∃ b, spec_l02Avoids k x sizes = some b ∧ (b = true ↔ avoidsP x sizes) := by
  classical
  have hk4 := hx.2.1
  have hlen := h.1
  unfold spec_l02Avoids
  rw [loopAll (f := fun k' i => spec_l02Avoids_l0 k x sizes k' i) x.k false (fun i => cl (aB x i) (sizes.getD i.toNat 0).toNat (pts x) = []) 0 ?_ ?_ ?_ k 0 (by omega) (by omega), Option.bind_some]
  · by_cases hq : avoidsP x sizes
    · refine ⟨true, ?_, by simp [hq]⟩
      rw [if_pos]
      intro j h0 h1
      have := hq j.toNat (by omega)
      rw [show ((j.toNat : Nat) : Int) = j by omega] at this
      exact this
    · refine ⟨false, ?_, by simp [hq]⟩
      rw [if_neg]
      intro h2
      refine hq fun c hc => ?_
      have := h2 c (by omega) (by omega)
      rw [Int.toNat_natCast] at this
      exact this
  all_goals intro k' i h0
  · intro h1 hq
    obtain ⟨c, rfl⟩ : ∃ c : Nat, i = c := ⟨i.toNat, by omega⟩
    show spec_l02Avoids_l0 k x sizes (k' + 1) c = _
    rw [Int.toNat_natCast] at hq
    rw [spec_l02Avoids_l0, if_pos (decide_eq_true h1), if_pos ⟨h0, by omega⟩, Int.toNat_natCast, list1_val hk hx h h1, Option.bind_some, hq, if_neg (by simp), w64_succ h0 h1 (by omega)]
  · intro h1 hq
    obtain ⟨c, rfl⟩ : ∃ c : Nat, i = c := ⟨i.toNat, by omega⟩
    show spec_l02Avoids_l0 k x sizes (k' + 1) c = _
    rw [Int.toNat_natCast] at hq
    rw [spec_l02Avoids_l0, if_pos (decide_eq_true h1), if_pos ⟨h0, by omega⟩, Int.toNat_natCast, list1_val hk hx h h1, Option.bind_some, if_pos]
    cases hh : cl (aB x (c : Int)) (sizes.getD c 0).toNat (pts x) with
    | nil => exact absurd hh hq
    | cons a t => simp
  · show spec_l02Avoids_l0 k x sizes (k' + 1) i = _
    rw [spec_l02Avoids_l0, if_neg (by simp only [decide_eq_true_eq]; omega)]
theorem av_spec {k : Nat} (hk : 5000 ≤ k) (x : Col) (sizes : List Int) (hl : sizes.length ≤ 1000) : spec_AvoidsSizes k x sizes = some (avR x sizes) := by
  classical
  unfold spec_AvoidsSizes avR
  rw [specSizes2 hk x sizes hl, Option.bind_some]
  by_cases h : eC x sizes = 0
  · obtain ⟨hx, hz⟩ := eC_zero h
    obtain ⟨b, e, hb⟩ := specAvoids2 hk hx hz
    rw [decide_eq_true h, Bool.not_true, if_neg (by simp), e, Option.bind_some, if_pos h]
    have : b = decide (avoidsP x sizes) := by rw [Bool.eq_iff_iff, hb, decide_eq_true_iff]
    rw [this]
  · rw [decide_eq_false h, Bool.not_false, if_pos rfl, if_neg h]

/-- The first colour with a clique of its size, and this clique. -/
def fsF (x : Col) (sizes : List Int) (c : Nat) : Option (Int × List Int) := ((cl (aB x c) (sizes.getD c 0).toNat (pts x)).head?).map fun l => ((c : Int), l)
def fsV (x : Col) (sizes : List Int) : Option (Int × List Int) := (List.range sizes.length).findSome? (fsF x sizes)
noncomputable def fsR (x : Col) (sizes : List Int) : Int × List Int × Int := if eC x sizes = 0 then (match fsV x sizes with | some r => (r.1, r.2, 0) | none => (0, [], 4)) else (0, [], eC x sizes)
theorem rng_next (F : Nat → Option (Int × List Int)) (b : Nat) : ∀ i, i < b → ((List.range b).drop i).findSome? F = match F i with | some z => some z | none => ((List.range b).drop (i + 1)).findSome? F := by
  intro i hi
  rw [List.drop_eq_getElem_cons (by simpa using hi), List.findSome?_cons, List.getElem_range]
  cases F i <;> rfl
theorem fs_loop {k : Nat} (hk : 5000 ≤ k) (sizes : List Int) (hl : sizes.length ≤ 1000) (x : Col) (f : Nat → Int → Option (Sum Unit (Int × List Int × Int)))
    (hstep : ∀ (k' : Nat) (c : Nat), c < sizes.length → f (k' + 1) c = match fsF x sizes c with | some r => some (.inr (r.1, r.2, 0)) | none => f k' ((c : Int) + 1)) (hend : ∀ k', f (k' + 1) (sizes.length : Int) = some (.inl ())) :
    f k 0 = some (match fsV x sizes with | some r => .inr (r.1, r.2, 0) | none => .inl ()) := by
  obtain ⟨res, h1, rfl⟩ := loopI (fun k' i (_ : Unit) => f k' i) (sizes.length : Int) 0
    (fun i _ => ∃ c : Nat, i = c ∧ c ≤ sizes.length ∧ ((List.range sizes.length).drop c).findSome? (fsF x sizes) = fsV x sizes)
    (fun r => r = match fsV x sizes with | some r => .inr (r.1, r.2, 0) | none => .inl ())
    (fun k' i _ h0 hi hI => by
      obtain ⟨c, rfl, hc, hfs⟩ := hI
      rw [rng_next _ _ c (by omega)] at hfs
      show (∃ s', f (k' + 1) (c : Int) = f k' ((c : Int) + 1) ∧ _) ∨ ∃ r, f (k' + 1) (c : Int) = some r ∧ _
      rw [hstep k' c (by omega)]
      cases hF : fsF x sizes c with
      | none => rw [hF] at hfs; exact .inl ⟨(), rfl, c + 1, by omega, by omega, hfs⟩
      | some r => rw [hF] at hfs; exact .inr ⟨_, rfl, by rw [← hfs]⟩)
    (fun k' i _ h0 hi hI => by
      obtain ⟨c, rfl, hc, hfs⟩ := hI
      have : c = sizes.length := by omega
      subst this
      rw [List.drop_eq_nil_of_le (by simp)] at hfs
      exact ⟨_, hend k', by rw [← hfs]; rfl⟩)
    k 0 () (by omega) (by omega) ⟨0, rfl, by omega, by rw [List.drop_zero]; rfl⟩
  exact h1
theorem fs_impl {k : Nat} (hk : 5000 ≤ k) (x : Col) (sizes : List Int) (hl : sizes.length ≤ 1000) : impl_FirstOfSizes k x sizes = some (fsR x sizes) := by
  obtain ⟨s1, s2⟩ := sizesCode_val hk x sizes hl true
  unfold impl_FirstOfSizes impl_always fsR
  have hcode : impl_Colouring_sizesCode k x sizes (some true) = some (eC x sizes) := by
    by_cases h : x.is
    · by_cases hz : szOK x sizes
      · rw [s2 h, if_pos ⟨hz, rfl⟩, eC_ok h hz]
      · rw [s2 h, if_neg (fun q => hz q.1), eC_bad h hz]
    · rw [s1 h, eC_inv h]
  rw [hcode, Option.bind_some]
  by_cases h : eC x sizes = 0
  · obtain ⟨hx, hz⟩ := eC_zero h
    have hlen := hz.1
    rw [decide_eq_true h, Bool.not_true, if_neg (by simp), if_pos h]
    rw [fs_loop hk sizes hl x (fun k' i => impl_FirstOfSizes_l0 k x sizes k' i) (fun k' c hc => by
      obtain ⟨z1, z2, z3⟩ := sz_get hz (c := c) (by omega)
      have hv := firstOf_cl hk x hx.1 (c : Int) (sizes.getD c 0).toNat
      rw [show (((sizes.getD c 0).toNat : Nat) : Int) = sizes.getD c 0 by omega] at hv
      rw [impl_FirstOfSizes_l0, decide_eq_true (by omega), if_pos rfl, if_pos (by omega), Int.toNat_natCast, hv, Option.bind_some]
      unfold fsF
      cases (cl (aB x (c : Int)) (sizes.getD c 0).toNat (pts x)).head? with
      | none => simp only [Option.map_none]; rw [if_neg (by simp), w64_id (by omega)]
      | some l => rfl) (fun k' => by rw [impl_FirstOfSizes_l0, decide_eq_false (by omega), if_neg (by simp)])]
    cases fsV x sizes <;> rfl
  · rw [decide_eq_false h, Bool.not_false, if_pos rfl, if_neg h]
theorem fs_spec {k : Nat} (hk : 5000 ≤ k) (x : Col) (sizes : List Int) (hl : sizes.length ≤ 1000) : spec_FirstOfSizes k x sizes = some (fsR x sizes) := by
  unfold spec_FirstOfSizes fsR
  rw [specSizes2 hk x sizes hl, Option.bind_some]
  by_cases h : eC x sizes = 0
  · obtain ⟨hx, hz⟩ := eC_zero h
    have hlen := hz.1
    rw [decide_eq_true h, Bool.not_true, if_neg (by simp), if_pos h]
    rw [fs_loop hk sizes hl x (fun k' i => spec_FirstOfSizes_l0 k x sizes k' i) (fun k' c hc => by
      rw [spec_FirstOfSizes_l0, decide_eq_true (by omega), if_pos rfl, if_pos (by omega), Int.toNat_natCast, list1_val hk hx hz (by omega), Option.bind_some]
      unfold fsF
      cases cl (aB x (c : Int)) (sizes.getD c 0).toNat (pts x) with
      | nil => simp only [List.take_nil, List.head?_nil, Option.map_none]; rw [if_neg (by simp), w64_id (by omega)]
      | cons l t => rfl) (fun k' => by rw [spec_FirstOfSizes_l0, decide_eq_false (by omega), if_neg (by simp)])]
    cases fsV x sizes <;> rfl
  · rw [decide_eq_false h, Bool.not_false, if_pos rfl, if_neg h]
theorem fs_none {x : Col} {sizes : List Int} : fsV x sizes = none ↔ avoidsP x sizes := by
  unfold fsV avoidsP
  rw [List.findSome?_eq_none_iff]
  constructor
  · intro h c hc
    have := h c (List.mem_range.2 hc)
    unfold fsF at this
    rw [Option.map_eq_none_iff, List.head?_eq_none_iff] at this
    exact this
  · intro h c hc
    have := h c (List.mem_range.1 hc)
    unfold fsF
    rw [this]; rfl
theorem fs_some {x : Col} {sizes : List Int} {r : Int × List Int} (h : fsV x sizes = some r) : ∃ c : Nat, c < sizes.length ∧ r.1 = c ∧ r.2 ∈ cl (aB x c) (sizes.getD c 0).toNat (pts x) := by
  unfold fsV at h
  obtain ⟨c, hc, h⟩ := List.exists_of_findSome?_eq_some h
  unfold fsF at h
  rw [Option.map_eq_some_iff] at h
  obtain ⟨l, h1, rfl⟩ := h
  exact ⟨c, List.mem_range.1 hc, rfl, List.mem_of_head? h1⟩

/-! ### The lower bound -/
open Classical in
noncomputable def lbR (x : Col) (sizes : List Int) : Int × Int := if eC x sizes = 0 then (if avoidsP x sizes then (x.p + 1, 0) else (0, 5)) else (0, eC x sizes)
theorem lb_impl {k : Nat} (hk : 5000 ≤ k) (x : Col) (sizes : List Int) (hl : sizes.length ≤ 1000) : impl_LowerBound k x sizes = some (lbR x sizes) := by
  classical
  unfold impl_LowerBound impl_always lbR
  rw [implExt_val hk x sizes hl 17, Option.bind_some]
  unfold eS
  by_cases h : eC x sizes = 0
  · obtain ⟨hx, hz⟩ := eC_zero h
    have hp := hx.1
    rw [if_pos h, if_pos h]
    by_cases ha : avoidsP x sizes
    · have e17 : (if 17 < x.p then (3 : Int) else 0) = 0 := if_neg (by omega)
      rw [if_pos ha, if_pos ha, e17]
      simp only [decide_true, Bool.not_true, Bool.false_eq_true, if_false]
      rw [w64_id (by omega)]
    · rw [if_neg ha, if_neg ha]; rfl
  · rw [if_neg h, if_neg h, decide_eq_false h, Bool.not_false, if_pos rfl]
theorem lb_spec {k : Nat} (hk : 5000 ≤ k) (x : Col) (sizes : List Int) (hl : sizes.length ≤ 1000) : spec_LowerBound k x sizes = some (lbR x sizes) := by
  classical
  unfold spec_LowerBound lbR
  rw [specSizes2 hk x sizes hl, Option.bind_some]
  by_cases h : eC x sizes = 0
  · obtain ⟨hx, hz⟩ := eC_zero h
    have hp := hx.1
    obtain ⟨b, e, hb⟩ := specAvoids2 hk hx hz
    rw [decide_eq_true h, Bool.not_true, if_neg (by simp), e, Option.bind_some, if_pos h]
    by_cases ha : avoidsP x sizes
    · rw [hb.2 ha, if_pos ha, Bool.not_true, if_neg (by simp), w64_id (by omega)]
    · have : b = false := by
        cases b
        · rfl
        · exact absurd (hb.1 rfl) ha
      rw [this, if_neg ha, Bool.not_false, if_pos rfl]
  · rw [decide_eq_false h, Bool.not_false, if_pos rfl, if_neg h]

/-! ### The bound by neighbours -/
theorem cc_lt {x : Col} (hx : x.is) (a b : Nat) (ha : a < x.p.toNat) (hb : b < x.p.toNat) (h : a ≠ b) : 0 ≤ x.cc a b ∧ x.cc a b < x.k.toNat := by
  have main : ∀ a b : Nat, a < b → b < x.p.toNat → 0 ≤ x.cc a b ∧ x.cc a b < x.k.toNat := fun a b hab hb => by
    have hp := hx.1
    have h136 := eN_136 (i := a) (j := b) (by omega) (by omega) (by omega)
    have hlt := eN_lt (i := a) (j := b) (n := x.p.toNat) hab hb (by omega)
    have key : ∀ n : Nat, n ≤ 17 → 1 ≤ n → w64 ((w64 ((n : Int) * (w64 ((n : Int) - 1)))).tdiv 2) = (tri n : Nat) := by decide +kernel
    obtain ⟨n, hn⟩ := nat_of (show 0 ≤ x.p by omega)
    have hE : tE x = (tri n : Nat) := by
      unfold tE
      rw [hn]
      exact key n (by omega) (by omega)
    have hok := (hx.2.2 (eN a b : Nat) (by omega) (by omega)).1 (by rw [hE]; rw [hn] at hlt; simp at hlt; omega)
    have e : x.cc a b = ((x.get (eN a b)).toNat : Int) := rfl
    simp only [Int.toNat_natCast] at hok
    omega
  rcases Nat.lt_or_ge a b with q | q
  · exact main a b q hb
  · rw [cc_comm]; exact main b a (by omega) ha
theorem pw_both {A : Rl} (hs : ∀ a b, A a b = A b a) : ∀ (K : List Int), K.Pairwise (fun a b => A a b = true) → ∀ a ∈ K, ∀ b ∈ K, a ≠ b → A a b = true
  | [], _, a, ha, _, _, _ => by cases ha
  | z :: K, h, a, ha, b, hb, hab => by
    obtain ⟨h1, h2⟩ := List.pairwise_cons.1 h
    rcases List.mem_cons.1 ha with e1 | ha
    · rcases List.mem_cons.1 hb with e2 | hb
      · exact absurd (e1.trans e2.symm) hab
      · rw [e1]; exact h1 b hb
    · rcases List.mem_cons.1 hb with e2 | hb
      · rw [e2, hs]; exact h1 a ha
      · exact pw_both hs K h2 a ha b hb hab
theorem nodup_sub_len : ∀ (K M : List Int), K.Nodup → (∀ z ∈ K, z ∈ M) → K.length ≤ M.length
  | [], M, _, _ => Nat.zero_le _
  | a :: K, M, hn, hs => by
    obtain ⟨h1, h2⟩ := List.nodup_cons.1 hn
    have ha := hs a (List.mem_cons_self ..)
    have := nodup_sub_len K (M.erase a) h2 fun z hz => by
      refine (List.mem_erase_of_ne ?_).2 (hs z (List.mem_cons_of_mem _ hz))
      rintro rfl; exact h1 hz
    rw [List.length_erase_of_mem ha] at this
    have := List.length_pos_of_mem ha
    rw [List.length_cons]; omega
theorem hasK_cl {A : Rl} (hs : ∀ a b, A a b = A b a) (hi : ∀ a, A a a = false) {m n : Nat} (h : hasK A m (ir 0 n)) : cl A m (ir 0 n) ≠ [] := by
  obtain ⟨K, k1, k2, k3⟩ := h
  have hKn : K.Nodup := k3.imp fun {a b} hab e => by rw [e, hi] at hab; cases hab
  have hpw : ((ir 0 n).filter fun z => decide (z ∈ K)).Pairwise (fun a b => A a b = true) := by
    refine List.Pairwise.imp_of_mem (R := (· ≠ ·)) (fun {a b} ha hb hab => ?_) ((ir_nodup 0 n).filter _)
    exact pw_both hs K k3 a (by simpa using (List.mem_filter.1 ha).2) b (by simpa using (List.mem_filter.1 hb).2) hab
  have hlen : m ≤ ((ir 0 n).filter fun z => decide (z ∈ K)).length := by
    rw [← k1]
    exact nodup_sub_len K _ hKn fun z hz => List.mem_filter.2 ⟨k2 z hz, by simpa using hz⟩
  obtain ⟨d, hd⟩ : ∃ d, ((ir 0 n).filter fun z => decide (z ∈ K)).length = m + d := ⟨_, (Nat.add_sub_cancel' hlen).symm⟩
  refine cl_down A (ir 0 n) m d fun e => ?_
  have : ((ir 0 n).filter fun z => decide (z ∈ K)) ∈ cl A (m + d) (ir 0 n) := (mem_cl _ _ _ _).2 ⟨List.filter_sublist, hpw, hd⟩
  rw [e] at this; cases this
theorem lower_le {y : Col} (hy : y.is) {sizes : List Int} (hz : szOK y sizes) (ha : avoidsP y sizes) (h8 : ∀ z ∈ sizes, 1 ≤ z ∧ z ≤ 8) : y.p < nb8 (sorted sizes) := by
  have hp := hy.1
  have hk := hy.2.1
  have hlen := hz.1
  have hsp := srt_perm sizes
  have hw : wfs (sorted sizes) := ⟨fun e => by
    have := hsp.length_eq
    rw [e] at this
    simp at this; omega, by rw [hsp.length_eq]; omega, srt_pw _, fun z hz => h8 z (hsp.mem_iff.1 hz)⟩
  have hv := (nb8_valid _ _ rfl hw).perm hsp
  have hmap : ((List.range sizes.length).map fun c : Nat => (((aB y (c : Int)), sizes.getD c 0) : Rl × Int)).map Prod.snd = sizes := by
    refine List.ext_getElem (by simp) fun i h1 h2 => ?_
    simp [List.getD_eq_getElem?_getD, List.getElem?_eq_getElem h2]
  have := hv _ (pts y) hmap ⟨fun X hX => ?_, fun X hX => ?_, ir_nodup _ _, fun a ha2 b hb2 hab => ?_, fun X hX => ?_⟩
  · have hl : (pts y).length = y.p.toNat := by simp [pts, ir_length]
    rw [hl] at this; omega
  · obtain ⟨c, _, rfl⟩ := List.mem_map.1 hX
    exact fun a b => aB_comm ..
  · obtain ⟨c, _, rfl⟩ := List.mem_map.1 hX
    exact fun a => aB_irr ..
  · have h1 := mem_ir.1 (show a ∈ ir 0 y.p.toNat from ha2)
    have h2 := mem_ir.1 (show b ∈ ir 0 y.p.toNat from hb2)
    have hc := cc_lt hy a.toNat b.toNat (by omega) (by omega) (by omega)
    rw [show ((a.toNat : Nat) : Int) = a by omega, show ((b.toNat : Nat) : Int) = b by omega] at hc
    refine ⟨_, List.mem_map.2 ⟨(y.cc a b).toNat, List.mem_range.2 (by omega), rfl⟩, ?_⟩
    show aB y (((y.cc a b).toNat : Nat) : Int) a b = true
    unfold aB
    rw [decide_eq_true]
    exact ⟨hab, by omega⟩
  · obtain ⟨c, hc, rfl⟩ := List.mem_map.1 hX
    intro hk2
    exact hasK_cl (fun a b => aB_comm ..) (fun a => aB_irr ..) hk2 (ha c (List.mem_range.1 hc))

/-! ### The numbers of cliques -/
theorem grt_len {k : Nat} (hk : 5000 ≤ k) {x : Col} (hx : x.is) (c : Nat) {m : Nat} : cl (aB x c) m (pts x) = [] ↔ (grt (acl x c) []).length < m := by
  obtain ⟨w, l, _, hg⟩ := specGreatest_val hk x hx.1 c
  have e := grt_is hg
  obtain ⟨g1, g2, g3, g4⟩ := hg
  have hm := List.mem_of_head? g3
  have hl : l.length = w := ((mem_cl _ _ _ _).1 hm).2.2
  rw [e, hl]
  constructor
  · intro h
    refine Classical.byContradiction fun hc => ?_
    obtain ⟨d, hd⟩ : ∃ d, w = m + d := ⟨w - m, by omega⟩
    refine cl_down (aB x c) (pts x) m d (fun h2 => ?_) h
    rw [hd, h2] at hm; cases hm
  · intro h
    refine Classical.byContradiction fun hc => ?_
    obtain ⟨d, hd⟩ : ∃ d, m = (w + 1) + d := ⟨m - (w + 1), by omega⟩
    rw [hd] at hc
    exact cl_down (aB x c) (pts x) (w + 1) d hc g4
theorem isClq_good {k : Nat} (hk : 5000 ≤ k) {x : Col} (hx : x.is) {c : Int} (hc : 0 ≤ c ∧ c ≤ x.k - 1) {m : Nat} (hm : m ≤ 17) {l : List Int} (h : l ∈ cl (aB x c) m (pts x)) : impl_IsClique k x c l = some (true, 0) := by
  classical
  obtain ⟨g1, g2, g3, g4⟩ := cl_good hx h
  obtain ⟨c1, c2⟩ := code_cases hk x
  have hcl : impl_IsClique_c1 k x c l = some (decide (inP x l ∧ inc l)) := by
    unfold impl_IsClique_c1
    rw [hasColour_val hx c, decide_eq_true hc, isSet_eq k x hx l (by omega) (by omega)]
    simp
  unfold impl_IsClique
  rw [hcl, decide_eq_true ⟨g1, g2⟩, (c1 hx).1, implIsC hk x hx.1 c l (by omega) (inP_inR hx.1.2 g1), decide_eq_true g3]
  simp

theorem bindK {α β : Type} {X : Option α} (v : α) {F : α → Option β} {r : Option β} (h : X = some v) (h2 : F v = r) : X.bind F = r := by subst h; exact h2
theorem small_step (x : Col) (sizes G : List Int) (e : Int) (k' : Nat) (b : Bool) (c : Nat) (h1 : c < G.length) (h2 : c < sizes.length) :
    laws_FnAvoided_l0 (x, sizes) (some G, e) (k' + 1) b (c : Int) = laws_FnAvoided_l0 (x, sizes) (some G, e) k' (b && decide (G.getD c 0 < sizes.getD c 0)) (w64 ((c : Int) + 1)) := by
  have a1 : (c : Int) < (G.length : Int) := by omega
  have a2 : (c : Int) < (sizes.length : Int) := by omega
  rw [laws_FnAvoided_l0]
  cases b
  · simp [a1, h1]
  · simp [a1, a2, h1, h2]
theorem small_loop {k : Nat} (hk : 5000 ≤ k) {x : Col} (hx : x.is) {sizes : List Int} (hz : szOK x sizes) (e : Int) : laws_FnAvoided_l0 (x, sizes) (some (mapL x.k.toNat fun c => ((grt (acl x c) []).length : Int)), e) k true 0 = some (fsV x sizes).isNone := by
  classical
  have hk4 := hx.2.1
  have hlen := hz.1
  have hm : (mapL x.k.toNat fun c => ((grt (acl x c) []).length : Int)).length = sizes.length := by rw [mapL_length]; omega
  have hav : (fsV x sizes).isNone = decide (avoidsP x sizes) := by
    rw [Bool.eq_iff_iff, Option.isNone_iff_eq_none, fs_none, decide_eq_true_iff]
  rw [hav]
  obtain ⟨r, h1, rfl⟩ := loopI (fun k' i (b : Bool) => laws_FnAvoided_l0 (x, sizes) (some (mapL x.k.toNat fun c => ((grt (acl x c) []).length : Int)), e) k' b i) (sizes.length : Int) 0
    (fun i b => ∃ c : Nat, i = c ∧ c ≤ sizes.length ∧ (b = true ↔ ∀ j, j < c → cl (aB x (j : Int)) (sizes.getD j 0).toNat (pts x) = []))
    (fun r => r = decide (avoidsP x sizes))
    (fun k' i b h0 hi hI => by
      obtain ⟨c, rfl, hc, hb⟩ := hI
      left
      have hcl : c < sizes.length := by omega
      obtain ⟨z1, z2, z3⟩ := sz_get hz (c := c) (by omega)
      have hg : (mapL x.k.toNat fun c => ((grt (acl x c) []).length : Int)).getD c 0 = ((grt (acl x c) []).length : Int) := mapL_get _ _ _ (by omega)
      have hq := grt_len hk hx c (m := (sizes.getD c 0).toNat)
      refine ⟨b && decide (((grt (acl x c) []).length : Int) < sizes.getD c 0), ?_, c + 1, by omega, by omega, ?_⟩
      · show laws_FnAvoided_l0 (x, sizes) (some (mapL x.k.toNat fun c => ((grt (acl x c) []).length : Int)), e) (k' + 1) b (c : Int) = _
        rw [small_step _ _ _ _ _ _ _ (by omega) hcl, hg, w64_id (by omega)]
      · rw [Bool.and_eq_true, hb, decide_eq_true_iff]
        constructor
        · rintro ⟨q1, q2⟩ j hj
          by_cases hjc : j = c
          · subst hjc; exact hq.2 (by omega)
          · exact q1 j (by omega)
        · intro q
          exact ⟨fun j hj => q j (by omega), by have := hq.1 (q c (by omega)); omega⟩)
    (fun k' i b h0 hi hI => by
      obtain ⟨c, rfl, hc, hb⟩ := hI
      have : c = sizes.length := by omega
      subst this
      rw [laws_FnAvoided_l0]
      simp only [Option.getD_some]
      rw [decide_eq_false (by rw [hm]; omega), if_neg (by simp)]
      refine ⟨_, rfl, ?_⟩
      rw [Bool.eq_iff_iff, hb, decide_eq_true_iff]; rfl)
    k 0 true (by omega) (by omega) ⟨0, rfl, by omega, by simp⟩
  exact h1

theorem avoided_k {k : Nat} (hk : 5000 ≤ k) (code : List UInt8) : laws_FnAvoided k code = some true := by
  classical
  unfold laws_FnAvoided
  by_cases hb : laws_big code = true
  · rw [if_pos hb]
  have hc : code.length ≤ 4096 := by
    unfold laws_big at hb
    simp at hb; omega
  rw [if_neg hb]
  obtain ⟨x, sizes, d1, hl⟩ := drawSizes_ok hk code hc
  obtain ⟨y, given, d2, hl2⟩ := drawLower_ok hk code hc
  have hfl : (fsR x sizes).2.1.length ≤ 100 := by
    unfold fsR
    split
    · rename_i h
      obtain ⟨hx, hz⟩ := eC_zero h
      cases hq : fsV x sizes with
      | none => simp
      | some r =>
        obtain ⟨c, hc, _, hm⟩ := fs_some hq
        have := ((mem_cl _ _ _ _).1 hm).2.2
        obtain ⟨z1, z2, _⟩ := sz_get hz (c := c) (by have := hz.1; omega)
        simp only; omega
    · simp
  unfold spec_DrawAvoidsSizes
  rw [d1, Option.bind_some, Option.bind_some]
  simp only
  rw [av_impl hk x sizes (by omega), Option.bind_some, av_spec hk x sizes (by omega), Option.bind_some]
  simp only [decide_true, Bool.not_true, Bool.false_eq_true, if_false, letO, Option.bind_some, beq_self_eq_true]
  rw [fs_impl hk x sizes (by omega), Option.bind_some, fs_spec hk x sizes (by omega), Option.bind_some]
  simp only [decide_true, Bool.not_true, Bool.false_eq_true, if_false]
  rw [like_refl k _ (by omega) (by omega), Option.bind_some]
  simp only [Bool.not_true, Option.bind_some, Bool.false_eq_true, if_false]
  rw [d2, Option.bind_some]
  simp only
  rw [lb_impl hk y given (by omega), Option.bind_some, lb_spec hk y given (by omega), Option.bind_some]
  simp only [decide_true, Bool.not_true, Bool.false_eq_true, if_false, letO, Option.bind_some]
  refine bindK (.inl ()) ?_ ?_
  · unfold lbR
    by_cases h : eC y given = 0
    · obtain ⟨hy, hz⟩ := eC_zero h
      have hp := hy.1
      rw [if_pos h]
      by_cases ha : avoidsP y given
      · rw [if_pos ha]
        simp only [decide_true, if_true]
        rw [implNb_val hk given (by omega), Option.bind_some, w64_id (by omega)]
        simp only [decide_true, Bool.not_true, Bool.false_eq_true, if_false]
        split
        · rename_i h8
          have := lower_le hy hz ha h8.2
          split
          · simp
          · simp only [decide_true, if_true]
            rw [decide_eq_false (by omega)]; rfl
        · simp
      · rw [if_neg ha]; simp
    · rw [if_neg h]; simp [h]
  simp only
  by_cases h : eC x sizes = 0
  · obtain ⟨hx, hz⟩ := eC_zero h
    have hk4 := hx.2.1
    have hlen := hz.1
    have e1 : avR x sizes = (decide (avoidsP x sizes), 0) := by unfold avR; rw [if_pos h]
    rw [e1]
    simp only [decide_true, Bool.not_true, Bool.false_eq_true, if_false]
    have hsl := small_loop hk hx hz 0
    cases hq : fsV x sizes with
    | none =>
      have ha := fs_none.1 hq
      have e2 : fsR x sizes = (0, [], 4) := by unfold fsR; rw [if_pos h, hq]
      rw [e2, decide_eq_true ha, cliques_val hk hx]
      rw [hq] at hsl
      simp only [Option.bind_some, decide_true, Bool.not_true, Bool.false_eq_true, if_false, beq_self_eq_true]
      rw [hsl]
      simp
    | some r =>
      obtain ⟨c, hc, hr1, hm⟩ := fs_some hq
      obtain ⟨z1, z2, _⟩ := sz_get hz (c := c) (by omega)
      have ha : ¬ avoidsP x sizes := fun ha => by rw [fs_none.2 ha] at hq; cases hq
      have e2 : fsR x sizes = (r.1, r.2, 0) := by unfold fsR; rw [if_pos h, hq]
      have hlr := ((mem_cl _ _ _ _).1 hm).2.2
      rw [e2, decide_eq_false ha, cliques_val hk hx]
      rw [hq] at hsl
      have hic := isClq_good hk hx (c := (c : Int)) (by omega) (by omega) hm
      simp only [Option.bind_some, decide_true, Bool.not_true, Bool.false_eq_true, if_false, hr1]
      have h04 : decide ((0 : Int) = 4) = false := rfl
      rw [h04, hsl]
      simp only [Option.bind_some, Option.isNone_some, beq_self_eq_true, Bool.not_true, Bool.false_eq_true, if_false, if_true]
      rw [hic]
      simp only [Option.bind_some, decide_true, Bool.not_true, Bool.false_eq_true, if_false]
      rw [if_pos (by omega), Int.toNat_natCast, decide_eq_true (by omega)]
      simp
  · have e1 : avR x sizes = (false, eC x sizes) := by unfold avR; rw [if_neg h]
    have e2 : fsR x sizes = (0, [], eC x sizes) := by unfold fsR; rw [if_neg h]
    rw [e1, e2]
    simp [h]
theorem avoided_pure (code : List UInt8) : laws_FnAvoided 200000 code = some true := avoided_k (by decide) code
end Go.Proofs.YtghhnpdhehjlaaaGreat
