/- Positions of the game: what both sides compute of them. No conditions beyond those that each lemma states. -/
import Derived.Test.YtkonbaijkcaehaaGreatDoorPureCore24
import Derived.Test.YtkonbaijkcaehaaGreatDoorPBits
set_option linter.unusedVariables false
set_option linter.unusedSimpArgs false
namespace Go.Proofs.YtkonbaijkcaehaaGreatDoor
open Go Go.RowKit Ab

/-! ### The shape -/
def sh (n : Int) (l : List Int) : Prop := (1 ≤ n ∧ n ≤ 5) ∧ l.length = tri n.toNat ∧ ∀ a : Nat, a < l.length → -1 ≤ l.getD a 0 ∧ l.getD a 0 ≤ 1

theorem tri_w (n : Int) (h : 1 ≤ n ∧ n ≤ 5) : w64 ((w64 (n * (w64 (n - 1)))).tdiv 2) = (tri n.toNat : Int) := by
  obtain ⟨m, rfl⟩ := nat_of (show 0 ≤ n by omega)
  rw [Int.toNat_natCast]
  have : ∀ n : Nat, n ≤ 5 → w64 ((w64 ((n : Int) * (w64 ((n : Int) - 1)))).tdiv 2) = (tri n : Int) := by decide +kernel
  exact this m (by omega)

theorem tri5 (n : Int) (h : 1 ≤ n ∧ n ≤ 5) : tri n.toNat ≤ 10 := by
  have : ∀ n : Nat, n ≤ 5 → tri n ≤ 10 := by decide +kernel
  exact this _ (by omega)

open Classical in
theorem lists_eq (k : Nat) (n : Int) (l : List Int) (hk : l.length + 1 ≤ k) (hl : (l.length : Int) ≤ 1099511627776) : spec_l09Lists k n l = some (if sh n l then 0 else 2) := by
  unfold spec_l09Lists
  rw [specIn_eq]
  by_cases hn : 1 ≤ n ∧ n ≤ 5
  · rw [tri_w n hn, decide_eq_true hn]
    by_cases hlen : l.length = tri n.toNat
    · have h2 : (l.length : Int) = (tri n.toNat : Int) := by omega
      rw [decide_eq_true h2]
      simp only [letO, Bool.not_true, Bool.false_eq_true, if_false, Option.bind_some]
      rw [loopAll (f := fun k' i => spec_l09Lists_l0 l k' i) (l.length : Int) 2 (fun i => -1 ≤ l.getD i.toNat 0 ∧ l.getD i.toNat 0 ≤ 1) 0 ?_ ?_ ?_ k 0 (by omega) (by omega)]
      · by_cases h : ∀ j : Int, 0 ≤ j → j < l.length → -1 ≤ l.getD j.toNat 0 ∧ l.getD j.toNat 0 ≤ 1
        · have hs : sh n l := ⟨hn, hlen, fun a ha => by
            have := h a (by omega) (by omega)
            rwa [Int.toNat_natCast] at this⟩
          rw [if_pos h, if_pos hs]; rfl
        · have hs : ¬ sh n l := fun hs => h fun j h0 h1 => hs.2.2 j.toNat (by omega)
          rw [if_neg h, if_neg hs]; rfl
      · intro k' i h0 h1 hq
        show spec_l09Lists_l0 l (k' + 1) i = _
        rw [spec_l09Lists_l0, w64_succ h0 h1 (by omega), specIn_eq, decide_eq_true hq]
        simp [h0, h1]
      · intro k' i h0 h1 hq
        show spec_l09Lists_l0 l (k' + 1) i = _
        rw [spec_l09Lists_l0, specIn_eq, decide_eq_false hq]
        simp [h0, h1]
      · intro k' i h1
        show spec_l09Lists_l0 l (k' + 1) i = _
        rw [spec_l09Lists_l0]
        have : ¬ i < (l.length : Int) := by omega
        simp [this]
    · have h2 : ¬ (l.length : Int) = (tri n.toNat : Int) := by omega
      rw [decide_eq_false h2, if_neg (show ¬ sh n l from fun hs => hlen hs.2.1)]
      rfl
  · rw [decide_eq_false hn, if_neg (show ¬ sh n l from fun hs => hn hs.1)]
    rfl

theorem indexF_eq (l : List Int) (f : Int → Option Bool) (g : Int → Bool) (hf : ∀ z ∈ l, f z = some (g z)) (hl : (l.length : Int) ≤ 1099511627776) : ∀ (d k : Nat) (i : Nat), i + d = l.length → d < k →
    ∃ r : Sum Unit Int, slices_IndexFunc_l0 l f k i = some r ∧ ((∃ z : Int, r = .inr z ∧ 0 ≤ z ∧ (l.drop i).any g = true) ∨ (r = .inl () ∧ (l.drop i).any g = false)) := by
  intro d
  induction d with
  | zero =>
    intro k i h hk
    obtain ⟨k, rfl⟩ : ∃ k', k = k' + 1 := ⟨k - 1, by omega⟩
    have : ¬ (i : Int) < (l.length : Int) := by omega
    exact ⟨.inl (), by rw [slices_IndexFunc_l0]; simp [this], .inr ⟨rfl, by rw [List.drop_of_length_le (by omega)]; rfl⟩⟩
  | succ d ih =>
    intro k i h hk
    obtain ⟨k, rfl⟩ : ∃ k', k = k' + 1 := ⟨k - 1, by omega⟩
    have hi : i < l.length := by omega
    have h1 : (i : Int) < (l.length : Int) := by omega
    have hd := List.drop_eq_getElem_cons hi
    have hg : l.getD i 0 = l[i] := by simp [List.getD, hi]
    have hmem : l[i] ∈ l := List.getElem_mem hi
    rw [slices_IndexFunc_l0, if_pos (decide_eq_true h1), if_pos ⟨by omega, h1⟩, Int.toNat_natCast, hg, hf _ hmem, w64_succ (by omega) h1 (by omega)]
    simp only [Option.bind_some]
    rw [hd]
    cases hz : g l[i] with
    | true =>
      refine ⟨.inr i, by simp, .inl ⟨i, rfl, by omega, by rw [List.any_cons, hz]; rfl⟩⟩
    | false =>
      obtain ⟨r, e, hr⟩ := ih k (i + 1) (by omega) (by omega)
      rw [show ((i : Int) + 1) = ((i + 1 : Nat) : Int) by omega, e]
      refine ⟨r, by simp, ?_⟩
      rw [List.any_cons, hz, Bool.false_or]
      exact hr

theorem containsF_eq (k : Nat) (l : List Int) (f : Int → Option Bool) (g : Int → Bool) (hf : ∀ z ∈ l, f z = some (g z)) (hk : l.length + 1 ≤ k) (hl : (l.length : Int) ≤ 1099511627776) : slices_ContainsFunc k l f = some (l.any g) := by
  unfold slices_ContainsFunc slices_IndexFunc
  obtain ⟨r, e, hr⟩ := indexF_eq l f g hf hl l.length k 0 (by omega) (by omega)
  rw [show ((0 : Nat) : Int) = 0 from rfl] at e
  rw [e]
  simp only [Option.bind_some, List.drop_zero] at hr ⊢
  rcases hr with ⟨z, rfl, h0, h1⟩ | ⟨rfl, h1⟩
  · simp [h0, h1]
  · simp [h1]

theorem indexR_eq (l : List (List Int)) (f : List Int → Option Bool) (g : List Int → Bool) (hf : ∀ z ∈ l, f z = some (g z)) (hl : (l.length : Int) ≤ 1099511627776) : ∀ (d k : Nat) (i : Nat), i + d = l.length → d < k →
    ∃ r : Sum Unit Int, slices_IndexFunc_R_l0 l f k i = some r ∧ ((∃ z : Int, r = .inr z ∧ 0 ≤ z ∧ (l.drop i).any g = true) ∨ (r = .inl () ∧ (l.drop i).any g = false)) := by
  intro d
  induction d with
  | zero =>
    intro k i h hk
    obtain ⟨k, rfl⟩ : ∃ k', k = k' + 1 := ⟨k - 1, by omega⟩
    have : ¬ (i : Int) < (l.length : Int) := by omega
    exact ⟨.inl (), by rw [slices_IndexFunc_R_l0]; simp [this], .inr ⟨rfl, by rw [List.drop_of_length_le (by omega)]; rfl⟩⟩
  | succ d ih =>
    intro k i h hk
    obtain ⟨k, rfl⟩ : ∃ k', k = k' + 1 := ⟨k - 1, by omega⟩
    have hi : i < l.length := by omega
    have h1 : (i : Int) < (l.length : Int) := by omega
    have hd := List.drop_eq_getElem_cons hi
    have hg : l.getD i [] = l[i] := by simp [List.getD, hi]
    have hmem : l[i] ∈ l := List.getElem_mem hi
    rw [slices_IndexFunc_R_l0, if_pos (decide_eq_true h1), if_pos ⟨by omega, h1⟩, Int.toNat_natCast, hg, hf _ hmem, w64_succ (by omega) h1 (by omega)]
    simp only [Option.bind_some]
    rw [hd]
    cases hz : g l[i] with
    | true =>
      refine ⟨.inr i, by simp, .inl ⟨i, rfl, by omega, by rw [List.any_cons, hz]; rfl⟩⟩
    | false =>
      obtain ⟨r, e, hr⟩ := ih k (i + 1) (by omega) (by omega)
      rw [show ((i : Int) + 1) = ((i + 1 : Nat) : Int) by omega, e]
      refine ⟨r, by simp, ?_⟩
      rw [List.any_cons, hz, Bool.false_or]
      exact hr

theorem containsR_eq (k : Nat) (l : List (List Int)) (f : List Int → Option Bool) (g : List Int → Bool) (hf : ∀ z ∈ l, f z = some (g z)) (hk : l.length + 1 ≤ k) (hl : (l.length : Int) ≤ 1099511627776) : slices_ContainsFunc_R k l f = some (l.any g) := by
  unfold slices_ContainsFunc_R slices_IndexFunc_R
  obtain ⟨r, e, hr⟩ := indexR_eq l f g hf hl l.length k 0 (by omega) (by omega)
  rw [show ((0 : Nat) : Int) = 0 from rfl] at e
  rw [e]
  simp only [Option.bind_some, List.drop_zero] at hr ⊢
  rcases hr with ⟨z, rfl, h0, h1⟩ | ⟨rfl, h1⟩
  · simp [h0, h1]
  · simp [h1]

open Classical in
theorem shape_eq (k : Nat) (n : Int) (l : List Int) (hk : l.length + 1 ≤ k) (hl : (l.length : Int) ≤ 1099511627776) : impl_position_isShape k ⟨n, l⟩ = some (decide (sh n l)) := by
  unfold impl_position_isShape impl_areIn impl_size
  simp only [in_eq]
  by_cases hn : 1 ≤ n ∧ n ≤ 5
  · rw [tri_w n hn, decide_eq_true hn]
    by_cases hlen : l.length = tri n.toNat
    · have h2 : (l.length : Int) = (tri n.toNat : Int) := by omega
      rw [decide_eq_true h2, containsF_eq k l _ (fun z => !decide (-1 ≤ z ∧ z ≤ 1)) (fun z _ => by unfold impl_areIn_c1; rw [in_eq]) hk hl]
      simp only [if_true, Option.bind_some]
      congr 1
      by_cases hs : sh n l
      · rw [decide_eq_true hs]
        have : l.any (fun z => !decide (-1 ≤ z ∧ z ≤ 1)) = false := by
          rw [List.any_eq_false]
          intro z hz
          obtain ⟨a, ha, rfl⟩ := mem_getD.1 hz
          rw [decide_eq_true (hs.2.2 a ha)]; simp
        rw [this]; rfl
      · rw [decide_eq_false hs]
        have : l.any (fun z => !decide (-1 ≤ z ∧ z ≤ 1)) = true := by
          rw [List.any_eq_true]
          apply Classical.byContradiction
          intro hno
          apply hs
          refine ⟨hn, hlen, fun a ha => ?_⟩
          apply Classical.byContradiction
          intro hc
          exact hno ⟨l.getD a 0, mem_getD.2 ⟨a, ha, rfl⟩, by rw [decide_eq_false hc]; rfl⟩
        rw [this]; rfl
    · have h2 : ¬ (l.length : Int) = (tri n.toNat : Int) := by omega
      rw [decide_eq_false h2, decide_eq_false (fun hs : sh n l => hlen hs.2.1)]
      rfl
  · rw [decide_eq_false hn, decide_eq_false (fun hs : sh n l => hn hs.1)]
    rfl

/-! ### The mover -/
theorem many_eq (k : Nat) (n who : Int) (l : List Int) (hk : l.length + 1 ≤ k) (hl : (l.length : Int) ≤ 1099511627776) : impl_position_many k ⟨n, l⟩ who = some (l.count who : Int) := by
  unfold impl_position_many
  have := loopI (f := fun k' t (s : Int) => impl_position_many_l0 ⟨n, l⟩ who k' s t) (l.length : Int) 0 (fun t s => t ≤ l.length ∧ s = ((l.take t.toNat).count who : Int)) (fun r => r = (l.count who : Int)) ?_ ?_ k 0 0 (by omega) (by omega) ⟨by omega, by simp⟩
  · obtain ⟨r, e, rfl⟩ := this
    rw [e]; rfl
  · rintro k' t s h0 h1 ⟨_, q⟩
    left
    obtain ⟨m, rfl⟩ := nat_of h0
    have hm : m < l.length := by omega
    rw [Int.toNat_natCast] at q
    have htk : l.take (m + 1) = l.take m ++ [l.getD m 0] := by
      rw [List.take_succ_eq_append_getElem hm]; simp [List.getD, hm]
    have hc : (l.take m).count who ≤ m := Nat.le_trans List.count_le_length (by simp; omega)
    refine ⟨((l.take (m + 1)).count who : Int), ?_, by omega, by rw [show ((m : Int) + 1).toNat = m + 1 by omega]⟩
    show impl_position_many_l0 ⟨n, l⟩ who (k' + 1) s m = _
    rw [impl_position_many_l0, w64_succ h0 h1 (by omega), if_pos (decide_eq_true h1), if_pos ⟨h0, h1⟩, Int.toNat_natCast, htk, List.count_append, q]
    rw [w64_id (by omega)]
    generalize l.getD m 0 = z
    by_cases h : z = who
    · subst h; simp
    · simp [h]
  · rintro k' t s h0 h1 ⟨q0, q⟩
    have : t = l.length := by omega
    subst this
    rw [Int.toNat_natCast, List.take_length] at q
    refine ⟨s, ?_, q⟩
    show impl_position_many_l0 ⟨n, l⟩ who (k' + 1) s l.length = _
    rw [impl_position_many_l0]; simp

theorem counts_eq (k : Nat) (l : List Int) (hk : l.length + 1 ≤ k) (hl : (l.length : Int) ≤ 1099511627776) : spec_l09Counts k l = some ((l.count 0 : Int), (l.count 1 : Int)) := by
  unfold spec_l09Counts
  have := loopI (f := fun k' t (s : Int × Int) => spec_l09Counts_l0 l k' s.1 s.2 t) (l.length : Int) 0 (fun t s => t ≤ l.length ∧ s.1 = ((l.take t.toNat).count 0 : Int) ∧ s.2 = ((l.take t.toNat).count 1 : Int)) (fun r => r = ((l.count 0 : Int), (l.count 1 : Int))) ?_ ?_ k 0 (0, 0) (by omega) (by omega) ⟨by omega, by simp, by simp⟩
  · obtain ⟨r, e, rfl⟩ := this
    simp only at e
    rw [e]; rfl
  · rintro k' t ⟨s1, s2⟩ h0 h1 ⟨_, q1, q2⟩
    left
    obtain ⟨m, rfl⟩ := nat_of h0
    have hm : m < l.length := by omega
    simp only [Int.toNat_natCast] at q1 q2
    have htk : l.take (m + 1) = l.take m ++ [l.getD m 0] := by
      rw [List.take_succ_eq_append_getElem hm]; simp [List.getD, hm]
    have hc0 : (l.take m).count 0 ≤ m := Nat.le_trans List.count_le_length (by simp; omega)
    have hc1 : (l.take m).count 1 ≤ m := Nat.le_trans List.count_le_length (by simp; omega)
    refine ⟨(((l.take (m + 1)).count 0 : Int), ((l.take (m + 1)).count 1 : Int)), ?_, by omega, by rw [show ((m : Int) + 1).toNat = m + 1 by omega], by rw [show ((m : Int) + 1).toNat = m + 1 by omega]⟩
    show spec_l09Counts_l0 l (k' + 1) s1 s2 m = _
    rw [spec_l09Counts_l0, w64_succ h0 h1 (by omega), if_pos (decide_eq_true h1), if_pos ⟨h0, h1⟩, Int.toNat_natCast, htk, List.count_append, List.count_append, q1, q2, w64_id (by omega), w64_id (by omega)]
    generalize l.getD m 0 = z
    by_cases hz0 : z = 0
    · subst hz0; simp [h1]
    · by_cases hz1 : z = 1
      · subst hz1; simp [h1]
      · simp [hz0, hz1, h1]
  · rintro k' t ⟨s1, s2⟩ h0 h1 ⟨q0, q1, q2⟩
    have : t = l.length := by omega
    subst this
    simp only [Int.toNat_natCast, List.take_length] at q1 q2
    refine ⟨(s1, s2), ?_, by rw [q1, q2]⟩
    show spec_l09Counts_l0 l (k' + 1) s1 s2 l.length = _
    rw [spec_l09Counts_l0]; simp

/-! ### Triangles -/
def hasT (l : List Int) (who : Int) (i j m : Nat) : Prop := l.getD (eN i j) 0 = who ∧ l.getD (eN i m) 0 = who ∧ l.getD (eN j m) 0 = who
def tri3 (i j m : Nat) : List Int := [(eN i j : Int), (eN i m : Int), (eN j m : Int)]
/-- What loops over triples have behind them. -/
def prc (m j i i' j' m' : Nat) : Prop := i' < j' ∧ j' < m' ∧ (m' < m ∨ (m' = m ∧ (j' < j ∨ (j' = j ∧ i' < i))))
theorem prc_step {m j i i' j' m' : Nat} (h1 : i < j) (h2 : j < m) : prc m j (i + 1) i' j' m' ↔ prc m j i i' j' m' ∨ (i' = i ∧ j' = j ∧ m' = m) := by
  unfold prc
  constructor
  · rintro ⟨a, b, c⟩
    by_cases e : i' = i ∧ j' = j ∧ m' = m
    · exact .inr e
    · exact .inl ⟨a, b, by omega⟩
  · rintro (⟨a, b, c⟩ | ⟨rfl, rfl, rfl⟩)
    · exact ⟨a, b, by omega⟩
    · exact ⟨h1, h2, by omega⟩
theorem prc_row {m j i' j' m' : Nat} : prc m j j i' j' m' ↔ prc m (j + 1) 0 i' j' m' := by
  unfold prc
  constructor
  · rintro ⟨a, b, c⟩; exact ⟨a, b, by omega⟩
  · rintro ⟨a, b, c⟩; exact ⟨a, b, by omega⟩
theorem prc_lay {m i' j' m' : Nat} : prc m m 0 i' j' m' ↔ prc (m + 1) 0 0 i' j' m' := by
  unfold prc
  constructor
  · rintro ⟨a, b, c⟩; exact ⟨a, b, by omega⟩
  · rintro ⟨a, b, c⟩; exact ⟨a, b, by omega⟩
theorem prc_one {m i' j' m' : Nat} : prc m 1 0 i' j' m' ↔ prc m 0 0 i' j' m' := by
  unfold prc
  constructor
  · rintro ⟨a, b, c⟩; exact ⟨a, b, by omega⟩
  · rintro ⟨a, b, c⟩; exact ⟨a, b, by omega⟩
theorem prc_two {i' j' m' : Nat} : ¬ prc 2 0 0 i' j' m' := by
  unfold prc
  rintro ⟨a, b, c⟩; omega
theorem prc_all {n i' j' m' : Nat} : prc n 0 0 i' j' m' ↔ i' < j' ∧ j' < m' ∧ m' < n := by
  unfold prc
  constructor
  · rintro ⟨a, b, c⟩; exact ⟨a, b, by omega⟩
  · rintro ⟨a, b, c⟩; exact ⟨a, b, by omega⟩

/-- What the reference knows of the triangles. -/
def CInv (l : List Int) (who : Int) (pr : Nat → Nat → Nat → Prop) (s : Int × Int) : Prop :=
  (∃ c : Nat, s.1 = c ∧ c < 2 ^ l.length ∧ ∀ e, c.testBit e = true ↔ e < l.length ∧ ∀ i j m, pr i j m → hasT l who i j m → (e : Int) ∈ tri3 i j m) ∧ 0 ≤ s.2 ∧ (s.2 = 0 ↔ ∀ i j m, pr i j m → ¬ hasT l who i j m)

theorem CInv.congr {l : List Int} {who : Int} {p q : Nat → Nat → Nat → Prop} {s : Int × Int} (h : ∀ i j m, p i j m ↔ q i j m) (hs : CInv l who p s) : CInv l who q s := by
  obtain ⟨⟨c, c1, c2, c3⟩, h0, h1⟩ := hs
  refine ⟨⟨c, c1, c2, fun e => ?_⟩, h0, ?_⟩
  · rw [c3 e]; simp only [h]
  · rw [h1]; simp only [h]

theorem mask_eq {a b c : Nat} (ha : a < 60) (hb : b < 60) (hc : c < 60) : bOr .i64 (bOr .i64 (bShl .i64 1 (a : Int)) (bShl .i64 1 (b : Int))) (bShl .i64 1 (c : Int)) = ((2 ^ a ||| 2 ^ b ||| 2 ^ c : Nat) : Int) := by
  have p : ∀ {i : Nat}, i < 60 → 2 ^ i < 2 ^ 63 := fun h => Nat.pow_lt_pow_right (by omega) (by omega)
  rw [bShl_one (by omega), bShl_one (by omega), bShl_one (by omega), bOr_nat (p ha) (p hb), bOr_nat (Nat.or_lt_two_pow (p ha) (p hb)) (p hc)]

theorem common_l2 (l : List Int) (who : Int) (n : Nat) (hn : n ≤ 5) (hlen : l.length = tri n) (m j : Nat) (hm : m < n) (hj : j < m) (k : Nat) (hk : 10 ≤ k) (c cnt : Int) (B : Int) (hB : B ≤ 1000) (hc : CInv l who (prc m j 0) (c, cnt)) (hb : cnt ≤ B) :
    ∃ r, spec_l09Common_l2 l who m j k c cnt 0 = some r ∧ CInv l who (prc m j j) r ∧ r.2 ≤ B + 5 := by
  have h10 : l.length ≤ 10 := by
    rw [hlen]
    have : ∀ n : Nat, n ≤ 5 → tri n ≤ 10 := by decide +kernel
    exact this n hn
  have := loopI (f := fun k' t (s : Int × Int) => spec_l09Common_l2 l who m j k' s.1 s.2 t) (j : Int) 0 (fun t s => t ≤ j ∧ CInv l who (prc m j t.toNat) s ∧ s.2 ≤ B + t) (fun r => CInv l who (prc m j j) r ∧ r.2 ≤ B + 5) ?_ ?_ k 0 (c, cnt) (by omega) (by omega) ⟨by omega, hc, by simp only; omega⟩
  · exact this
  · rintro k' t ⟨c, cnt⟩ h0 h1 ⟨_, q, qb⟩
    left
    obtain ⟨i, rfl⟩ := nat_of h0
    have hi : i < j := by omega
    rw [Int.toNat_natCast] at q
    simp only at qb
    obtain ⟨⟨cN, e1, c2, c3⟩, z0, z1⟩ := q
    simp only at e1 z0 z1
    subst e1
    have e_ij : spec_l01Edge (i : Int) (j : Int) = (eN i j : Int) := by rw [edge_eq _ _ (by omega) (by omega)]; simp
    have e_im : spec_l01Edge (i : Int) (m : Int) = (eN i m : Int) := by rw [edge_eq _ _ (by omega) (by omega)]; simp
    have e_jm : spec_l01Edge (j : Int) (m : Int) = (eN j m : Int) := by rw [edge_eq _ _ (by omega) (by omega)]; simp
    have l1 : eN i j < l.length := by rw [hlen]; exact eN_lt hi (by omega) (by omega)
    have l2 : eN i m < l.length := by rw [hlen]; exact eN_lt (by omega) hm (by omega)
    have l3 : eN j m < l.length := by rw [hlen]; exact eN_lt hj hm (by omega)
    have g1 : (0 : Int) ≤ (eN i j : Int) ∧ (eN i j : Int) < (l.length : Int) := by omega
    have g2 : (0 : Int) ≤ (eN i m : Int) ∧ (eN i m : Int) < (l.length : Int) := by omega
    have g3 : (0 : Int) ≤ (eN j m : Int) ∧ (eN j m : Int) < (l.length : Int) := by omega
    have u1 : IntKind.u64.wrap (eN i j : Int) = (eN i j : Int) := u64_id (by omega)
    have u2 : IntKind.u64.wrap (eN i m : Int) = (eN i m : Int) := u64_id (by omega)
    have u3 : IntKind.u64.wrap (eN j m : Int) = (eN j m : Int) := u64_id (by omega)
    have hp : (2 : Nat) ^ l.length ≤ 2 ^ 10 := Nat.pow_le_pow_right (by omega) h10
    have c63 : cN < 2 ^ 63 := Nat.lt_of_lt_of_le c2 (Nat.le_trans hp (by decide))
    have e0 : ((i : Int) + 1).toNat = i + 1 := by omega
    have bool_eq : ((if 0 ≤ (eN i j : Int) ∧ (eN i j : Int) < (l.length : Int) then (if decide (l.getD (eN i j) 0 = who) then (if 0 ≤ (eN i m : Int) ∧ (eN i m : Int) < (l.length : Int) then (if decide (l.getD (eN i m) 0 = who) then (if 0 ≤ (eN j m : Int) ∧ (eN j m : Int) < (l.length : Int) then some (decide (l.getD (eN j m) 0 = who)) else none) else some false) else none) else some false) else none) : Option Bool) = some (decide (l.getD (eN i j) 0 = who) && decide (l.getD (eN i m) 0 = who) && decide (l.getD (eN j m) 0 = who)) := by
      rw [if_pos g1, if_pos g2, if_pos g3]
      by_cases a1 : l.getD (eN i j) 0 = who <;> by_cases a2 : l.getD (eN i m) 0 = who <;> simp only [a1, a2, decide_true, decide_false, if_true, Bool.false_eq_true, if_false, Bool.true_and, Bool.false_and]
    have hrun : spec_l09Common_l2 l who m j (k' + 1) (cN : Int) cnt i = (if (decide (l.getD (eN i j) 0 = who) && decide (l.getD (eN i m) 0 = who) && decide (l.getD (eN j m) 0 = who)) = true then spec_l09Common_l2 l who m j k' ((cN &&& (2 ^ eN i j ||| 2 ^ eN i m ||| 2 ^ eN j m) : Nat) : Int) (cnt + 1) (i + 1) else spec_l09Common_l2 l who m j k' (cN : Int) cnt (i + 1)) := by
      rw [spec_l09Common_l2, w64_succ h0 h1 (by omega), if_pos (decide_eq_true h1), e_ij, e_im, e_jm, Int.toNat_natCast, Int.toNat_natCast, Int.toNat_natCast, bool_eq, u1, u2, u3, mask_eq (by omega) (by omega) (by omega), w64_id (n := cnt + 1) (by omega)]
      have hmask : 2 ^ eN i j ||| 2 ^ eN i m ||| 2 ^ eN j m < 2 ^ 63 := by
        have p : ∀ {i : Nat}, i < 60 → 2 ^ i < 2 ^ 63 := fun h => Nat.pow_lt_pow_right (by omega) (by omega)
        exact Nat.or_lt_two_pow (Nat.or_lt_two_pow (p (by omega)) (p (by omega))) (p (by omega))
      rw [bAnd_nat c63 hmask]
      simp only [Option.bind_some]
      split
      · rw [if_pos g1.1, if_pos g2.1, if_pos g3.1]; rfl
      · rfl
    by_cases hh : hasT l who i j m
    · refine ⟨(((cN &&& (2 ^ eN i j ||| 2 ^ eN i m ||| 2 ^ eN j m) : Nat) : Int), cnt + 1), ?_, by omega, ?_, by simp only; omega⟩
      · show spec_l09Common_l2 l who m j (k' + 1) (cN : Int) cnt i = _
        rw [hrun, if_pos (by rw [decide_eq_true hh.1, decide_eq_true hh.2.1, decide_eq_true hh.2.2]; rfl)]
      · rw [e0]
        refine ⟨⟨_, rfl, Nat.lt_of_le_of_lt Nat.and_le_left c2, fun e => ?_⟩, by simp only; omega, ?_⟩
        · rw [Nat.testBit_and, Nat.testBit_or, Nat.testBit_or, Nat.testBit_two_pow, Nat.testBit_two_pow, Nat.testBit_two_pow, Bool.and_eq_true, c3 e]
          have hmem : ((decide (eN i j = e) || decide (eN i m = e)) || decide (eN j m = e)) = true ↔ (e : Int) ∈ tri3 i j m := by
            unfold tri3
            simp only [Bool.or_eq_true, decide_eq_true_eq, List.mem_cons, List.not_mem_nil, or_false]
            omega
          rw [hmem]
          constructor
          · rintro ⟨⟨a1, a2⟩, a3⟩
            refine ⟨a1, fun i' j' m' hp hT => ?_⟩
            rcases (prc_step hi hj).1 hp with h | ⟨rfl, rfl, rfl⟩
            · exact a2 i' j' m' h hT
            · exact a3
          · rintro ⟨a1, a2⟩
            exact ⟨⟨a1, fun i' j' m' hp hT => a2 i' j' m' ((prc_step hi hj).2 (.inl hp)) hT⟩, a2 i j m ((prc_step hi hj).2 (.inr ⟨rfl, rfl, rfl⟩)) hh⟩
        · simp only
          constructor
          · intro h; omega
          · intro h; exact absurd hh (h i j m ((prc_step hi hj).2 (.inr ⟨rfl, rfl, rfl⟩)))
    · refine ⟨((cN : Int), cnt), ?_, by omega, ?_, by simp only; omega⟩
      · show spec_l09Common_l2 l who m j (k' + 1) (cN : Int) cnt i = _
        rw [hrun, if_neg]
        simp only [Bool.and_eq_true, decide_eq_true_eq]
        exact fun h => hh ⟨h.1.1, h.1.2, h.2⟩
      · rw [e0]
        refine ⟨⟨_, rfl, c2, fun e => ?_⟩, z0, ?_⟩
        · rw [c3 e]
          constructor
          · rintro ⟨a1, a2⟩
            refine ⟨a1, fun i' j' m' hp hT => ?_⟩
            rcases (prc_step hi hj).1 hp with h | ⟨rfl, rfl, rfl⟩
            · exact a2 i' j' m' h hT
            · exact absurd hT hh
          · rintro ⟨a1, a2⟩
            exact ⟨a1, fun i' j' m' hp hT => a2 i' j' m' ((prc_step hi hj).2 (.inl hp)) hT⟩
        · rw [z1]
          constructor
          · intro a i' j' m' hp
            rcases (prc_step hi hj).1 hp with h | ⟨rfl, rfl, rfl⟩
            · exact a i' j' m' h
            · exact hh
          · intro a i' j' m' hp
            exact a i' j' m' ((prc_step hi hj).2 (.inl hp))
  · rintro k' t ⟨c, cnt⟩ h0 h1 ⟨q0, q, qb⟩
    have : t = j := by omega
    subst this
    rw [Int.toNat_natCast] at q
    refine ⟨(c, cnt), ?_, q, by simp only at qb ⊢; omega⟩
    show spec_l09Common_l2 l who m j (k' + 1) c cnt j = _
    rw [spec_l09Common_l2]; simp

theorem common_l1 (l : List Int) (who : Int) (n : Nat) (hn : n ≤ 5) (hlen : l.length = tri n) (m : Nat) (hm2 : 1 ≤ m) (hm : m < n) (k : Nat) (hk : 10 ≤ k) (c cnt : Int) (B : Int) (hB : B ≤ 500) (hc : CInv l who (prc m 0 0) (c, cnt)) (hb : cnt ≤ B) :
    ∃ r, spec_l09Common_l1 k l who m k c cnt 1 = some r ∧ CInv l who (prc (m + 1) 0 0) r ∧ r.2 ≤ B + 25 := by
  have := loopI (f := fun k' t (s : Int × Int) => spec_l09Common_l1 k l who m k' s.1 s.2 t) (m : Int) 1 (fun t s => t ≤ m ∧ CInv l who (prc m t.toNat 0) s ∧ s.2 ≤ B + 5 * t) (fun r => CInv l who (prc (m + 1) 0 0) r ∧ r.2 ≤ B + 25) ?_ ?_ k 1 (c, cnt) (by omega) (by omega) ⟨by omega, hc.congr fun i j m => prc_one.symm, by simp only; omega⟩
  · exact this
  · rintro k' t ⟨c, cnt⟩ h0 h1 ⟨_, q, qb⟩
    left
    obtain ⟨j, rfl⟩ := nat_of (show 0 ≤ t by omega)
    rw [Int.toNat_natCast] at q
    simp only at qb
    obtain ⟨r, e, hr, hrb⟩ := common_l2 l who n hn hlen m j hm (by omega) k hk c cnt (B + 5 * j) (by omega) q qb
    refine ⟨r, ?_, by omega, ?_, by omega⟩
    · show spec_l09Common_l1 k l who m (k' + 1) c cnt j = _
      rw [spec_l09Common_l1, w64_succ (by omega) h1 (by omega), if_pos (decide_eq_true h1), e]
      rfl
    · rw [show ((j : Int) + 1).toNat = j + 1 by omega]
      exact hr.congr fun i j m => prc_row
  · rintro k' t ⟨c, cnt⟩ h0 h1 ⟨q0, q, qb⟩
    have : t = m := by omega
    subst this
    rw [Int.toNat_natCast] at q
    refine ⟨(c, cnt), ?_, q.congr fun i j m => prc_lay, by simp only at qb ⊢; omega⟩
    show spec_l09Common_l1 k l who m (k' + 1) c cnt m = _
    rw [spec_l09Common_l1]; simp

theorem common_eq (l : List Int) (who : Int) (n : Int) (hs : sh n l) (k : Nat) (hk : 20 ≤ k) : ∃ r, spec_l09Common k n l who = some r ∧ CInv l who (prc n.toNat 0 0) r := by
  have hn := hs.1
  obtain ⟨n, rfl⟩ := nat_of (show 0 ≤ n by omega)
  have hlen := hs.2.1
  rw [Int.toNat_natCast] at hlen ⊢
  have h10 : l.length ≤ 10 := by
    rw [hlen]
    have : ∀ n : Nat, n ≤ 5 → tri n ≤ 10 := by decide +kernel
    exact this n (by omega)
  have hp : (2 : Nat) ^ l.length ≤ 2 ^ 10 := Nat.pow_le_pow_right (by omega) h10
  have hp1 : 1 ≤ 2 ^ l.length := Nat.one_le_two_pow
  have hu : IntKind.u64.wrap (l.length : Int) = (l.length : Int) := u64_id (by omega)
  have hall : w64 (bShl .i64 1 (l.length : Int) - 1) = ((2 ^ l.length - 1 : Nat) : Int) := by
    rw [bShl_one (by omega), w64_id (by omega)]; omega
  unfold spec_l09Common
  rw [hu, if_pos (by omega), hall]
  have start : CInv l who (prc 2 0 0) (((2 ^ l.length - 1 : Nat) : Int), 0) := by
    refine ⟨⟨_, rfl, by omega, fun e => ?_⟩, by simp, ?_⟩
    · rw [Nat.testBit_two_pow_sub_one]
      simp only [decide_eq_true_eq]
      exact ⟨fun h => ⟨h, fun i j m hpr => absurd hpr prc_two⟩, fun h => h.1⟩
    · exact ⟨fun _ i j m hpr => absurd hpr prc_two, fun _ => rfl⟩
  by_cases hn2 : n ≤ 2
  · refine ⟨(((2 ^ l.length - 1 : Nat) : Int), 0), ?_, ?_⟩
    · obtain ⟨k, rfl⟩ : ∃ k', k = k' + 1 := ⟨k - 1, by omega⟩
      rw [spec_l09Common_l0]
      have : ¬ (2 : Int) < (n : Int) := by omega
      simp [this]
    · refine start.congr fun i j m => ?_
      constructor
      · intro h; exact absurd h prc_two
      · intro h; have := prc_all.1 h; omega
  · have := loopI (f := fun k' t (s : Int × Int) => spec_l09Common_l0 k n l who k' s.1 s.2 t) (n : Int) 2 (fun t s => t ≤ n ∧ CInv l who (prc t.toNat 0 0) s ∧ s.2 ≤ 25 * t) (fun r => CInv l who (prc n 0 0) r) ?_ ?_ k 2 (((2 ^ l.length - 1 : Nat) : Int), 0) (by omega) (by omega) ⟨by omega, start, by simp⟩
    · obtain ⟨r, e, hr⟩ := this
      simp only at e
      rw [e]
      exact ⟨r, rfl, hr⟩
    · rintro k' t ⟨c, cnt⟩ h0 h1 ⟨_, q, qb⟩
      left
      obtain ⟨m, rfl⟩ := nat_of (show 0 ≤ t by omega)
      rw [Int.toNat_natCast] at q
      simp only at qb
      obtain ⟨r, e, hr, hrb⟩ := common_l1 l who n (by omega) hlen m (by omega) (by omega) k (by omega) c cnt (25 * m) (by omega) q qb
      refine ⟨r, ?_, by omega, ?_, by omega⟩
      · show spec_l09Common_l0 k n l who (k' + 1) c cnt m = _
        rw [spec_l09Common_l0, w64_succ (by omega) h1 (by omega), if_pos (decide_eq_true h1), e]
        rfl
      · rw [show ((m : Int) + 1).toNat = m + 1 by omega]
        exact hr
    · rintro k' t ⟨c, cnt⟩ h0 h1 ⟨q0, q, qb⟩
      have : t = n := by omega
      subst this
      rw [Int.toNat_natCast] at q
      refine ⟨(c, cnt), ?_, q⟩
      show spec_l09Common_l0 k n l who (k' + 1) c cnt n = _
      rw [spec_l09Common_l0]; simp

/-- What the program knows of the triangles. -/
def TInv (l : List Int) (who : Int) (pr : Nat → Nat → Nat → Prop) (R : List (List Int)) : Prop := ∀ t, t ∈ R ↔ ∃ i j m, pr i j m ∧ hasT l who i j m ∧ t = tri3 i j m
theorem TInv.congr {l : List Int} {who : Int} {p q : Nat → Nat → Nat → Prop} {R : List (List Int)} (h : ∀ i j m, p i j m ↔ q i j m) (hs : TInv l who p R) : TInv l who q R := fun t => by rw [hs t]; simp only [h]

theorem tri_l2 (l : List Int) (who : Int) (n : Nat) (hn : n ≤ 5) (hlen : l.length = tri n) (m j : Nat) (hm : m < n) (hj : j < m) (k : Nat) (hk : 10 ≤ k) (N : Int) (R : List (List Int)) (B : Int) (hB : B ≤ 1000) (hc : TInv l who (prc m j 0) R) (hb : (R.length : Int) ≤ B) :
    ∃ r, impl_position_triangles_l2 k ⟨N, l⟩ who m j k 0 R = some r ∧ TInv l who (prc m j j) r ∧ (r.length : Int) ≤ B + 5 := by
  have h10 : l.length ≤ 10 := by
    rw [hlen]
    have : ∀ n : Nat, n ≤ 5 → tri n ≤ 10 := by decide +kernel
    exact this n hn
  have := loopI (f := fun k' t (s : List (List Int)) => impl_position_triangles_l2 k ⟨N, l⟩ who m j k' t s) (j : Int) 0 (fun t s => t ≤ j ∧ TInv l who (prc m j t.toNat) s ∧ (s.length : Int) ≤ B + t) (fun r => TInv l who (prc m j j) r ∧ (r.length : Int) ≤ B + 5) ?_ ?_ k 0 R (by omega) (by omega) ⟨by omega, hc, by omega⟩
  · exact this
  · rintro k' t s h0 h1 ⟨_, q, qb⟩
    left
    obtain ⟨i, rfl⟩ := nat_of h0
    have hi : i < j := by omega
    rw [Int.toNat_natCast] at q
    have e_ij : impl_number (i : Int) (j : Int) = (eN i j : Int) := by rw [number_eq _ _ (by omega) (by omega)]; simp
    have e_im : impl_number (i : Int) (m : Int) = (eN i m : Int) := by rw [number_eq _ _ (by omega) (by omega)]; simp
    have e_jm : impl_number (j : Int) (m : Int) = (eN j m : Int) := by rw [number_eq _ _ (by omega) (by omega)]; simp
    have l1 : eN i j < l.length := by rw [hlen]; exact eN_lt hi (by omega) (by omega)
    have l2 : eN i m < l.length := by rw [hlen]; exact eN_lt (by omega) hm (by omega)
    have l3 : eN j m < l.length := by rw [hlen]; exact eN_lt hj hm (by omega)
    have e0 : ((i : Int) + 1).toNat = i + 1 := by omega
    have hcon := containsF_eq k (tri3 i j m) (fun a0 => impl_position_triangles_c1 a0 ⟨N, l⟩ who) (fun z => !decide (l.getD z.toNat 0 = who)) (fun z hz => by
      unfold impl_position_triangles_c1
      rw [if_pos]
      simp only [tri3, List.mem_cons, List.not_mem_nil, or_false] at hz
      show 0 ≤ z ∧ z < (l.length : Int)
      rcases hz with rfl | rfl | rfl <;> omega) (by simp [tri3]; omega) (by simp [tri3])
    have hany : (tri3 i j m).any (fun z => !decide (l.getD z.toNat 0 = who)) = !(decide (l.getD (eN i j) 0 = who) && decide (l.getD (eN i m) 0 = who) && decide (l.getD (eN j m) 0 = who)) := by
      simp only [tri3, List.any_cons, List.any_nil, Int.toNat_natCast, Bool.or_false, Bool.not_and, Bool.or_assoc]
    rw [hany] at hcon
    have hl40 : s.length + 1 ≤ 1099511627776 := by omega
    have hrun : impl_position_triangles_l2 k ⟨N, l⟩ who m j (k' + 1) i s = (if (decide (l.getD (eN i j) 0 = who) && decide (l.getD (eN i m) 0 = who) && decide (l.getD (eN j m) 0 = who)) = true then impl_position_triangles_l2 k ⟨N, l⟩ who m j k' (i + 1) (s ++ [tri3 i j m]) else impl_position_triangles_l2 k ⟨N, l⟩ who m j k' (i + 1) s) := by
      rw [impl_position_triangles_l2, w64_succ h0 h1 (by omega), if_pos (decide_eq_true h1), e_ij, e_im, e_jm]
      rw [show ([(eN i j : Int), (eN i m : Int), (eN j m : Int)] : List Int) = tri3 i j m from rfl, hcon]
      simp only [Option.bind_some, Bool.not_not, List.length_singleton, hl40, if_true]
      split <;> rfl
    by_cases hh : hasT l who i j m
    · refine ⟨s ++ [tri3 i j m], ?_, by omega, ?_, by rw [List.length_append, List.length_singleton]; omega⟩
      · show impl_position_triangles_l2 k ⟨N, l⟩ who m j (k' + 1) i s = _
        rw [hrun, if_pos (by rw [decide_eq_true hh.1, decide_eq_true hh.2.1, decide_eq_true hh.2.2]; rfl)]
      · rw [e0]
        intro t
        rw [List.mem_append, List.mem_singleton, q t]
        constructor
        · rintro (⟨i', j', m', hp, hT, rfl⟩ | rfl)
          · exact ⟨i', j', m', (prc_step hi hj).2 (.inl hp), hT, rfl⟩
          · exact ⟨i, j, m, (prc_step hi hj).2 (.inr ⟨rfl, rfl, rfl⟩), hh, rfl⟩
        · rintro ⟨i', j', m', hp, hT, rfl⟩
          rcases (prc_step hi hj).1 hp with h | ⟨rfl, rfl, rfl⟩
          · exact .inl ⟨i', j', m', h, hT, rfl⟩
          · exact .inr rfl
    · refine ⟨s, ?_, by omega, ?_, by omega⟩
      · show impl_position_triangles_l2 k ⟨N, l⟩ who m j (k' + 1) i s = _
        rw [hrun, if_neg]
        simp only [Bool.and_eq_true, decide_eq_true_eq]
        exact fun h => hh ⟨h.1.1, h.1.2, h.2⟩
      · rw [e0]
        intro t
        rw [q t]
        constructor
        · rintro ⟨i', j', m', hp, hT, rfl⟩
          exact ⟨i', j', m', (prc_step hi hj).2 (.inl hp), hT, rfl⟩
        · rintro ⟨i', j', m', hp, hT, rfl⟩
          rcases (prc_step hi hj).1 hp with h | ⟨rfl, rfl, rfl⟩
          · exact ⟨i', j', m', h, hT, rfl⟩
          · exact absurd hT hh
  · rintro k' t s h0 h1 ⟨q0, q, qb⟩
    have : t = j := by omega
    subst this
    rw [Int.toNat_natCast] at q
    refine ⟨s, ?_, q, by omega⟩
    show impl_position_triangles_l2 k ⟨N, l⟩ who m j (k' + 1) j s = _
    rw [impl_position_triangles_l2]; simp

theorem tri_l1 (l : List Int) (who : Int) (n : Nat) (hn : n ≤ 5) (hlen : l.length = tri n) (m : Nat) (hm : m < n) (k : Nat) (hk : 10 ≤ k) (N : Int) (R : List (List Int)) (B : Int) (hB : B ≤ 500) (hc : TInv l who (prc m 0 0) R) (hb : (R.length : Int) ≤ B) :
    ∃ r, impl_position_triangles_l1 k ⟨N, l⟩ who m k 0 R = some r ∧ TInv l who (prc (m + 1) 0 0) r ∧ (r.length : Int) ≤ B + 25 := by
  have := loopI (f := fun k' t (s : List (List Int)) => impl_position_triangles_l1 k ⟨N, l⟩ who m k' t s) (m : Int) 0 (fun t s => t ≤ m ∧ TInv l who (prc m t.toNat 0) s ∧ (s.length : Int) ≤ B + 5 * t) (fun r => TInv l who (prc (m + 1) 0 0) r ∧ (r.length : Int) ≤ B + 25) ?_ ?_ k 0 R (by omega) (by omega) ⟨by omega, hc, by omega⟩
  · exact this
  · rintro k' t s h0 h1 ⟨_, q, qb⟩
    left
    obtain ⟨j, rfl⟩ := nat_of (show 0 ≤ t by omega)
    rw [Int.toNat_natCast] at q
    obtain ⟨r, e, hr, hrb⟩ := tri_l2 l who n hn hlen m j hm (by omega) k hk N s (B + 5 * j) (by omega) q qb
    refine ⟨r, ?_, by omega, ?_, by omega⟩
    · show impl_position_triangles_l1 k ⟨N, l⟩ who m (k' + 1) j s = _
      rw [impl_position_triangles_l1, w64_succ (by omega) h1 (by omega), if_pos (decide_eq_true h1), e]
      rfl
    · rw [show ((j : Int) + 1).toNat = j + 1 by omega]
      exact hr.congr fun i j m => prc_row
  · rintro k' t s h0 h1 ⟨q0, q, qb⟩
    have : t = m := by omega
    subst this
    rw [Int.toNat_natCast] at q
    refine ⟨s, ?_, q.congr fun i j m => prc_lay, by omega⟩
    show impl_position_triangles_l1 k ⟨N, l⟩ who m (k' + 1) m s = _
    rw [impl_position_triangles_l1]; simp

theorem triangles_eq (l : List Int) (who : Int) (n : Int) (hs : sh n l) (k : Nat) (hk : 20 ≤ k) : ∃ R, impl_position_triangles k ⟨n, l⟩ who = some R ∧ TInv l who (prc n.toNat 0 0) R ∧ (R.length : Int) ≤ 125 := by
  have hn := hs.1
  obtain ⟨n, rfl⟩ := nat_of (show 0 ≤ n by omega)
  have hlen := hs.2.1
  rw [Int.toNat_natCast] at hlen ⊢
  unfold impl_position_triangles
  have := loopI (f := fun k' t (s : List (List Int)) => impl_position_triangles_l0 k ⟨n, l⟩ who k' t s) (n : Int) 0 (fun t s => t ≤ n ∧ TInv l who (prc t.toNat 0 0) s ∧ (s.length : Int) ≤ 25 * t) (fun r => TInv l who (prc n 0 0) r ∧ (r.length : Int) ≤ 125) ?_ ?_ k 0 [] (by omega) (by omega) ⟨by omega, fun t => ⟨fun h => (List.not_mem_nil h).elim, fun ⟨i, j, m, h, _⟩ => by have := prc_all.1 h; omega⟩, by simp⟩
  · obtain ⟨r, e, hr⟩ := this
    rw [e]
    exact ⟨r, rfl, hr⟩
  · rintro k' t s h0 h1 ⟨_, q, qb⟩
    left
    obtain ⟨m, rfl⟩ := nat_of (show 0 ≤ t by omega)
    rw [Int.toNat_natCast] at q
    obtain ⟨r, e, hr, hrb⟩ := tri_l1 l who n (by omega) hlen m (by omega) k (by omega) n s (25 * m) (by omega) q qb
    refine ⟨r, ?_, by omega, ?_, by omega⟩
    · show impl_position_triangles_l0 k ⟨n, l⟩ who (k' + 1) m s = _
      rw [impl_position_triangles_l0, w64_succ (by omega) h1 (by omega), if_pos (decide_eq_true h1), e]
      rfl
    · rw [show ((m : Int) + 1).toNat = m + 1 by omega]
      exact hr
  · rintro k' t s h0 h1 ⟨q0, q, qb⟩
    have : t = n := by omega
    subst this
    rw [Int.toNat_natCast] at q
    refine ⟨s, ?_, q, by omega⟩
    show impl_position_triangles_l0 k ⟨n, l⟩ who (k' + 1) n s = _
    rw [impl_position_triangles_l0]; simp

/-! ### Whether it is a position -/
def anyT (n : Int) (l : List Int) (who : Int) : Prop := ∃ i j m, prc n.toNat 0 0 i j m ∧ hasT l who i j m
/-- All triangles have an edge in common. -/
def comT (n : Int) (l : List Int) (who : Int) : Prop := ∃ e : Nat, e < l.length ∧ ∀ i j m, prc n.toNat 0 0 i j m → hasT l who i j m → (e : Int) ∈ tri3 i j m
def mov (l : List Int) : Int := (l.count 0 : Int) - l.count 1
def isPos (n : Int) (l : List Int) : Prop := (0 ≤ mov l ∧ mov l ≤ 1) ∧ ¬ anyT n l (mov l) ∧ (¬ anyT n l (1 - mov l) ∨ comT n l (1 - mov l))

theorem mov_range (l : List Int) (h : l.length ≤ 10) : -10 ≤ mov l ∧ mov l ≤ 10 := by
  have h0 := List.count_le_length (a := (0 : Int)) (l := l)
  have h1 := List.count_le_length (a := (1 : Int)) (l := l)
  unfold mov; omega

open Classical in
theorem specIs9_eq (l : List Int) (n : Int) (hs : sh n l) (k : Nat) (hk : 20 ≤ k) : spec_l09Is k n l = some (decide (isPos n l)) := by
  have h10 : l.length ≤ 10 := by rw [hs.2.1]; exact tri5 n hs.1
  have hm := mov_range l h10
  unfold spec_l09Is spec_l09Mover
  rw [counts_eq k l (by omega) (by omega)]
  simp only [Option.bind_some]
  rw [show w64 ((l.count 0 : Int) - (l.count 1 : Int)) = mov l from w64_id (by unfold mov at hm; omega)]
  obtain ⟨r1, e1, c1⟩ := common_eq l (mov l) n hs k hk
  obtain ⟨r2, e2, c2⟩ := common_eq l (1 - mov l) n hs k hk
  by_cases hr : 0 ≤ mov l ∧ mov l ≤ 1
  · have hb : (if decide (mov l = 0) = false then !decide (mov l = 1) else false) = false := by
      by_cases h0 : mov l = 0
      · simp [h0]
      · have : mov l = 1 := by omega
        simp [this]
    have hb' : (if (!decide (mov l = 0)) = true then !decide (mov l = 1) else false) = false := by simpa using hb
    rw [hb']
    simp only [letO, Bool.false_eq_true, if_false, Option.bind_some]
    rw [e1, show w64 (1 - mov l) = 1 - mov l from w64_id (by omega), e2]
    simp only [Option.bind_some]
    congr 1
    obtain ⟨_, _, z1⟩ := c1
    obtain ⟨⟨c, hc0, hc1, hc2⟩, _, z2⟩ := c2
    have w1 : r1.2 = 0 ↔ ¬ anyT n l (mov l) := by
      rw [z1]; unfold anyT
      exact ⟨fun h ⟨i, j, m, a, b⟩ => h i j m a b, fun h i j m a b => h ⟨i, j, m, a, b⟩⟩
    have w2 : r2.2 = 0 ↔ ¬ anyT n l (1 - mov l) := by
      rw [z2]; unfold anyT
      exact ⟨fun h ⟨i, j, m, a, b⟩ => h i j m a b, fun h i j m a b => h ⟨i, j, m, a, b⟩⟩
    have w3 : ¬ r2.1 = 0 ↔ comT n l (1 - mov l) := by
      rw [hc0]
      constructor
      · intro h
        have : c ≠ 0 := by omega
        obtain ⟨e, he⟩ : ∃ e, c.testBit e = true := by
          apply Classical.byContradiction
          intro hno
          apply this
          apply bits_eq
          intro i
          rw [Nat.zero_testBit]
          cases hb : c.testBit i with
          | false => rfl
          | true => exact absurd ⟨i, hb⟩ hno
        have := (hc2 e).1 he
        exact ⟨e, this.1, this.2⟩
      · rintro ⟨e, h1, h2⟩ h
        have := (hc2 e).2 ⟨h1, h2⟩
        have hcz : c = 0 := by omega
        subst hcz
        simp at this
    unfold isPos
    simp only [hr, true_and, and_self, ← w1, ← w2, ← w3]
    by_cases a : r1.2 = 0 <;> by_cases b : r2.2 = 0 <;> by_cases d : r2.1 = 0 <;> simp [a, b, d]
  · have hb' : (if (!decide (mov l = 0)) = true then !decide (mov l = 1) else false) = true := by
      have h0 : ¬ mov l = 0 := by omega
      have h1 : ¬ mov l = 1 := by omega
      simp [h0, h1]
    rw [hb', decide_eq_false (fun h : isPos n l => hr h.1)]
    rfl

theorem index9_eq (l : List Int) (v : Int) (hl : (l.length : Int) ≤ 1099511627776) : ∀ (d k : Nat) (i : Nat), i + d = l.length → d < k →
    ∃ r : Sum Unit Int, slices_Index_l0 l v k i = some r ∧ ((∃ z : Int, r = .inr z ∧ 0 ≤ z ∧ v ∈ l.drop i) ∨ (r = .inl () ∧ v ∉ l.drop i)) := by
  intro d
  induction d with
  | zero =>
    intro k i h hk
    obtain ⟨k, rfl⟩ : ∃ k', k = k' + 1 := ⟨k - 1, by omega⟩
    have : ¬ (i : Int) < (l.length : Int) := by omega
    exact ⟨.inl (), by rw [slices_Index_l0]; simp [this], .inr ⟨rfl, by rw [List.drop_of_length_le (by omega)]; exact List.not_mem_nil⟩⟩
  | succ d ih =>
    intro k i h hk
    obtain ⟨k, rfl⟩ : ∃ k', k = k' + 1 := ⟨k - 1, by omega⟩
    have hi : i < l.length := by omega
    have h1 : (i : Int) < (l.length : Int) := by omega
    have hd := List.drop_eq_getElem_cons hi
    have hg : l.getD i 0 = l[i] := by simp [List.getD, hi]
    rw [slices_Index_l0, if_pos (decide_eq_true h1), if_pos ⟨by omega, h1⟩, Int.toNat_natCast, hg, w64_succ (by omega) h1 (by omega)]
    rw [hd]
    by_cases hz : v = l[i]
    · exact ⟨.inr i, by rw [if_pos (decide_eq_true hz)], .inl ⟨i, rfl, by omega, by rw [hz]; exact List.mem_cons_self ..⟩⟩
    · obtain ⟨r, e, hr⟩ := ih k (i + 1) (by omega) (by omega)
      rw [if_neg (by simpa using hz), show ((i : Int) + 1) = ((i + 1 : Nat) : Int) by omega, e]
      refine ⟨r, rfl, ?_⟩
      rw [List.mem_cons]
      rcases hr with ⟨z, a, b, c⟩ | ⟨a, b⟩
      · exact .inl ⟨z, a, b, .inr c⟩
      · exact .inr ⟨a, fun h => h.elim hz b⟩

theorem contains9_eq (k : Nat) (l : List Int) (v : Int) (hk : l.length + 1 ≤ k) (hl : (l.length : Int) ≤ 1099511627776) : slices_Contains k l v = some (decide (v ∈ l)) := by
  unfold slices_Contains slices_Index
  obtain ⟨r, e, hr⟩ := index9_eq l v hl l.length k 0 (by omega) (by omega)
  rw [show ((0 : Nat) : Int) = 0 from rfl] at e
  rw [e]
  rw [List.drop_zero] at hr
  rcases hr with ⟨z, rfl, h0, h1⟩ | ⟨rfl, h1⟩
  · simp [h0, h1]
  · simp [h1]

open Classical in
theorem isPosition_eq (l : List Int) (n : Int) (hs : sh n l) (k : Nat) (hk : 200 ≤ k) : impl_position_isPosition k ⟨n, l⟩ = some (decide (isPos n l)) := by
  have h10 : l.length ≤ 10 := by rw [hs.2.1]; exact tri5 n hs.1
  have hm := mov_range l h10
  have hmov : impl_position_mover k ⟨n, l⟩ = some (mov l) := by
    unfold impl_position_mover
    rw [many_eq k n 0 l (by omega) (by omega), many_eq k n 1 l (by omega) (by omega)]
    simp only [Option.bind_some]
    rw [show w64 ((l.count 0 : Int) - (l.count 1 : Int)) = mov l from w64_id (by unfold mov at hm; omega)]
  obtain ⟨R1, e1, t1, b1⟩ := triangles_eq l (mov l) n hs k (by omega)
  obtain ⟨R2, e2, t2, b2⟩ := triangles_eq l (1 - mov l) n hs k (by omega)
  have a1 : R1 = [] ↔ ¬ anyT n l (mov l) := by
    unfold anyT
    constructor
    · rintro rfl ⟨i, j, m, a, b⟩
      exact List.not_mem_nil ((t1 (tri3 i j m)).2 ⟨i, j, m, a, b, rfl⟩)
    · intro h
      refine List.eq_nil_iff_forall_not_mem.2 fun t ht => ?_
      obtain ⟨i, j, m, a, b, _⟩ := (t1 t).1 ht
      exact h ⟨i, j, m, a, b⟩
  have a2 : R2 = [] ↔ ¬ anyT n l (1 - mov l) := by
    unfold anyT
    constructor
    · rintro rfl ⟨i, j, m, a, b⟩
      exact List.not_mem_nil ((t2 (tri3 i j m)).2 ⟨i, j, m, a, b, rfl⟩)
    · intro h
      refine List.eq_nil_iff_forall_not_mem.2 fun t ht => ?_
      obtain ⟨i, j, m, a, b, _⟩ := (t2 t).1 ht
      exact h ⟨i, j, m, a, b⟩
  have a3 : (∃ e : Nat, e < l.length ∧ ∀ t ∈ R2, (e : Int) ∈ t) ↔ comT n l (1 - mov l) := by
    unfold comT
    constructor
    · rintro ⟨e, h1, h2⟩
      exact ⟨e, h1, fun i j m a b => h2 _ ((t2 _).2 ⟨i, j, m, a, b, rfl⟩)⟩
    · rintro ⟨e, h1, h2⟩
      refine ⟨e, h1, fun t ht => ?_⟩
      obtain ⟨i, j, m, a, b, rfl⟩ := (t2 t).1 ht
      exact h2 i j m a b
  have hl0 : impl_position_isPosition_l0 k ⟨n, l⟩ R2 k 0 = some (if ∀ j : Int, 0 ≤ j → j < l.length → ¬ ∀ t ∈ R2, j ∈ t then .inl () else .inr true) := by
    refine loopAll (f := fun k' i => impl_position_isPosition_l0 k ⟨n, l⟩ R2 k' i) (l.length : Int) true (fun i => ¬ ∀ t ∈ R2, i ∈ t) 0 ?_ ?_ ?_ k 0 (by omega) (by omega)
    all_goals intro k' i h0
    · intro h1 hq
      show impl_position_isPosition_l0 k ⟨n, l⟩ R2 (k' + 1) i = _
      have hcon := containsR_eq k R2 (fun a0 => impl_position_isPosition_c1 k a0 i) (fun t => !decide (i ∈ t)) (fun t ht => by
        obtain ⟨a, b, c, _, _, rfl⟩ := (t2 t).1 ht
        unfold impl_position_isPosition_c1
        rw [contains9_eq k _ i (by simp [tri3]; omega) (by simp [tri3])]; rfl) (by omega) (by omega)
      have hany : R2.any (fun t => !decide (i ∈ t)) = true := by
        rw [List.any_eq_true]
        apply Classical.byContradiction
        intro hno
        apply hq
        intro t ht
        apply Classical.byContradiction
        intro hc
        exact hno ⟨t, ht, by rw [decide_eq_false hc]; rfl⟩
      rw [impl_position_isPosition_l0, hcon, hany, w64_succ h0 h1 (by omega)]
      unfold impl_size
      simp [h1]
    · intro h1 hq
      show impl_position_isPosition_l0 k ⟨n, l⟩ R2 (k' + 1) i = _
      have hq := Classical.not_not.1 hq
      have hcon := containsR_eq k R2 (fun a0 => impl_position_isPosition_c1 k a0 i) (fun t => !decide (i ∈ t)) (fun t ht => by
        obtain ⟨a, b, c, _, _, rfl⟩ := (t2 t).1 ht
        unfold impl_position_isPosition_c1
        rw [contains9_eq k _ i (by simp [tri3]; omega) (by simp [tri3])]; rfl) (by omega) (by omega)
      have hany : R2.any (fun t => !decide (i ∈ t)) = false := by
        rw [List.any_eq_false]
        intro t ht
        rw [decide_eq_true (hq t ht)]; simp
      rw [impl_position_isPosition_l0, hcon, hany]
      unfold impl_size
      simp [h1]
    · show impl_position_isPosition_l0 k ⟨n, l⟩ R2 (k' + 1) i = _
      rw [impl_position_isPosition_l0]
      unfold impl_size
      have : ¬ i < (l.length : Int) := by omega
      simp [this]
  unfold impl_position_isPosition
  rw [hmov]
  simp only [Option.bind_some]
  rw [in_eq, e1]
  by_cases hr : 0 ≤ mov l ∧ mov l ≤ 1
  · rw [decide_eq_true hr]
    simp only [Bool.not_true, Bool.false_eq_true, if_false, Option.bind_some]
    by_cases hA : R1 = []
    · have hlen : decide (0 < (R1.length : Int)) = false := by rw [hA]; rfl
      rw [hlen]
      simp only [Bool.false_eq_true, if_false, Option.bind_some]
      rw [show w64 (1 - mov l) = 1 - mov l from w64_id (by omega), e2]
      simp only [Option.bind_some]
      rw [hl0]
      by_cases hall : ∀ j : Int, 0 ≤ j → j < l.length → ¬ ∀ t ∈ R2, j ∈ t
      · rw [if_pos hall]
        have hno : ¬ comT n l (1 - mov l) := by
          rw [← a3]
          rintro ⟨e, h1, h2⟩
          exact hall e (by omega) (by omega) h2
        simp only [Option.bind_some]
        congr 1
        rw [decide_eq_decide]
        unfold isPos
        rw [← a1, ← a2]
        constructor
        · intro h
          have : R2 = [] := List.eq_nil_of_length_eq_zero (by omega)
          exact ⟨hr, hA, .inl this⟩
        · rintro ⟨_, _, h | h⟩
          · rw [h]; rfl
          · exact absurd h hno
      · rw [if_neg hall]
        simp only [Option.bind_some]
        have hcom : comT n l (1 - mov l) := by
          rw [← a3]
          apply Classical.byContradiction
          intro hc
          apply hall
          intro j h0 h1 h2
          exact hc ⟨j.toNat, by omega, fun t ht => by
            have := h2 t ht
            rwa [show ((j.toNat : Nat) : Int) = j by omega]⟩
        rw [decide_eq_true (show isPos n l from ⟨hr, a1.1 hA, .inr hcom⟩)]
    · have hlen : decide (0 < (R1.length : Int)) = true := decide_eq_true (by
        have := List.length_pos_iff.2 hA; omega)
      rw [hlen, decide_eq_false (fun h : isPos n l => hA (a1.2 h.2.1))]
      rfl
  · rw [decide_eq_false hr, decide_eq_false (fun h : isPos n l => hr h.1)]
    rfl

end Go.Proofs.YtkonbaijkcaehaaGreatDoor
