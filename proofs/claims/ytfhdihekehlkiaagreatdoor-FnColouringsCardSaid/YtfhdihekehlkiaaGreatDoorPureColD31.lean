/- Plain laws, collected out of own texts. No conditions beyond those that each lemma states. -/
import Derived.Test.YtfhdihekehlkiaaGreatDoorPKit
import Derived.Test.YtfhdihekehlkiaaGreatDoorPBits
import Derived.Test.YtfhdihekehlkiaaGreatDoorPureDam31
set_option linter.unusedVariables false
set_option linter.unusedSimpArgs false
namespace Go.Proofs.YtfhdihekehlkiaaGreatDoor
open Go Go.RowKit Ab

def aB (x : Col) (c a b : Int) : Bool := decide (a ≠ b ∧ x.cc a b = c)

/-- All points, and all cliques of a colour. -/
def pts (x : Col) : List Int := ir 0 x.p.toNat

/-- The neighbours of a point, as bits. -/
def nb (x : Col) (c : Int) (p : Nat) : Nat := bitsN (fun j => aB x c (p : Int) (j : Int)) x.p.toNat

theorem nb_test (x : Col) (c : Int) (p j : Nat) : (nb x c p).testBit j = (decide (j < x.p.toNat) && aB x c (p : Int) (j : Int)) := bitsN_test _ _ _

theorem nb_lt (x : Col) (hp : 1 ≤ x.p ∧ x.p ≤ 17) (c : Int) (p : Nat) : nb x c p < 2 ^ 63 := lt63 (lt17 (bitsN_lt _ _) (by omega))

theorem around_nb (k : Nat) (x : Col) (hx : 1 ≤ x.p ∧ x.p ≤ 17) (hk : 20 ≤ k) (c : Int) (i : Nat) (hi : (i : Int) < x.p) : spec_l01Around k x i c = some ((nb x c i : Nat) : Int) := by
  unfold spec_l01Around nb
  generalize hP : (fun j : Nat => aB x c (i : Int) (j : Int)) = P
  have hP' : ∀ j : Nat, P j = aB x c (i : Int) (j : Int) := fun j => by rw [← hP]
  have := loopI (f := fun k t (s : Int) => spec_l01Around_l0 x i c k s t) x.p 0 (fun t s => t ≤ x.p ∧ s = ((bitsN P t.toNat : Nat) : Int)) (fun r => r = ((bitsN P x.p.toNat : Nat) : Int)) ?_ ?_ k 0 0 (by omega) (by omega) ⟨by omega, rfl⟩
  · obtain ⟨r, e, rfl⟩ := this
    rw [e]; rfl
  · intro k t s h0 h1 ⟨_, q⟩
    left
    obtain ⟨m, rfl⟩ := nat_of h0
    refine ⟨_, ?_, by omega, rfl⟩
    show spec_l01Around_l0 x i c (k + 1) s m = _
    have e0 : ((m : Int) + 1).toNat = m + 1 := by omega
    rw [spec_l01Around_l0, w64_succ h0 h1 (by omega), e0, u64_id (by omega)]
    simp only [Int.toNat_natCast] at q
    have hb := lt63 (lt17 (bitsN_lt P m) (by omega))
    have hor := bOr_nat (a := bitsN P m) (b := 2 ^ m) hb (Nat.pow_lt_pow_right (by omega) (by omega))
    simp only [h1, decide_true, if_true]
    have hPm := hP' m
    unfold aB at hPm
    by_cases e : m = i
    · subst e
      simp only [ne_eq, not_true_eq_false, false_and, decide_false] at hPm
      simp [hPm, bitsN, q]
    · have e' : ¬ (m : Int) = i := by omega
      have e'' : ¬ (i : Int) = m := by omega
      rw [specAt_ne x i m (by omega) (by omega) (by omega) (by omega) (by omega)]
      by_cases h : x.cc i m = c
      · simp only [ne_eq, e'', not_false_eq_true, h, and_self, decide_true] at hPm
        simp only [e', h, decide_false, Bool.not_false, if_true, Option.bind_some, decide_true, h0, q]
        rw [bShl_one (by omega), hor]
        simp [bitsN, hPm]
      · simp only [ne_eq, e'', not_false_eq_true, h, and_false, decide_false] at hPm
        simp [e', h, bitsN, hPm, q]
  · intro k t s h0 h1 ⟨q1, q2⟩
    have : t = x.p := by omega
    subst this
    refine ⟨s, ?_, q2⟩
    show spec_l01Around_l0 x i c (k + 1) s x.p = _
    rw [spec_l01Around_l0]; simp

theorem ones_loop : ∀ (m s : Nat) (cnt : Int) (k : Nat), s < 2 ^ m → m ≤ 60 → m < k → 0 ≤ cnt → cnt + m ≤ 1000 → spec_l01Ones_l0 k (s : Int) cnt = some (cnt + (mem s 0 m).length) := by
  intro m
  induction m with
  | zero =>
    intro s cnt k hs hm hk h0 h1
    obtain ⟨k, rfl⟩ : ∃ q, k = q + 1 := ⟨k - 1, by omega⟩
    have : s = 0 := by simpa using hs
    subst this
    rw [spec_l01Ones_l0, mem_end (by omega)]; simp
  | succ m ih =>
    intro s cnt k hs hm hk h0 h1
    obtain ⟨k, rfl⟩ : ∃ q, k = q + 1 := ⟨k - 1, by omega⟩
    rw [spec_l01Ones_l0]
    by_cases h : s = 0
    · subst h
      have : mem 0 0 (m + 1) = [] := by
        unfold mem
        rw [List.filter_eq_nil_iff]
        intro a _; simp
      rw [this]; simp
    · have hp : (0 : Int) < (s : Int) := by omega
      have hb : s < 2 ^ 61 := Nat.lt_of_lt_of_le hs (Nat.pow_le_pow_right (by omega) (by omega))
      have e1 : (s : Int).tdiv 2 = ((s / 2 : Nat) : Int) := by rw [Int.tdiv_eq_ediv_of_nonneg (by omega)]; omega
      have e2 : (s : Int).tmod 2 = ((s % 2 : Nat) : Int) := by rw [Int.tmod_eq_emod_of_nonneg (by omega)]; omega
      rw [decide_eq_true hp, if_pos rfl, e1, e2, w64_id (by omega), w64_id (by omega), ih (s / 2) _ k (by rw [Nat.pow_succ] at hs; omega) (by omega) (by omega) (by omega) (by omega), mem_half]
      congr 1
      rw [Int.natCast_add]
      omega

theorem ones_val {k n s : Nat} (hk : 100 ≤ k) (hn : n ≤ 60) (hs : s < 2 ^ n) : spec_l01Ones k (s : Int) = some ((mem s 0 n).length : Int) := by
  unfold spec_l01Ones
  rw [ones_loop n s 0 k hs hn (by omega) (by omega) (by omega)]
  simp

theorem ir_split {n N : Nat} (h : n ≤ N) : ir 0 N = ir 0 n ++ ir n N := by
  unfold ir
  rw [← List.map_append]
  congr 1
  have := @List.range'_append_1 0 n (N - n)
  rw [Nat.zero_add] at this
  rw [Nat.sub_zero, Nat.sub_zero, this, show n + (N - n) = N by omega]

def dgN (x : Col) (c a : Int) : Nat := ((pts x).filter (aB x c a)).length

theorem neigh_val {k : Nat} (x : Col) (hp : 1 ≤ x.p ∧ x.p ≤ 17) (hk : 20 ≤ k) (c : Int) (a : Nat) (ha : (a : Int) < x.p) : impl_Colouring_neighbours k x a c = some ((pts x).filter (aB x c a)) := by
  unfold impl_Colouring_neighbours
  rw [that_val x hp hk (fun a0 => impl_Colouring_neighbours_c1 a0 x a c) (aB x c a) fun b hb => by
    unfold impl_Colouring_neighbours_c1 impl_Colouring_joins aB
    by_cases e : (a : Int) = b
    · rw [decide_eq_true e]
      have : ¬ ((a : Int) ≠ (b : Int) ∧ x.cc a b = c) := fun h => h.1 e
      rw [decide_eq_false this]
      simp
    · rw [decide_eq_false e, implAt_ne x a b (by omega) (by omega) (by omega) (by omega) e]
      simp [e]]
  rfl

theorem degrees_val {k : Nat} (x : Col) (hp : 1 ≤ x.p ∧ x.p ≤ 17) (hk : 20 ≤ k) (c : Int) : impl_Colouring_degrees k x c = some (mapL x.p.toNat fun a => (dgN x c a : Int)) := by
  unfold impl_Colouring_degrees
  have := collect (fun k' i s => impl_Colouring_degrees_l0 k x c k' i s) x.p.toNat (fun a => (dgN x c a : Int)) (fun k' i s hi hl => by
    have h1 : (i : Int) < x.p := by omega
    have hl' : s.length + ([(impl_size ((pts x).filter (aB x c i)))]).length ≤ 1099511627776 := by simp; omega
    rw [impl_Colouring_degrees_l0, neigh_val x hp hk c i h1, w64_id (by omega)]
    simp only [h1, decide_true, if_true, Option.bind_some, hl']
    rfl) (fun k' s => by
    have : ((x.p.toNat : Nat) : Int) = x.p := by omega
    rw [this, impl_Colouring_degrees_l0]; simp) k (by omega)
  rw [this]; rfl

/-! ### Codes -/
open Classical in
noncomputable def cd (x : Col) (P : Prop) : Int := if x.is then (if P then 0 else 2) else 1
theorem cd_zero {x : Col} {P : Prop} (h : cd x P = 0) : x.is ∧ P := by
  classical
  unfold cd at h
  by_cases hx : x.is
  · rw [if_pos hx] at h
    by_cases hP : P
    · exact ⟨hx, hP⟩
    · rw [if_neg hP] at h; omega
  · rw [if_neg hx] at h; omega
theorem cd_yes {x : Col} {P : Prop} (hx : x.is) (h : P) : cd x P = 0 := by
  classical
  unfold cd
  rw [if_pos hx, if_pos h]
def P1 (x : Col) (i : Int) : Prop := 0 ≤ i ∧ i ≤ x.p - 1
def PC (x : Col) (c : Int) : Prop := 0 ≤ c ∧ c ≤ x.k - 1
def P2 (x : Col) (i j : Int) : Prop := P1 x i ∧ P1 x j ∧ i ≠ j
theorem icode {k : Nat} (hk : 5000 ≤ k) (x : Col) (P : Prop) (b : Bool) (hb : x.is → (b = true ↔ P)) : impl_Colouring_code k x (some b) = some (cd x P) := by
  classical
  obtain ⟨c1, c2⟩ := code_cases hk x
  unfold cd
  by_cases hx : x.is
  · rw [if_pos hx]
    have h := hb hx
    cases b with
    | true => rw [(c1 hx).1, if_pos (h.1 rfl)]
    | false => rw [(c1 hx).2, if_neg (fun q => by have := h.2 q; cases this)]
  · rw [if_neg hx, c2 hx]
theorem has_iff {x : Col} (hx : x.is) (i : Int) : impl_Colouring_has x i = true ↔ P1 x i := by
  have hp := hx.1
  unfold impl_Colouring_has P1
  rw [in_eq, w64_id (by omega), decide_eq_true_eq]
theorem hasC_iff {x : Col} (hx : x.is) (c : Int) : impl_Colouring_hasColour x c = true ↔ PC x c := by
  have hk := hx.2.1
  unfold impl_Colouring_hasColour PC
  rw [in_eq, w64_id (by omega), decide_eq_true_eq]
theorem andIf (a b : Bool) : (if a then b else false) = true ↔ a = true ∧ b = true := by cases a <;> simp
theorem hasTwo_iff {x : Col} (hx : x.is) (i j : Int) : impl_Colouring_hasTwo x i j = true ↔ P2 x i j := by
  unfold impl_Colouring_hasTwo letO P2
  rw [andIf, andIf, has_iff hx, has_iff hx]
  simp
theorem given_cd {k : Nat} (hk : 5000 ≤ k) (x : Col) (c : Int) (l : List Int) (hl : l.length ≤ 10) : spec_l01Given k x c l = some (cd x (PC x c ∧ ∀ z ∈ l, P1 x z)) := by
  classical
  rw [specGiven_eq k x c l (by omega) (by omega)]
  unfold cd
  by_cases hx : x.is
  · rw [if_pos hx, if_pos hx]
    have : ((0 ≤ c ∧ c ≤ x.k - 1) ∧ inP x l) ↔ (PC x c ∧ ∀ z ∈ l, P1 x z) := by
      unfold PC P1 inP li
      constructor
      · rintro ⟨h1, h2⟩
        refine ⟨h1, fun z hz => ?_⟩
        obtain ⟨a, ha, rfl⟩ := mem_getD.1 hz
        have := h2 a (by omega) (by omega)
        rw [Int.toNat_natCast] at this
        exact this
      · rintro ⟨h1, h2⟩
        exact ⟨h1, fun i h0 hi => h2 _ (mem_getD.2 ⟨i.toNat, by omega, rfl⟩)⟩
    by_cases h : PC x c ∧ ∀ z ∈ l, P1 x z
    · rw [if_pos (this.2 h), if_pos h]
    · rw [if_neg (fun q => h (this.1 q)), if_neg h]
  · rw [if_neg hx, if_neg hx]
theorem given_two {k : Nat} (hk : 5000 ≤ k) (x : Col) (c i j : Int) : ∃ g, spec_l01Given k x c [i, j] = some g ∧ (if (if decide (g = 0) then decide (i = j) else false) then (2 : Int) else g) = cd x (P2 x i j ∧ PC x c) := by
  classical
  refine ⟨_, given_cd hk x c [i, j] (by simp), ?_⟩
  unfold cd P2
  by_cases hx : x.is
  · rw [if_pos hx, if_pos hx]
    by_cases h : PC x c ∧ ∀ z ∈ [i, j], P1 x z
    · have h1 := h.2 i (by simp)
      have h2 := h.2 j (by simp)
      rw [if_pos h]
      by_cases hij : i = j
      · rw [if_neg (show ¬ ((P1 x i ∧ P1 x j ∧ i ≠ j) ∧ PC x c) from fun q => q.1.2.2 hij)]; simp [hij]
      · rw [if_pos (show (P1 x i ∧ P1 x j ∧ i ≠ j) ∧ PC x c from ⟨⟨h1, h2, hij⟩, h.1⟩)]; simp [hij]
    · rw [if_neg h, if_neg (show ¬ ((P1 x i ∧ P1 x j ∧ i ≠ j) ∧ PC x c) from fun q => h ⟨q.2, fun z hz => by
        simp at hz
        rcases hz with rfl | rfl
        · exact q.1.1
        · exact q.1.2.1⟩)]
      simp
  · rw [if_neg hx, if_neg hx]; simp

/-! ### Edges -/
theorem edge_put {x : Col} (hx : x.is) {i j : Int} (h : P2 x i j) : impl_number i j = (eN i.toNat j.toNat : Int) ∧ spec_l01Edge i j = (eN i.toNat j.toNat : Int) ∧ eN i.toNat j.toNat < 136 := by
  have hp := hx.1
  obtain ⟨⟨a1, a2⟩, ⟨b1, b2⟩, hij⟩ := h
  exact ⟨number_eq i j (by omega) (by omega), edge_eq i j (by omega) (by omega), eN_136 (by omega) (by omega) (by omega)⟩
def chE (x : Col) (i j c : Int) : Col := x.set (eN i.toNat j.toNat) (toByte c)
theorem change_both {k : Nat} (hk : 5000 ≤ k) (x : Col) (i j c : Int) : ∃ z e, impl_ChangeEdge k x i j c = some (z, e) ∧ spec_ChangeEdge k x i j c = some (z, e) ∧ (e = 0 → x.is ∧ P2 x i j ∧ PC x c ∧ z = chE x i j c) ∧ (x.is → P2 x i j → PC x c → e = 0) := by
  obtain ⟨g, g1, g2⟩ := given_two hk x c i j
  unfold impl_ChangeEdge spec_ChangeEdge
  rw [icode hk x (P2 x i j ∧ PC x c) _ (fun hx => by
    unfold impl_ChangeEdge_c1 letO
    rw [andIf, hasTwo_iff hx, hasC_iff hx]), g1, Option.bind_some, Option.bind_some]
  unfold letO
  dsimp only
  rw [g2]
  by_cases h : cd x (P2 x i j ∧ PC x c) = 0
  · obtain ⟨hx, hp, hc⟩ := cd_zero h
    obtain ⟨e1, e2, e3⟩ := edge_put hx hp
    have hr : (0 : Int) ≤ ((eN i.toNat j.toNat : Nat) : Int) ∧ ((eN i.toNat j.toNat : Nat) : Int) < 136 := ⟨by omega, by omega⟩
    rw [decide_eq_true h]
    unfold impl_Colouring_put spec_l01With
    rw [e1, e2]
    simp only [Bool.not_true, Bool.false_eq_true, if_false, if_pos hr, Int.toNat_natCast, Option.bind_some]
    exact ⟨chE x i j c, 0, rfl, rfl, fun _ => ⟨hx, hp, hc, rfl⟩, fun _ _ _ => rfl⟩
  · rw [decide_eq_false h]
    exact ⟨zC, _, rfl, rfl, fun q => absurd q h, fun hx hp hc => absurd (cd_yes hx ⟨hp, hc⟩) h⟩
theorem is_both {k : Nat} (hk : 5000 ≤ k) (x : Col) : ∃ b, impl_IsColouring k x = some b ∧ spec_IsColouring k x = some b := by
  classical
  unfold impl_IsColouring spec_IsColouring
  rw [isColouring_eq k (by omega), specIs_eq k (by omega)]
  exact ⟨_, rfl, rfl⟩
theorem colour_both {k : Nat} (hk : 5000 ≤ k) (x : Col) (i j : Int) : ∃ v e, impl_ColourOf k x i j = some (v, e) ∧ spec_ColourOf k x i j = some (v, e) ∧ (x.is → P2 x i j → v = x.cc i j ∧ e = 0) := by
  obtain ⟨g, g1, g2⟩ := given_two hk x 0 i j
  unfold impl_ColourOf spec_ColourOf
  have hcd : cd x (P2 x i j) = cd x (P2 x i j ∧ PC x 0) := by
    classical
    unfold cd
    by_cases hx : x.is
    · have hk := hx.2.1
      rw [if_pos hx, if_pos hx]
      by_cases h : P2 x i j
      · rw [if_pos h, if_pos ⟨h, by unfold PC; omega⟩]
      · rw [if_neg h, if_neg (fun q => h q.1)]
    · rw [if_neg hx, if_neg hx]
  rw [icode hk x (P2 x i j) _ (fun hx => by unfold impl_ColourOf_c1; rw [hasTwo_iff hx]), hcd, g1, Option.bind_some, Option.bind_some]
  unfold letO
  dsimp only
  rw [g2]
  by_cases h : cd x (P2 x i j ∧ PC x 0) = 0
  · obtain ⟨hx, hp, hc⟩ := cd_zero h
    have hpp := hx.1
    obtain ⟨⟨a1, a2⟩, ⟨b1, b2⟩, hij⟩ := hp
    rw [decide_eq_true h, implAt_ne x i j (by omega) (by omega) (by omega) (by omega) hij, specAt_ne x i j (by omega) (by omega) (by omega) (by omega) hij]
    exact ⟨x.cc i j, 0, rfl, rfl, fun _ _ => ⟨rfl, rfl⟩⟩
  · rw [decide_eq_false h]
    refine ⟨0, _, rfl, rfl, fun hx hp => absurd (cd_yes hx ⟨hp, ?_⟩) h⟩
    have hk := hx.2.1
    unfold PC
    omega

/-! ### Points -/
theorem ir_snoc (j : Nat) : ir 0 (j + 1) = ir 0 j ++ [(j : Int)] := by
  rw [ir_split (show j ≤ j + 1 by omega), ir_next (show j < j + 1 by omega), ir_end (Nat.le_refl _)]
theorem points_mem {k : Nat} (hk : 100 ≤ k) (s : Nat) (hs : s < 2 ^ 63) : spec_l01Points k (s : Int) = some (mem s 0 62) := by
  unfold spec_l01Points
  have := loopI (f := fun k' i (l : List Int) => spec_l01Points_l0 (s : Int) k' i l) 62 0 (fun i l => i ≤ 62 ∧ l = mem s 0 i.toNat) (fun l => l = mem s 0 62) ?_ ?_ k 0 [] (by omega) (by omega) ⟨by omega, rfl⟩
  · obtain ⟨l, e, rfl⟩ := this
    rw [e]; rfl
  · rintro k' i l h0 h1 ⟨_, rfl⟩
    obtain ⟨m, rfl⟩ := nat_of h0
    left
    refine ⟨mem s 0 (m + 1), ?_, by omega, by rw [show ((m : Int) + 1).toNat = m + 1 by omega]⟩
    show spec_l01Points_l0 (s : Int) (k' + 1) m _ = _
    have hl := mem_length s 0 m
    have hw : IntKind.u64.wrap (m : Int) = m := u64_id (by omega)
    rw [spec_l01Points_l0, if_pos (decide_eq_true h1), hw, if_pos h0, bit_eq hs (by omega), w64_succ h0 h1 (by omega), Int.toNat_natCast]
    have hm : mem s 0 (m + 1) = mem s 0 m ++ if s.testBit m then [(m : Int)] else [] := by
      unfold mem
      rw [ir_snoc, List.filter_append, List.filter_cons, Int.toNat_natCast]
      rfl
    rw [hm]
    cases s.testBit m with
    | true => rw [if_pos (by simp), if_pos (by simp only [List.length_singleton]; omega)]; rfl
    | false => rw [if_neg (by simp)]; simp
  · rintro k' i l h0 h1 ⟨_, rfl⟩
    refine ⟨mem s 0 i.toNat, ?_, by rw [show i.toNat = 62 by omega]⟩
    show spec_l01Points_l0 (s : Int) (k' + 1) i _ = _
    rw [spec_l01Points_l0, if_neg (by simp only [decide_eq_true_eq]; omega)]
theorem mem_pts {x : Col} (hp : 1 ≤ x.p ∧ x.p ≤ 17) (s : Nat) (Q : Int → Bool) (N : Nat) (hN : x.p.toNat ≤ N) (h : ∀ j : Nat, s.testBit j = (decide (j < x.p.toNat) && Q j)) : mem s 0 N = (pts x).filter Q := by
  unfold mem pts
  rw [ir_split hN, List.filter_append]
  have h2 : (ir x.p.toNat N).filter (fun a => s.testBit a.toNat) = [] := by
    rw [List.filter_eq_nil_iff]
    intro a ha
    have := mem_ir.1 ha
    obtain ⟨j, rfl⟩ := nat_of (show 0 ≤ a by omega)
    rw [Int.toNat_natCast, h, decide_eq_false (by omega)]
    simp
  rw [h2, List.append_nil]
  refine List.filter_congr fun a ha => ?_
  have := mem_ir.1 ha
  obtain ⟨j, rfl⟩ := nat_of (show 0 ≤ a by omega)
  rw [Int.toNat_natCast, h, decide_eq_true (by omega), Bool.true_and]
theorem dgN_le {x : Col} (hp : 1 ≤ x.p ∧ x.p ≤ 17) (c a : Int) : dgN x c a ≤ 17 := by
  unfold dgN
  refine Nat.le_trans (List.length_filter_le _ _) ?_
  unfold pts
  rw [ir_length]; omega
theorem flt_le {x : Col} (hp : 1 ≤ x.p ∧ x.p ≤ 17) (Q : Int → Bool) : ((pts x).filter Q).length ≤ 17 := by
  refine Nat.le_trans (List.length_filter_le _ _) ?_
  unfold pts
  rw [ir_length]; omega
theorem neigh_both {k : Nat} (hk : 5000 ≤ k) (x : Col) (i c : Int) : ∃ o e, impl_NeighboursOf k x i c = some (o, e) ∧ spec_NeighboursOf k x i c = some (o.getD [], e) ∧ (o.getD []).length ≤ 17 ∧ (x.is → P1 x i → PC x c → o = some ((pts x).filter (aB x c i)) ∧ e = 0) := by
  unfold impl_NeighboursOf spec_NeighboursOf
  have hg := given_cd hk x c [i] (by simp)
  have hcd : cd x (PC x c ∧ ∀ z ∈ [i], P1 x z) = cd x (P1 x i ∧ PC x c) := by
    congr 1
    simp [and_comm]
  rw [icode hk x (P1 x i ∧ PC x c) _ (fun hx => by
    unfold impl_NeighboursOf_c1 letO
    rw [andIf, has_iff hx, hasC_iff hx]), hg, hcd, Option.bind_some, Option.bind_some]
  by_cases h : cd x (P1 x i ∧ PC x c) = 0
  · obtain ⟨hx, ⟨a1, a2⟩, hc⟩ := cd_zero h
    have hp := hx.1
    obtain ⟨a, rfl⟩ := nat_of a1
    have hm : mem (nb x c a) 0 62 = (pts x).filter (aB x c a) := mem_pts hp _ _ 62 (by omega) fun j => nb_test x c a j
    rw [decide_eq_true h, neigh_val x hp (by omega) c a (by omega), around_nb k x hp (by omega) c a (by omega)]
    simp only [Bool.not_true, Bool.false_eq_true, if_false, Option.bind_some]
    rw [points_mem (by omega) _ (nb_lt x hp c a), hm]
    exact ⟨some ((pts x).filter (aB x c a)), 0, rfl, rfl, flt_le hp _, fun _ _ _ => ⟨rfl, rfl⟩⟩
  · rw [decide_eq_false h]
    exact ⟨none, _, rfl, rfl, by simp, fun hx h1 h2 => absurd (cd_yes hx ⟨h1, h2⟩) h⟩
theorem deg_both {k : Nat} (hk : 5000 ≤ k) (x : Col) (c : Int) : ∃ o e, impl_DegreesOf k x c = some (o, e) ∧ spec_DegreesOf k x c = some (o.getD [], e) ∧ (o.getD []).length ≤ 17 ∧ (x.is → PC x c → o = some (mapL x.p.toNat fun a => (dgN x c a : Int)) ∧ e = 0) := by
  unfold impl_DegreesOf spec_DegreesOf
  have hg := given_cd hk x c [] (by simp)
  have hcd : cd x (PC x c ∧ ∀ z ∈ ([] : List Int), P1 x z) = cd x (PC x c) := by
    congr 1
    simp
  rw [icode hk x (PC x c) _ (fun hx => by unfold impl_DegreesOf_c1; rw [hasC_iff hx]), hg, hcd, Option.bind_some, Option.bind_some]
  by_cases h : cd x (PC x c) = 0
  · obtain ⟨hx, hc⟩ := cd_zero h
    have hp := hx.1
    have hs := collect (fun k' i s => spec_DegreesOf_l0 k x c k' i s) x.p.toNat (fun a => (dgN x c a : Int)) (fun k' i s hi hl => by
      have h1 : (i : Int) < x.p := by omega
      have hbl : nb x c i < 2 ^ x.p.toNat := bitsN_lt _ _
      have hm : mem (nb x c i) 0 x.p.toNat = (pts x).filter (aB x c i) := mem_pts hp _ _ _ (Nat.le_refl _) fun j => nb_test x c i j
      show spec_DegreesOf_l0 k x c (k' + 1) i s = _
      rw [spec_DegreesOf_l0, if_pos (decide_eq_true h1), around_nb k x hp (by omega) c i h1, Option.bind_some, ones_val (k := k) (n := x.p.toNat) (by omega) (by omega) hbl, Option.bind_some, hm, if_pos (by simp only [List.length_singleton]; omega), w64_succ (by omega) h1 (by omega)]
      rfl) (fun k' s => by
      show spec_DegreesOf_l0 k x c (k' + 1) _ s = _
      rw [spec_DegreesOf_l0, if_neg (by simp only [decide_eq_true_eq]; omega)]) k (by omega)
    rw [decide_eq_true h, degrees_val x hp (by omega) c, hs]
    exact ⟨some _, 0, rfl, rfl, by simp only [Option.getD_some, mapL_length]; omega, fun _ _ => ⟨rfl, rfl⟩⟩
  · rw [decide_eq_false h]
    exact ⟨none, _, rfl, rfl, by simp, fun hx h1 => absurd (cd_yes hx h1) h⟩
theorem joins_eq (x : Col) (hp : 1 ≤ x.p ∧ x.p ≤ 17) (i : Nat) (hi : (i : Int) < x.p) (b : Nat) (hb : (b : Int) < x.p) (c : Int) : impl_Colouring_joins x i b c = some (aB x c i b) := by
  unfold impl_Colouring_joins aB
  by_cases e : (i : Int) = b
  · rw [decide_eq_true e]
    have : ¬ ((i : Int) ≠ (b : Int) ∧ x.cc i b = c) := fun h => h.1 e
    rw [decide_eq_false this]
    simp
  · rw [decide_eq_false e, implAt_ne x i b (by omega) (by omega) (by omega) (by omega) e]
    simp [e]
theorem common_both {k : Nat} (hk : 5000 ≤ k) (x : Col) (i j c : Int) : ∃ o e, impl_CommonNeighbours k x i j c = some (o, e) ∧ spec_CommonNeighbours k x i j c = some (o.getD [], e) ∧ (o.getD []).length ≤ 17 ∧ (e = 0 → x.is ∧ P2 x i j ∧ PC x c ∧ o = some ((pts x).filter fun p => aB x c i p && aB x c j p)) := by
  obtain ⟨g, g1, g2⟩ := given_two hk x c i j
  unfold impl_CommonNeighbours spec_CommonNeighbours
  rw [icode hk x (P2 x i j ∧ PC x c) _ (fun hx => by
    unfold impl_CommonNeighbours_c1 letO
    rw [andIf, hasTwo_iff hx, hasC_iff hx]), g1, Option.bind_some, Option.bind_some]
  unfold letO
  dsimp only
  rw [g2]
  by_cases h : cd x (P2 x i j ∧ PC x c) = 0
  · obtain ⟨hx, hp2, hc⟩ := cd_zero h
    have hp := hx.1
    obtain ⟨⟨a1, a2⟩, ⟨b1, b2⟩, hij⟩ := hp2
    obtain ⟨a, rfl⟩ := nat_of a1
    obtain ⟨b, rfl⟩ := nat_of b1
    have hthat := that_val x hp (show 20 ≤ k by omega) (fun a0 => impl_CommonNeighbours_c2 a0 x a c b) (fun p => aB x c a p && aB x c b p) fun q hq => by
      unfold impl_CommonNeighbours_c2
      rw [joins_eq x hp a (by omega) q hq, joins_eq x hp b (by omega) q hq]
      cases aB x c a q <;> cases aB x c b q <;> rfl
    have hm : mem (nb x c a &&& nb x c b) 0 62 = (pts x).filter (fun p => aB x c a p && aB x c b p) := mem_pts hp _ _ 62 (by omega) fun q => by
      rw [Nat.testBit_and, nb_test, nb_test]
      cases decide (q < x.p.toNat) <;> simp
    have hlt : nb x c a &&& nb x c b < 2 ^ 63 := Nat.lt_of_le_of_lt Nat.and_le_left (nb_lt x hp c a)
    rw [decide_eq_true h, hthat, around_nb k x hp (by omega) c a (by omega), around_nb k x hp (by omega) c b (by omega)]
    simp only [Bool.not_true, Bool.false_eq_true, if_false, Option.bind_some]
    rw [bAnd_nat (nb_lt x hp c a) (nb_lt x hp c b), points_mem (by omega) _ hlt, hm]
    exact ⟨some ((pts x).filter fun p => aB x c a p && aB x c b p), 0, rfl, rfl, flt_le hp _, fun _ => ⟨hx, ⟨⟨a1, a2⟩, ⟨b1, b2⟩, hij⟩, hc, rfl⟩⟩
  · rw [decide_eq_false h]
    exact ⟨none, _, rfl, rfl, by simp, fun q => absurd q h⟩

/-! ### Edges counted, texts, lists of colours -/
theorem text_both {k : Nat} (hk : 5000 ≤ k) (x : Col) : ∃ t e, impl_ColouringText k x = some (t, e) ∧ spec_ColouringText k x = some (t, e) ∧ (x.is → t = bs (TX x) ∧ e = 0) := by
  classical
  unfold impl_ColouringText spec_ColouringText impl_Colouring_code impl_always
  rw [isColouring_eq k (by omega), specIs_eq k (by omega)]
  by_cases hx : x.is
  · obtain ⟨h1, h2⟩ := txt_val x hx k (by omega)
    exact ⟨bs (TX x), 0, by simp [hx, h2], by simp [hx, h1], fun _ => ⟨rfl, rfl⟩⟩
  · exact ⟨⟨#[]⟩, 1, by simp [hx], by simp [hx], fun h => absurd h hx⟩
theorem hasInt_val (l : List Int) (hl : l.length ≤ 1000) (p : Int) (k : Nat) (hk : l.length + 1 ≤ k) : laws_hasInt k l p = some (decide (p ∈ l)) := by
  unfold laws_hasInt
  have := loopI (f := fun k' i (_ : Unit) => laws_hasInt_l0 l p k' i) (l.length : Int) 0 (fun i _ => i ≤ l.length ∧ ∀ a : Nat, (a : Int) < i → l.getD a 0 ≠ p) (fun r => (p ∈ l ∧ r = .inr true) ∨ (p ∉ l ∧ r = .inl ())) ?_ ?_ k 0 () (by omega) (by omega) ⟨by omega, fun a ha => by omega⟩
  · obtain ⟨r, e, h⟩ := this
    rw [e]
    rcases h with ⟨hm, rfl⟩ | ⟨hm, rfl⟩
    · rw [decide_eq_true hm]; rfl
    · rw [decide_eq_false hm]; rfl
  · rintro k' i _ h0 h1 ⟨_, q⟩
    obtain ⟨m, rfl⟩ := nat_of h0
    by_cases h : l.getD m 0 = p
    · right
      refine ⟨.inr true, ?_, .inl ⟨mem_getD.2 ⟨m, by omega, h⟩, rfl⟩⟩
      show laws_hasInt_l0 l p (k' + 1) m = _
      rw [laws_hasInt_l0, if_pos (decide_eq_true h1), if_pos ⟨h0, h1⟩, Int.toNat_natCast, if_pos (decide_eq_true h)]
    · left
      refine ⟨(), ?_, by omega, fun a ha => ?_⟩
      · show laws_hasInt_l0 l p (k' + 1) m = _
        rw [laws_hasInt_l0, if_pos (decide_eq_true h1), if_pos ⟨h0, h1⟩, Int.toNat_natCast, if_neg (by simpa using h), w64_succ h0 h1 (by omega)]
      · rcases Nat.lt_or_ge a m with w | w
        · exact q a (by omega)
        · rw [show a = m by omega]; exact h
  · rintro k' i _ h0 h1 ⟨_, q⟩
    refine ⟨.inl (), ?_, .inr ⟨fun hm => ?_, rfl⟩⟩
    · show laws_hasInt_l0 l p (k' + 1) i = _
      rw [laws_hasInt_l0, if_neg (by simp only [decide_eq_true_eq]; omega)]
    · obtain ⟨a, ha, e⟩ := mem_getD.1 hm
      exact q a (by omega) e
theorem sum_val (l : List Int) (h : ∀ z ∈ l, 0 ≤ z ∧ z ≤ 1000) (hl : l.length ≤ 1000) (k : Nat) (hk : l.length + 1 ≤ k) : laws_sum k l = some l.sum := by
  unfold laws_sum
  have hb : ∀ i, i ≤ l.length → 0 ≤ (l.take i).sum ∧ (l.take i).sum ≤ 1000 * (i : Int) := by
    intro i
    induction i with
    | zero => intro _; simp
    | succ i ih =>
      intro hi
      have e : l.take (i + 1) = l.take i ++ [l.getD i 0] := by
        rw [List.take_succ_eq_append_getElem (by omega)]; simp [List.getD, show i < l.length by omega]
      have hz := h _ (mem_getD.2 ⟨i, by omega, rfl⟩)
      have := ih (by omega)
      rw [e, List.sum_append]
      simp only [List.sum_cons, List.sum_nil]
      omega
  have := loopI (f := fun k' i (s : Int) => laws_sum_l0 l k' s i) (l.length : Int) 0 (fun i s => i ≤ l.length ∧ s = (l.take i.toNat).sum) (fun s => s = l.sum) ?_ ?_ k 0 0 (by omega) (by omega) ⟨by omega, by simp⟩
  · obtain ⟨s, e, rfl⟩ := this
    rw [e]; rfl
  · rintro k' i s h0 h1 ⟨_, rfl⟩
    obtain ⟨m, rfl⟩ := nat_of h0
    have e : l.take (m + 1) = l.take m ++ [l.getD m 0] := by
      rw [List.take_succ_eq_append_getElem (by omega)]; simp [List.getD, show m < l.length by omega]
    have hz := h _ (mem_getD.2 ⟨m, by omega, rfl⟩)
    have hbm := hb m (by omega)
    left
    refine ⟨(l.take m).sum + l.getD m 0, ?_, by omega, by rw [show ((m : Int) + 1).toNat = m + 1 by omega, e, List.sum_append]; simp⟩
    show laws_sum_l0 l (k' + 1) _ m = _
    rw [laws_sum_l0, if_pos (decide_eq_true h1), if_pos ⟨h0, h1⟩, Int.toNat_natCast, w64_succ h0 h1 (by omega), w64_id (by omega)]
  · rintro k' i s h0 h1 ⟨_, rfl⟩
    refine ⟨l.sum, ?_, rfl⟩
    show laws_sum_l0 l (k' + 1) _ i = _
    rw [laws_sum_l0, if_neg (by simp only [decide_eq_true_eq]; omega), show i.toNat = l.length by omega, List.take_length]

/-! ### Sums -/
def sumN (f : Nat → Nat) : Nat → Nat
  | 0 => 0
  | n + 1 => sumN f n + f n
theorem sumN_add (f g : Nat → Nat) : ∀ n, sumN (fun a => f a + g a) n = sumN f n + sumN g n
  | 0 => rfl
  | n + 1 => by rw [sumN, sumN, sumN, sumN_add f g n]; omega
theorem sumN_congr {f g : Nat → Nat} : ∀ n, (∀ a, a < n → f a = g a) → sumN f n = sumN g n
  | 0, _ => rfl
  | n + 1, h => by rw [sumN, sumN, sumN_congr n fun a ha => h a (by omega), h n (by omega)]
theorem sumN_count (Q : Nat → Bool) : ∀ n, sumN (fun a => if Q a then 1 else 0) n = (List.range n).countP Q
  | 0 => rfl
  | n + 1 => by
    rw [sumN, sumN_count Q n, List.range_succ, List.countP_append]
    congr 1
    simp only [List.countP_cons, List.countP_nil, Nat.zero_add]
theorem sumN_one (v : Nat) : ∀ n, sumN (fun c => if v = c then 1 else 0) n = if v < n then 1 else 0
  | 0 => rfl
  | n + 1 => by
    rw [sumN, sumN_one v n]
    by_cases h : v < n
    · rw [if_pos h, if_neg (by omega), if_pos (by omega)]
    · rw [if_neg h]
      by_cases e : v = n
      · rw [if_pos e, if_pos (by omega)]
      · rw [if_neg e, if_neg (by omega)]
theorem mapL_sum (f : Nat → Nat) : ∀ n, (mapL n fun a => (f a : Int)).sum = ((sumN f n : Nat) : Int)
  | 0 => rfl
  | n + 1 => by
    rw [mapL_succ, List.sum_append, mapL_sum f n, sumN]
    simp

/-! ### Edges and degrees -/
def cntE (x : Col) (c m : Nat) : Nat := (List.range m).countP fun e => decide ((x.e.get e).toNat = c)
theorem cntE_succ (x : Col) (c m : Nat) : cntE x c (m + 1) = cntE x c m + if (x.e.get m).toNat = c then 1 else 0 := by
  unfold cntE
  rw [List.range_succ, List.countP_append]
  congr 1
  simp only [List.countP_cons, List.countP_nil, Nat.zero_add, decide_eq_true_eq]
theorem cnt_cntE {x : Col} (hp : 1 ≤ x.p ∧ x.p ≤ 17) (c : Nat) : cnt x c = cntE x c (tri x.p.toNat) := by
  have e : edL x = (List.range (tri x.p.toNat)).map fun e => ((x.e.get e).toNat : Int) := by
    refine List.ext_getElem (by rw [edL_length hp]; simp) fun i h1 h2 => ?_
    rw [edL_get hp]
    simp
  unfold cnt cntE
  rw [e, List.countP_map]
  refine List.countP_congr fun a _ => ?_
  simp only [Function.comp_apply, decide_eq_true_eq]
  omega
def degn (x : Col) (c n a : Nat) : Nat := (List.range n).countP fun b => decide (a ≠ b ∧ x.cc a b = (c : Int))
theorem degn_succ (x : Col) (c n a : Nat) : degn x c (n + 1) a = degn x c n a + if a ≠ n ∧ x.cc a n = (c : Int) then 1 else 0 := by
  unfold degn
  rw [List.range_succ, List.countP_append]
  congr 1
  simp only [List.countP_cons, List.countP_nil, Nat.zero_add, decide_eq_true_eq]
theorem dgN_degn (x : Col) (c a : Nat) : dgN x c a = degn x c x.p.toNat a := by
  unfold dgN degn pts ir
  rw [← List.countP_eq_length_filter, List.countP_map, Nat.sub_zero, ← List.range_eq_range']
  refine List.countP_congr fun b _ => ?_
  have hb : (Int.ofNat b) = (b : Int) := rfl
  simp only [Function.comp_apply, aB, hb, decide_eq_true_eq]
  constructor
  · rintro ⟨h1, h2⟩; exact ⟨fun e => h1 (by rw [e]), h2⟩
  · rintro ⟨h1, h2⟩; exact ⟨fun e => h1 (by omega), h2⟩
def newE (x : Col) (c n : Nat) : Nat := (List.range n).countP fun a : Nat => decide (x.cc a n = (c : Int))
theorem cntE_tri (x : Col) (c n : Nat) (hn : n ≤ 16) : cntE x c (tri (n + 1)) = cntE x c (tri n) + newE x c n := by
  have ht : tri (n + 1) = tri n + n := by
    have : ∀ n, n ≤ 16 → tri (n + 1) = tri n + n := by decide +kernel
    exact this n hn
  unfold cntE newE
  rw [ht, List.range_add, List.countP_append, List.countP_map]
  congr 1
  refine List.countP_congr fun a ha => ?_
  have ha := List.mem_range.1 ha
  have he : eN a n = tri n + a := by unfold eN tri; rw [if_neg (by omega)]
  simp only [Function.comp_apply, decide_eq_true_eq]
  rw [cc_nat, he]
  omega
theorem hands (x : Col) (c : Nat) : ∀ n, n ≤ 17 → sumN (degn x c n) n = 2 * cntE x c (tri n)
  | 0, _ => rfl
  | n + 1, hn => by
    have h1 : sumN (degn x c (n + 1)) n = sumN (degn x c n) n + newE x c n := by
      rw [sumN_congr n (fun a ha => degn_succ x c n a), sumN_add]
      congr 1
      have := sumN_count (fun a : Nat => decide (x.cc a n = (c : Int))) n
      unfold newE
      rw [← this]
      refine sumN_congr n fun a ha => ?_
      by_cases h : x.cc a n = (c : Int)
      · rw [if_pos ⟨by omega, h⟩, if_pos (decide_eq_true h)]
      · rw [if_neg (fun q => h q.2), if_neg (by simpa using h)]
    have h2 : degn x c (n + 1) n = newE x c n := by
      rw [degn_succ, if_neg (fun q => q.1 rfl), Nat.add_zero]
      unfold degn newE
      refine List.countP_congr fun b hb => ?_
      have hb := List.mem_range.1 hb
      simp only [decide_eq_true_eq]
      rw [cc_comm]
      constructor
      · exact fun q => q.2
      · exact fun q => ⟨by omega, q⟩
    rw [sumN, h1, h2, hands x c n (by omega), cntE_tri x c n (by omega)]
    omega
theorem all_edges (x : Col) (K : Nat) : ∀ m, (∀ e, e < m → (x.e.get e).toNat < K) → sumN (fun c => cntE x c m) K = m
  | 0, _ => by
    have : ∀ K, sumN (fun c => cntE x c 0) K = 0 := by
      intro K
      induction K with
      | zero => rfl
      | succ K ih => rw [sumN, ih]; rfl
    exact this K
  | m + 1, h => by
    rw [sumN_congr K (fun c _ => cntE_succ x c m), sumN_add, all_edges x K m fun e he => h e (by omega), sumN_one, if_pos (h m (by omega))]
theorem deg_sum {x : Col} (hx : x.is) (c : Nat) : (mapL x.p.toNat fun a => (dgN x c a : Int)).sum = 2 * (cnt x c : Int) := by
  have hp := hx.1
  rw [mapL_sum, sumN_congr _ (fun a _ => dgN_degn x c a), hands x c _ (by omega), cnt_cntE hp]
  omega
theorem cnt_sum {x : Col} (hx : x.is) : (mapL x.k.toNat fun c => (cnt x c : Int)).sum = (tri x.p.toNat : Int) := by
  have hp := hx.1
  rw [mapL_sum, sumN_congr _ (fun c _ => cnt_cntE hp c), all_edges x _ _ fun e he => ?_]
  have := is_lt hx he
  omega
theorem tri_two {n : Nat} (h : n ≤ 17) : 2 * (tri n : Int) = (n : Int) * ((n : Int) - 1) := by
  have : ∀ n : Nat, n ≤ 17 → 2 * (tri n : Int) = (n : Int) * ((n : Int) - 1) := by decide +kernel
  exact this n h

/-! ### CountEdges -/
theorem mapL_setB {m c : Nat} {f g : Nat → Int} {v : Int} (hv : g c = v) (ho : ∀ a, a ≠ c → g a = f a) : (mapL m f).set c v = mapL m g := by
  refine List.ext_getElem (by rw [List.length_set, mapL_length, mapL_length]) fun i h1 h2 => ?_
  rw [List.getElem_set]
  simp only [mapL, List.getElem_map, List.getElem_range]
  by_cases e : c = i
  · rw [if_pos e, ← e, hv]
  · rw [if_neg e, ho i fun q => e q.symm]
theorem count_both {k : Nat} (hk : 5000 ≤ k) (x : Col) : ∃ o e, impl_CountEdges k x = some (o, e) ∧ spec_CountEdges k x = some (o.getD [], e) ∧ (o.getD []).length ≤ 4 ∧ (x.is → o = some (mapL x.k.toNat fun c => (cnt x c : Int)) ∧ e = 0) := by
  classical
  unfold impl_CountEdges spec_CountEdges impl_always
  rw [specIs_eq k (by omega)]
  by_cases hx : x.is
  · have hp := hx.1
    have hkk := hx.2.1
    have ht := tri_le (n := x.p.toNat) (by omega)
    have hed : w64 ((w64 (x.p * (w64 (x.p - 1)))).tdiv 2) = (tri x.p.toNat : Int) := tE_tri x hp
    have hkr : 0 ≤ x.k ∧ x.k ≤ x.k ∧ x.k ≤ 1099511627776 := ⟨by omega, by omega, by omega⟩
    rw [((code_cases hk x).1 hx).1, counts_val hx (by omega), decide_eq_true hx]
    simp only [Option.bind_some, decide_true, Bool.not_true, Bool.false_eq_true, if_false]
    rw [if_pos hkr]
    have := loopI (f := fun k' i (s : List Int) => spec_CountEdges_l0 x k' i s) (tri x.p.toNat : Int) 0 (fun i s => i ≤ tri x.p.toNat ∧ s = mapL x.k.toNat fun c => (cntE x c i.toNat : Int)) (fun s => s = mapL x.k.toNat fun c => (cnt x c : Int)) ?_ ?_ k 0 (List.replicate x.k.toNat 0) (by omega) (by omega) ⟨by omega, ?_⟩
    · obtain ⟨s, e, rfl⟩ := this
      rw [e]
      exact ⟨some _, 0, rfl, rfl, by simp only [Option.getD_some, mapL_length]; omega, fun _ => ⟨rfl, rfl⟩⟩
    · rintro k' i s h0 h1 ⟨_, rfl⟩
      obtain ⟨m, rfl⟩ := nat_of h0
      have hlt := is_lt hx (e := m) (by omega)
      have hle : ∀ c, cntE x c m ≤ m := fun c => Nat.le_trans List.countP_le_length (by simp)
      left
      refine ⟨mapL x.k.toNat fun c => (cntE x c (m + 1) : Int), ?_, by omega, by rw [show ((m : Int) + 1).toNat = m + 1 by omega]⟩
      show spec_CountEdges_l0 x (k' + 1) m _ = _
      have hr : (0 : Int) ≤ ((x.e.get m).toNat : Int) ∧ ((x.e.get m).toNat : Int) < ((mapL x.k.toNat fun c => (cntE x c (m : Int).toNat : Int)).length : Int) := ⟨by omega, by rw [mapL_length]; omega⟩
      have hget : x.get (m : Int).toNat = x.e.get m := rfl
      rw [spec_CountEdges_l0, hed, if_pos (decide_eq_true h1), if_pos ⟨h0, by omega⟩, hget, if_pos hr, if_pos hr, w64_succ h0 h1 (by omega), Int.toNat_natCast, Int.toNat_natCast, mapL_get _ _ _ (by omega)]
      have h2 := hle (x.e.get m).toNat
      rw [w64_id (by omega)]
      congr 1
      refine mapL_setB ?_ fun a ha => ?_
      · rw [cntE_succ, if_pos rfl]; omega
      · rw [cntE_succ, if_neg (fun h => ha h.symm)]; omega
    · rintro k' i s h0 h1 ⟨_, rfl⟩
      refine ⟨_, ?_, rfl⟩
      show spec_CountEdges_l0 x (k' + 1) i _ = _
      rw [spec_CountEdges_l0, hed, if_neg (by simp only [decide_eq_true_eq]; omega), show i.toNat = tri x.p.toNat by omega]
      congr 1
      unfold mapL
      refine List.map_congr_left fun c _ => ?_
      rw [cnt_cntE hp c]
    · refine List.ext_getElem (by simp [mapL_length]) fun a h1 h2 => ?_
      simp [mapL, cntE]
  · rw [(code_cases hk x).2 hx, decide_eq_false hx]
    exact ⟨none, 1, rfl, rfl, by simp, fun h => absurd h hx⟩

/-! ### An edge that is changed -/
theorem chE_get {x : Col} (hx : x.is) {i j : Int} (h : P2 x i j) (c : Int) (e : Nat) : (chE x i j c).e.get e = if e = eN i.toNat j.toNat then toByte c else x.e.get e := B136.get_set x.e _ e _ (edge_put hx h).2.2
theorem P2_lt {x : Col} (hx : x.is) {i j : Int} (h : P2 x i j) : eN i.toNat j.toNat < tri x.p.toNat := by
  have hp := hx.1
  obtain ⟨⟨a1, a2⟩, ⟨b1, b2⟩, hij⟩ := h
  rcases Nat.lt_or_ge i.toNat j.toNat with w | w
  · exact eN_lt w (by omega) (by omega)
  · rw [eN_comm]; exact eN_lt (show j.toNat < i.toNat by omega) (by omega) (by omega)
theorem chE_is {x : Col} (hx : x.is) {i j c : Int} (h : P2 x i j) (hc : PC x c) : (chE x i j c).is := by
  obtain ⟨hp, hk, he⟩ := hx
  have hx : x.is := ⟨hp, hk, he⟩
  have hlt := P2_lt hx h
  unfold PC at hc
  refine ⟨hp, hk, fun t h0 h136 => ?_⟩
  obtain ⟨e, rfl⟩ := nat_of h0
  have ho := he e h0 h136
  have hg := chE_get hx h c e
  have ht : tE (chE x i j c) = (tri x.p.toNat : Int) := tE_tri x hp
  refine ⟨fun hq => ?_, fun hq => ?_⟩
  · show (((chE x i j c).e.get (e : Int).toNat).toNat : Int) < x.k
    rw [Int.toNat_natCast, hg]
    by_cases q : e = eN i.toNat j.toNat
    · rw [if_pos q, tb_id (by omega)]; omega
    · rw [if_neg q]
      exact is_lt hx (by rw [ht] at hq; omega)
  · show (((chE x i j c).e.get (e : Int).toNat).toNat : Int) = 0
    rw [ht] at hq
    rw [Int.toNat_natCast, hg, if_neg (by omega)]
    have := ho.2 (by rw [tE_tri x hp]; exact hq)
    exact this
theorem chE_cc {x : Col} (hx : x.is) {i j c : Int} (h : P2 x i j) (hc : PC x c) : (chE x i j c).cc j i = c := by
  have hk := hx.2.1
  unfold PC at hc
  rw [cc_comm]
  show (((chE x i j c).e.get (eN i.toNat j.toNat)).toNat : Int) = c
  rw [chE_get hx h, if_pos rfl, tb_id (by omega)]
theorem chE_back {x : Col} (hx : x.is) {i j c : Int} (h : P2 x i j) (hc : PC x c) : chE (chE x i j c) i j (x.cc i j) = x := by
  have hy := chE_is hx h hc
  refine Col.ext' rfl rfl (B136.ext_get fun e he => ?_)
  have h' : P2 (chE x i j c) i j := h
  rw [chE_get hy h', chE_get hx h]
  by_cases q : e = eN i.toNat j.toNat
  · rw [if_pos q, q]
    exact tb _
  · rw [if_neg q, if_neg q]

/-! ### Colourings with given colours -/
theorem fillC_val (D : List Int) (hD : D.length ≤ 136) (p q : Int) (K : Nat) (hK : 200 ≤ K) : ∃ s : Col, spec_ColouringOf_l0 D K 0 ⟨p, q, B136.zero⟩ = some s ∧ s.p = p ∧ s.k = q ∧ ∀ t, t < 136 → s.e.get t = if t < D.length then toByte (D.getD t 0) else 0 := by
  refine loopI (f := fun k' i (s : Col) => spec_ColouringOf_l0 D k' i s) (D.length : Int) 0 (fun i s => i ≤ D.length ∧ s.p = p ∧ s.k = q ∧ ∀ t : Nat, t < 136 → s.e.get t = if (t : Int) < i then toByte (D.getD t 0) else 0) (fun s => s.p = p ∧ s.k = q ∧ ∀ t : Nat, t < 136 → s.e.get t = if t < D.length then toByte (D.getD t 0) else 0) ?_ ?_ K 0 ⟨p, q, B136.zero⟩ (by omega) (by omega) ⟨by omega, rfl, rfl, fun t _ => by rw [if_neg (by omega)]; exact B136.get_zero t⟩
  · rintro k' i s h0 h1 ⟨_, q1, q2, q3⟩
    obtain ⟨m, rfl⟩ := nat_of h0
    left
    refine ⟨s.set m (toByte (D.getD m 0)), ?_, by omega, q1, q2, fun t ht => ?_⟩
    · show spec_ColouringOf_l0 D (k' + 1) m s = _
      rw [spec_ColouringOf_l0, if_pos (decide_eq_true h1), if_pos ⟨h0, h1⟩, if_pos ⟨h0, by omega⟩, Int.toNat_natCast, w64_succ h0 h1 (by omega)]
    · rw [show (s.set m (toByte (D.getD m 0))).e.get t = _ from B136.get_set s.e m t _ (by omega)]
      by_cases e : t = m
      · rw [if_pos e, if_pos (by omega), e]
      · rw [if_neg e, q3 t ht]
        by_cases h : (t : Int) < m
        · rw [if_pos h, if_pos (by omega)]
        · rw [if_neg h, if_neg (by omega)]
  · rintro k' i s h0 h1 ⟨_, q1, q2, q3⟩
    refine ⟨s, ?_, q1, q2, fun t ht => ?_⟩
    · show spec_ColouringOf_l0 D (k' + 1) i s = _
      rw [spec_ColouringOf_l0, if_neg (by simp only [decide_eq_true_eq]; omega)]
    · rw [q3 t ht]
      by_cases h : t < D.length
      · rw [if_pos h, if_pos (by omega)]
      · rw [if_neg h, if_neg (by omega)]
theorem of_both {k : Nat} (hk : 5000 ≤ k) (n c : Int) (l : List Int) (hl : l.length ≤ 1000) : ∃ z e, impl_ColouringOf k n c l = some (z, e) ∧ spec_ColouringOf k n c l = some (z, e) := by
  classical
  unfold impl_ColouringOf spec_ColouringOf impl_areSizes letO
  rw [in_eq, in_eq, specIn_eq, specIn_eq]
  by_cases c1 : 1 ≤ n ∧ n ≤ 17
  · by_cases c2 : 1 ≤ c ∧ c ≤ 4
    · have hn : ((n.toNat : Nat) : Int) = n := by omega
      have ht := tri_le (n := n.toNat) (by omega)
      have hed : w64 ((w64 (n * (w64 (n - 1)))).tdiv 2) = (tri n.toNat : Int) := by
        have : ∀ n : Nat, n ≤ 17 → w64 ((w64 ((n : Int) * (w64 ((n : Int) - 1)))).tdiv 2) = (tri n : Int) := by decide +kernel
        have := this n.toNat (by omega)
        rwa [hn] at this
      rw [decide_eq_true c1, decide_eq_true c2, hed]
      simp only [if_true, Bool.not_true, Bool.false_eq_true, if_false]
      rw [areIn_val k l _ _ _ (by omega) (by omega), w64_id (n := c - 1) (by omega), specAll_eq k l c (by omega) (by omega) (by omega)]
      have hall : (∀ i : Int, 0 ≤ i → i < l.length → 0 ≤ li l i ∧ li l i ≤ c - 1) ↔ ∀ z ∈ l, 0 ≤ z ∧ z ≤ c - 1 := by
        unfold li
        constructor
        · intro h z hz
          obtain ⟨a, ha, rfl⟩ := mem_getD.1 hz
          have := h a (by omega) (by omega)
          rwa [Int.toNat_natCast] at this
        · intro h i h0 hi
          exact h _ (mem_getD.2 ⟨i.toNat, by omega, rfl⟩)
      by_cases c3 : (l.length : Int) = (tri n.toNat : Int)
      · by_cases c4 : ∀ z ∈ l, 0 ≤ z ∧ z ≤ c - 1
        · rw [decide_eq_true (show (l.length : Int) = (tri n.toNat : Int) ∧ ∀ z ∈ l, 0 ≤ z ∧ z ≤ c - 1 from ⟨c3, c4⟩), decide_eq_true c3, decide_eq_true (hall.2 c4)]
          simp only [Option.bind_some, Bool.not_true, Bool.false_eq_true, if_false]
          have hmade : impl_made k n c (fun a0 a1 => impl_ColouringOf_c1 a0 a1 l) = some (mkC n.toNat c fun a b => l.getD (eN a b) 0) := by
            have := made_val (k := k) (n := n.toNat) (c := c) (f := fun a0 a1 => impl_ColouringOf_c1 a0 a1 l) (g := fun a b => l.getD (eN a b) 0) (by omega) (by omega) fun i j hij hj => by
              have := eN_lt hij hj (by omega)
              unfold impl_ColouringOf_c1
              rw [number_eq _ _ (by omega) (by omega), Int.toNat_natCast, Int.toNat_natCast, if_pos ⟨by omega, by omega⟩, Int.toNat_natCast]
            rwa [hn] at this
          obtain ⟨s, e, s1, s2, s3⟩ := fillC_val l (by omega) n c k (by omega)
          rw [hmade, e]
          have hs : s = mkC n.toNat c fun a b => l.getD (eN a b) 0 := by
            refine Made.to (g' := fun a b => toByte (l.getD (eN a b) 0)) (by omega) ⟨by rw [s1, hn], s2, fun a b hab hb => ?_, fun e he h1 => ?_⟩ fun a b _ _ => rfl
            · have := eN_lt hab (show b < n.toNat by omega) (by omega)
              rw [s3 _ (by omega), if_pos (by omega)]
            · rw [s3 e h1, if_neg (by rw [Int.toNat_natCast] at he; omega)]
          rw [hs]
          exact ⟨_, 0, rfl, rfl⟩
        · rw [decide_eq_false (show ¬ ((l.length : Int) = (tri n.toNat : Int) ∧ ∀ z ∈ l, 0 ≤ z ∧ z ≤ c - 1) from fun h => c4 h.2), decide_eq_true c3, decide_eq_false (fun h => c4 (hall.1 h))]
          exact ⟨zC, 2, rfl, rfl⟩
      · rw [decide_eq_false (show ¬ ((l.length : Int) = (tri n.toNat : Int) ∧ ∀ z ∈ l, 0 ≤ z ∧ z ≤ c - 1) from fun h => c3 h.1), decide_eq_false c3]
        exact ⟨zC, 2, rfl, rfl⟩
    · rw [decide_eq_true c1, decide_eq_false c2]
      exact ⟨zC, 2, rfl, rfl⟩
  · rw [decide_eq_false c1]
    exact ⟨zC, 2, rfl, rfl⟩

theorem given2_ok {k : Nat} (hk : 5000 ≤ k) (c : List UInt8) (hc : c.length ≤ 4096) : ∃ x i j d, spec_l01Given2 k c = some (x, i, j, d) := by
  unfold spec_l01Given2
  obtain ⟨s0, e0, hs0⟩ := from_ok hk c hc
  obtain ⟨x, s1, e1, hs1, _⟩ := draw2 hk s0 hs0
  obtain ⟨i, s2, e2, hs2⟩ := near_ok s1 (w64 (x.p - 1)) hs1
  obtain ⟨j, s3, e3, hs3⟩ := near_ok s2 (w64 (x.p - 1)) hs2
  obtain ⟨d, s4, e4, hs4⟩ := near_ok s3 (w64 (x.k - 1)) hs3
  obtain ⟨y, s5, e5, hs5⟩ := bad_ok s4 x hs4
  refine ⟨y, i, j, d, ?_⟩
  rw [e0, Option.bind_some, e1, Option.bind_some]
  dsimp only
  rw [e2, Option.bind_some]
  dsimp only
  rw [e3, Option.bind_some]
  dsimp only
  rw [e4, Option.bind_some]
  dsimp only
  rw [e5]; rfl
theorem count_ok {k : Nat} (hk : 5000 ≤ k) (c : List UInt8) (hc : c.length ≤ 4096) : ∃ x, spec_DrawCountEdges k c = some x := by
  unfold spec_DrawCountEdges spec_l01Spoil
  obtain ⟨s0, e0, hs0⟩ := from_ok hk c hc
  obtain ⟨x, s1, e1, hs1, _⟩ := draw2 hk s0 hs0
  obtain ⟨y, s2, e2, _⟩ := bad_ok s1 x hs1
  refine ⟨y, ?_⟩
  rw [e0, Option.bind_some, e1, Option.bind_some]
  dsimp only
  rw [e2]; rfl
theorem ofDraw_ok {k : Nat} (hk : 5000 ≤ k) (c : List UInt8) (hc : c.length ≤ 4096) : ∃ n d l, spec_DrawColouringOf k c = some (n, d, l) ∧ l.length ≤ 1000 := by
  unfold spec_DrawColouringOf
  obtain ⟨s0, e0, hs0⟩ := from_ok hk c hc
  obtain ⟨a, s1, e1, hs1, ha⟩ := pick_ok s0 [5, 9, 17] hs0 (by simp)
  have ha' : 1 ≤ a ∧ a ≤ 17 := by simp at ha; omega
  obtain ⟨b, s2, e2, hs2, hb, _⟩ := next_ok s1 a hs1
  have hb' := hb (by omega)
  obtain ⟨d, s3, e3, hs3, _⟩ := pick_ok s2 [1, 2, 2, 3, 4] hs2 (by simp)
  have hw : w64 (1 + b) = 1 + b := w64_id (by omega)
  have hh := half_ok (1 + b) (by omega)
  have hloop : ∃ s4 l, spec_DrawColouringOf_l0 (b, s2) (d, s3) k 0 s3 [] = some (s4, l) ∧ okS s4 ∧ l.length ≤ 136 := by
    have := loopI (f := fun k' i (t : Src × List Int) => spec_DrawColouringOf_l0 (b, s2) (d, s3) k' i t.1 t.2) (w64 ((w64 ((1 + b) * (w64 ((1 + b) - 1)))).tdiv 2)) 0 (fun i t => i ≤ w64 ((w64 ((1 + b) * (w64 ((1 + b) - 1)))).tdiv 2) ∧ okS t.1 ∧ (t.2.length : Int) ≤ i) (fun t => okS t.1 ∧ t.2.length ≤ 136) ?_ ?_ k 0 (s3, []) (by omega) (by omega) ⟨hh.1, hs3, by simp⟩
    · obtain ⟨⟨s4, l⟩, e, h1, h2⟩ := this
      exact ⟨s4, l, e, h1, h2⟩
    · rintro k' i ⟨t, l⟩ h0 h1 ⟨_, q1, q2⟩
      dsimp only at q1 q2
      obtain ⟨v, t', e, ht, _⟩ := next_ok t d q1
      left
      refine ⟨(t', l ++ [v]), ?_, by omega, ht, by simp; omega⟩
      show spec_DrawColouringOf_l0 (b, s2) (d, s3) (k' + 1) i t l = _
      rw [spec_DrawColouringOf_l0]
      dsimp only
      rw [hw, if_pos (decide_eq_true h1), e, Option.bind_some, if_pos (by simp only [List.length_singleton]; omega), w64_succ h0 h1 (by omega)]
    · rintro k' i ⟨t, l⟩ h0 h1 ⟨_, q1, q2⟩
      dsimp only at q1 q2
      refine ⟨(t, l), ?_, q1, by show l.length ≤ 136; omega⟩
      show spec_DrawColouringOf_l0 (b, s2) (d, s3) (k' + 1) i t l = _
      rw [spec_DrawColouringOf_l0]
      dsimp only
      rw [hw, if_neg (by simp only [decide_eq_true_eq]; omega)]
  obtain ⟨s4, l, e4, hs4, hl⟩ := hloop
  obtain ⟨v, s5, e5, hs5, _⟩ := next_ok s4 16 hs4
  rw [e0, Option.bind_some, e1, Option.bind_some]
  dsimp only
  rw [e2, Option.bind_some]
  dsimp only
  rw [e3, Option.bind_some]
  dsimp only
  rw [e4, Option.bind_some]
  dsimp only
  rw [e5, Option.bind_some]
  dsimp only
  by_cases h0 : v = 0
  · obtain ⟨w, s6, e6, _⟩ := pick_ok s5 [0, 18, (-1), w64 ((w64 (1 + b)) + 1), 1099511627776] hs5 (by simp)
    rw [if_pos (decide_eq_true h0), e6]
    exact ⟨w, d, l, rfl, by omega⟩
  · rw [if_neg (by simpa using h0)]
    by_cases h1 : v = 1
    · obtain ⟨w, s6, e6, _⟩ := pick_ok s5 [0, 5, (-1)] hs5 (by simp)
      rw [if_pos (decide_eq_true h1), e6]
      exact ⟨_, w, l, rfl, by omega⟩
    · rw [if_neg (by simpa using h1)]
      by_cases h2 : v = 2
      · obtain ⟨w, s6, e6, _⟩ := pick_ok s5 [0, (-1), d] hs5 (by simp)
        rw [if_pos (decide_eq_true h2), e6, Option.bind_some, if_pos (by simp only [List.length_singleton]; omega)]
        exact ⟨_, d, _, rfl, by simp; omega⟩
      · rw [if_neg (by simpa using h2)]
        by_cases h3 : v = 3
        · rw [if_pos (decide_eq_true h3)]
          by_cases h4 : 0 < (l.length : Int)
          · obtain ⟨w, s6, e6, _⟩ := pick_ok s5 [d, (-1), 256] hs5 (by simp)
            rw [if_pos (decide_eq_true h4), e6, Option.bind_some, if_pos ⟨by omega, h4⟩]
            exact ⟨_, d, _, rfl, by simp; omega⟩
          · rw [if_neg (by simpa using h4)]
            exact ⟨_, d, l, rfl, by omega⟩
        · rw [if_neg (by simpa using h3)]
          exact ⟨_, d, l, rfl, by omega⟩

/-! ### Texts -/
theorem dec_any : ∀ (f : Nat) (n : Int) (k : Nat), f ≤ 5 → 0 ≤ n → n < ((10 ^ (f + 1) : Nat) : Int) → f + 1 ≤ k → ∃ d : ByteArray, spec_l01Dec k n = some d ∧ d.size ≤ f + 1
  | 0, n, k, _, h0, h1, hk => by
    obtain ⟨k, rfl⟩ : ∃ q, k = q + 1 := ⟨k - 1, by omega⟩
    exact ⟨_, dec_one n ⟨h0, by simpa using h1⟩ k, by rw [bs_size]; simp⟩
  | f + 1, n, k, hf, h0, h1, hk => by
    obtain ⟨k, rfl⟩ : ∃ q, k = q + 1 := ⟨k - 1, by omega⟩
    by_cases h10 : n < 10
    · exact ⟨_, dec_one n ⟨h0, h10⟩ k, by rw [bs_size]; simp⟩
    · have e : n.tdiv 10 = n / 10 := Int.tdiv_eq_ediv_of_nonneg h0
      have hp : (10 ^ (f + 1 + 1) : Nat) = 10 ^ (f + 1) * 10 := Nat.pow_succ _ _
      have hb : (10 ^ (f + 1) : Nat) ≤ 10 ^ 6 := Nat.pow_le_pow_right (by omega) (by omega)
      have hb2 : (10 ^ 6 : Nat) = 1000000 := by decide
      obtain ⟨d, e1, hd⟩ := dec_any f (n / 10) k (by omega) (by omega) (by omega) (by omega)
      have hz : (⟨([toByte (w64 (48 + (n.tmod 10)))]).toArray⟩ : ByteArray).size = 1 := rfl
      refine ⟨d ++ ⟨([toByte (w64 (48 + (n.tmod 10)))]).toArray⟩, ?_, by rw [ByteArray.size_append, hz]; omega⟩
      rw [spec_l01Dec, spec_l01Dec_body, if_neg (by simp only [decide_eq_true_eq]; omega), if_neg (by simpa using h10), e, w64_id (by omega), e1, Option.bind_some, if_pos (by rw [hz]; omega)]
theorem text_ok {k : Nat} (hk : 5000 ≤ k) (x : Col) (hx : goodC x) : ∃ t, spec_l01Text k x = some t ∧ t.size ≤ 900 := by
  obtain ⟨hp, hq⟩ := hx
  have hcc : ∀ a b : Int, 0 ≤ x.cc a b ∧ x.cc a b < 256 := fun a b => by
    unfold Col.cc
    have := (x.e.get (eN a.toNat b.toNat)).toNat_lt
    omega
  obtain ⟨a, a2, a1⟩ := dec_any 1 x.p k (by omega) (by omega) (by show x.p < ((100 : Nat) : Int); omega) (by omega)
  obtain ⟨b, b2, b1⟩ := dec_any 1 x.k k (by omega) (by omega) (by show x.k < ((100 : Nat) : Int); omega) (by omega)
  have z44 : (⟨#[44]⟩ : ByteArray).size = 1 := rfl
  have z58 : (⟨#[58]⟩ : ByteArray).size = 1 := rfl
  have hrow : ∀ (j : Nat) (s : ByteArray), (j : Int) < x.p → s.size ≤ 2000 → ∃ t, spec_l01Text_l1 k x j k s 0 = some t ∧ t.size ≤ s.size + 3 * j := fun j s hj hs => by
    refine loopI (f := fun k' i (t : ByteArray) => spec_l01Text_l1 k x j k' t i) (j : Int) 0 (fun i t => i ≤ j ∧ (t.size : Int) ≤ s.size + 3 * i) (fun t => t.size ≤ s.size + 3 * j) ?_ ?_ k 0 s (by omega) (by omega) ⟨by omega, by omega⟩
    · rintro k' i t h0 h1 ⟨_, q⟩
      have hc := hcc i j
      obtain ⟨d, e, hd⟩ := dec_any 2 (x.cc i j) k (by omega) hc.1 (by show x.cc i j < ((1000 : Nat) : Int); omega) (by omega)
      left
      refine ⟨t ++ d, ?_, by omega, by rw [ByteArray.size_append]; omega⟩
      show spec_l01Text_l1 k x j (k' + 1) t i = _
      rw [spec_l01Text_l1, if_pos (decide_eq_true h1), specAt_eq x i j h0 h1 (by omega) (by omega), Option.bind_some, e, Option.bind_some, if_pos (by omega), w64_succ h0 h1 (by omega)]
    · rintro k' i t h0 h1 ⟨_, q⟩
      refine ⟨t, ?_, by omega⟩
      show spec_l01Text_l1 k x j (k' + 1) t i = _
      rw [spec_l01Text_l1, if_neg (by simp only [decide_eq_true_eq]; omega)]
  have hall : ∀ s : ByteArray, s.size ≤ 10 → ∃ t, spec_l01Text_l0 k x k s 1 = some t ∧ t.size ≤ 900 := fun s hs => by
    refine loopI (f := fun k' i (t : ByteArray) => spec_l01Text_l0 k x k' t i) x.p 1 (fun i t => 1 ≤ i ∧ i ≤ x.p ∧ (t.size : Int) ≤ 10 + 52 * i) (fun t => t.size ≤ 900) ?_ ?_ k 1 s (by omega) (by omega) ⟨by omega, by omega, by omega⟩
    · rintro k' i t h0 h1 ⟨_, _, q⟩
      obtain ⟨j, rfl⟩ := nat_of (show 0 ≤ i by omega)
      left
      obtain ⟨u, hu, hus⟩ : ∃ u : ByteArray, ((if decide (1 < (j : Int)) then (if t.size + (⟨#[44]⟩ : ByteArray).size ≤ 1099511627776 then some (t ++ (⟨#[44]⟩ : ByteArray)) else none) else some t) : Option (ByteArray)) = some u ∧ u.size ≤ t.size + 1 := by
        by_cases h : 1 < (j : Int)
        · exact ⟨t ++ ⟨#[44]⟩, by rw [if_pos (decide_eq_true h), if_pos (by rw [z44]; omega)], by rw [ByteArray.size_append, z44]; omega⟩
        · exact ⟨t, by rw [if_neg (by simpa using h)], by omega⟩
      obtain ⟨v, ev, hv⟩ := hrow j u h1 (by omega)
      refine ⟨v, ?_, by omega, by omega, by omega⟩
      show spec_l01Text_l0 k x (k' + 1) t j = _
      rw [spec_l01Text_l0, if_pos (decide_eq_true h1), hu, Option.bind_some, ev, Option.bind_some, w64_succ (by omega) h1 (by omega)]
    · rintro k' i t h0 h1 ⟨_, _, q⟩
      refine ⟨t, ?_, by omega⟩
      show spec_l01Text_l0 k x (k' + 1) t i = _
      rw [spec_l01Text_l0, if_neg (by simp only [decide_eq_true_eq]; omega)]
  unfold spec_l01Text
  obtain ⟨t, et, ht⟩ := hall (((a ++ (⟨#[44]⟩ : ByteArray)) ++ b) ++ (⟨#[58]⟩ : ByteArray)) (by rw [ByteArray.size_append, ByteArray.size_append, ByteArray.size_append, z44, z58]; omega)
  refine ⟨t, ?_, ht⟩
  rw [a2, Option.bind_some, if_pos (by rw [z44]; omega), b2, Option.bind_some, if_pos (by rw [ByteArray.size_append, z44]; omega), if_pos (by rw [ByteArray.size_append, ByteArray.size_append, z44, z58]; omega), et]; rfl
theorem parseDraw_ok {k : Nat} (hk : 144115188075860000 ≤ k) (c : List UInt8) (hc : c.length ≤ 4096) : ∃ t, spec_DrawParseColouring k c = some t ∧ t.size ≤ 4294967280 := by
  unfold spec_DrawParseColouring
  obtain ⟨s0, e0, hs0⟩ := from_ok (k := k) (by omega) c hc
  obtain ⟨x, s1, e1, hs1, hx⟩ := small2 (k := k) (by omega) s0 hs0
  obtain ⟨t, e2, ht⟩ := text_ok (k := k) (by omega) x hx
  obtain ⟨v, s2, e3, hs2, _⟩ := next_ok s1 4 hs1
  rw [e0, Option.bind_some, e1, Option.bind_some]
  dsimp only
  rw [e2, Option.bind_some, e3, Option.bind_some]
  dsimp only
  have key : ∃ u s3, ((if decide (v = 0) then (spec_l01Draw k s2).bind fun r6 => (spec_l01Text k r6.1).bind fun r7 => some (r7, r6.2) else some (t, s2)) : Option (ByteArray × Src)) = some (u, s3) ∧ okS s3 ∧ u.size ≤ 900 := by
    by_cases h : v = 0
    · obtain ⟨y, s3, e4, hs3, hy⟩ := draw2 (k := k) (by omega) s2 hs2
      obtain ⟨u, e5, hu⟩ := text_ok (k := k) (by omega) y hy
      exact ⟨u, s3, by rw [if_pos (decide_eq_true h), e4, Option.bind_some]; dsimp only; rw [e5]; rfl, hs3, hu⟩
    · exact ⟨t, s2, by rw [if_neg (by simpa using h)], hs2, ht⟩
  obtain ⟨u, s3, e4, hs3, hu⟩ := key
  rw [e4, Option.bind_some]
  obtain ⟨w, e5, hw⟩ := dam_end (L := spec_DrawParseColouring_l0) (fun k t s => rfl) k hk u s3 hs3 hu
  dsimp only
  rw [e5]
  exact ⟨w, rfl, hw⟩
end Go.Proofs.YtfhdihekehlkiaaGreatDoor
