/- The plain law of FnExactComponentsOf: the program's components are the reference's, and marks stay. No conditions beyond those that each lemma states. -/
import Derived.Test.YtmmiokljmfkoiaaPureConn14
import Derived.Test.YtmmiokljmfkoiaaMarkW
set_option linter.unusedVariables false
set_option linter.unusedSimpArgs false
namespace Go.Proofs.Ytmmiokljmfkoiaa
open Go Go.RowKit Ab

theorem pick_same {n m : Nat} {P Q : Nat → Bool} (h : ∀ v, (v < n ∧ P v = true) ↔ (v < m ∧ Q v = true)) : pick n P = pick m Q :=
  pw_ext _ _ (pick_pw n P) (pick_pw m Q) fun z => by
    rw [pick_mem, pick_mem]
    constructor
    · rintro ⟨v, e, h1, h2⟩; exact ⟨v, e, (h v).1 ⟨h1, h2⟩⟩
    · rintro ⟨v, e, h1, h2⟩; exact ⟨v, e, (h v).2 ⟨h1, h2⟩⟩

theorem points_eq (T : Nat) (hT : T < 2 ^ 63) (k : Nat) (hk : 70 ≤ k) : spec_l01Points k T = some (pick 62 fun v => T.testBit v) := by
  unfold spec_l01Points
  have := loopI (f := fun k' i (s : List Int) => spec_l01Points_l0 T k' i s) 62 0 (fun i s => i ≤ 62 ∧ s = pick i.toNat fun v => T.testBit v) (fun r => r = pick 62 fun v => T.testBit v) ?_ ?_ k 0 [] (by omega) (by omega) ⟨by omega, rfl⟩
  · obtain ⟨r, e, rfl⟩ := this
    rw [e]; rfl
  · intro k' i s h0 h1 ⟨_, q⟩
    left
    obtain ⟨m, rfl⟩ := nat_of h0
    refine ⟨_, ?_, by omega, rfl⟩
    show spec_l01Points_l0 T (k' + 1) m s = _
    have e0 : ((m : Int) + 1).toNat = m + 1 := by omega
    have hl := pick_length m fun v => T.testBit v
    rw [spec_l01Points_l0, w64_succ h0 h1 (by omega), e0, u64_id (by omega), pick_succ, q, bit_eq hT (by omega)]
    simp only [Int.toNat_natCast] at *
    have hl' : (pick m fun v => T.testBit v).length + 1 ≤ 1099511627776 := by omega
    by_cases hb : T.testBit m
    · simp [h1, hb, hl']
    · simp [h1, hb]
  · intro k' i s h0 h1 ⟨q1, q2⟩
    have : i = 62 := by omega
    subst this
    refine ⟨s, ?_, q2⟩
    show spec_l01Points_l0 T (k' + 1) 62 s = _
    rw [spec_l01Points_l0]; simp

theorem comp_len (x : Col) (c : Int) (n : Nat) : (comp x c n).length ≤ x.p.toNat := by
  classical
  unfold comp
  exact pick_length _ _

theorem specComps_l0 (x : Col) (hx : 1 ≤ x.p ∧ x.p ≤ 17) (c : Int) (k : Nat) (hk : 80 ≤ k) : spec_ComponentsOf_l0 k x (rowsB x c x.p.toNat) k 0 0 [] = some (comps x c x.p.toNat) := by
  classical
  obtain ⟨n, hn⟩ := nat_of (show 0 ≤ x.p by omega)
  have := loopI (f := fun k' i (s : Int × List (List Int)) => spec_ComponentsOf_l0 k x (rowsB x c x.p.toNat) k' s.1 i s.2) (n : Int) 0
    (fun i s => i ≤ n ∧ (∃ S : Nat, s.1 = S ∧ S < 2 ^ n ∧ ∀ v, S.testBit v = true ↔ ∃ u, u < i.toNat ∧ Rch (adj x c) u v) ∧ s.2 = comps x c i.toNat) (fun r => r = comps x c n) ?_ ?_ k 0 (0, []) (by omega) (by omega)
    ⟨by omega, ⟨0, rfl, Nat.pow_pos (by omega), fun v => by simp⟩, rfl⟩
  · obtain ⟨r, e, rfl⟩ := this
    rw [hn]
    simp only [Int.toNat_natCast]
    rw [hn] at e
    exact e
  · rintro k' i ⟨d, out⟩ h0 h1 ⟨_, ⟨S, q1, q2, q3⟩, q4⟩
    simp only at q1 q4
    left
    obtain ⟨m, rfl⟩ := nat_of h0
    have hm : m < n := by omega
    simp only [Int.toNat_natCast] at q3 q4
    have e1 : ((m : Int) + 1).toNat = m + 1 := by omega
    have hcl := comps_len x c m
    have hS17 := lt17 q2 (by omega)
    have hS := lt63 hS17
    obtain ⟨T, eT, hT, hb⟩ := compS_eq x hx c m (by omega) k (by omega)
    have hTn : T < 2 ^ n := by rw [hn] at hT; exact hT
    have hT17 := lt17 hTn (by omega)
    by_cases hv : S.testBit m = true
    · obtain ⟨u, hu, hr⟩ := (q3 m).1 hv
      have hnl : ¬ least x c m := fun h => h u hu hr
      refine ⟨(d, out), ?_, by omega, ⟨S, q1, q2, fun v => ?_⟩, ?_⟩
      · show spec_ComponentsOf_l0 k x _ (k' + 1) d m out = _
        rw [spec_ComponentsOf_l0, w64_succ h0 h1 (by omega), u64_id (by omega), q1, bit_eq hS (by omega)]
        simp [hn, h1, hv]
      · rw [q3 v, e1]
        constructor
        · rintro ⟨u', hu', hr'⟩; exact ⟨u', by omega, hr'⟩
        · rintro ⟨u', hu', hr'⟩
          by_cases e : u' = m
          · subst e; exact ⟨u, hu, hr.trans hr'⟩
          · exact ⟨u', by omega, hr'⟩
      · rw [e1, comps_succ, if_neg hnl, List.append_nil]; exact q4
    · have hl : least x c m := fun u hu hr => hv ((q3 m).2 ⟨u, hu, hr⟩)
      have hpts : pick 62 (fun v => T.testBit v) = comp x c m := by
        unfold comp
        refine pick_same fun v => ?_
        rw [hb v]
        constructor
        · rintro ⟨_, h⟩
          exact ⟨by have := Rch.lt (s := m) (by omega) h; omega, by simpa using h⟩
        · rintro ⟨h, h'⟩
          exact ⟨by omega, by simpa using h'⟩
      refine ⟨((S ||| T : Nat), out ++ [comp x c m]), ?_, by omega, ⟨S ||| T, rfl, Nat.or_lt_two_pow q2 hTn, fun v => ?_⟩, ?_⟩
      · show spec_ComponentsOf_l0 k x _ (k' + 1) d m out = _
        have hv' : S.testBit m = false := by simpa using hv
        have hlen : out.length + 1 ≤ 1099511627776 := by rw [q4]; omega
        have e' : spec_l04Component k (rowsB x c (n : Int).toNat) (m : Int) = some (T : Int) := by rw [← hn]; exact eT
        simp only [Int.toNat_natCast] at e'
        rw [spec_ComponentsOf_l0, w64_succ h0 h1 (by omega), u64_id (by omega), q1, bit_eq hS (by omega)]
        simp only [hn, Int.toNat_natCast, e', hv', Option.bind_some, points_eq T (lt63 hT17) k (by omega), hpts, bOr_nat hS (lt63 hT17), h1, decide_true, if_true, h0, List.length_cons, List.length_nil, Nat.zero_add, hlen]
        simp
      · rw [Nat.testBit_or, Bool.or_eq_true, q3 v, hb v, e1]
        constructor
        · rintro (⟨u, hu, hr⟩ | hr)
          · exact ⟨u, by omega, hr⟩
          · exact ⟨m, by omega, hr⟩
        · rintro ⟨u, hu, hr⟩
          by_cases e : u = m
          · subst e; exact .inr hr
          · exact .inl ⟨u, by omega, hr⟩
      · simp only
        rw [e1, comps_succ, if_pos hl, q4]
  · rintro k' i ⟨d, out⟩ h0 h1 ⟨q1, _, q4⟩
    have : i = n := by omega
    subst this
    refine ⟨out, ?_, by simpa using q4⟩
    show spec_ComponentsOf_l0 k x _ (k' + 1) d n out = _
    rw [spec_ComponentsOf_l0, hn]; simp

/-! ### Rows that are the same -/
theorem eqRows_refl (k : Nat) (T : List (List Int)) (hk : T.length + 1 ≤ k) (hl : (T.length : Int) ≤ 1099511627776) (hr : ∀ l ∈ T, l.length + 1 ≤ k ∧ (l.length : Int) ≤ 1099511627776) : laws_eqInt64SS k T T = some true := by
  unfold laws_eqInt64SS
  have := loopAll (f := fun k' i => laws_eqInt64SS_l0 k T T k' i) (T.length : Int) false (fun _ => True) 0
    (fun k' i h0 h1 _ => by
      show laws_eqInt64SS_l0 k T T (k' + 1) i = _
      have hlt : i.toNat < T.length := by omega
      have hm : T.getD i.toNat [] ∈ T := by
        have e : T.getD i.toNat [] = T[i.toNat] := by simp [List.getD, hlt]
        rw [e]; exact List.getElem_mem hlt
      rw [laws_eqInt64SS_l0, w64_succ h0 h1 (by omega), eqInts_refl k _ (hr _ hm).1 (hr _ hm).2]
      simp [h0, h1])
    (fun k' i h0 h1 hq => (hq trivial).elim)
    (fun k' i h1 => by
      show laws_eqInt64SS_l0 k T T (k' + 1) i = _
      rw [laws_eqInt64SS_l0]
      have : ¬ i < (T.length : Int) := by omega
      simp [this]) k 0 (by omega) (by omega)
  rw [this]; simp

/-! ### Marks over rows -/
def fromN (s : Int) (n : Nat) : List Int := (List.range n).map fun i : Nat => s + (i : Int)
theorem fromN_length (s : Int) (n : Nat) : (fromN s n).length = n := by simp [fromN]
theorem fromN_get (s : Int) (n i : Nat) (h : i < n) : (fromN s n).getD i 0 = s + i := by simp [fromN, List.getD, h]

theorem mark_from (k : Nat) (l : List Int) (a : Int) (ha : 0 ≤ a) (hk : l.length + 1 ≤ k) (hl : a + (l.length : Int) ≤ 1099511627776) : laws_markInt64S k l a = some (a + l.length, fromN a l.length) := by
  unfold laws_markInt64S
  have := loopI (f := fun k i (s : Int × List Int) => laws_markInt64S_l0 k s.1 i s.2) (l.length : Int) 0 (fun i s => s.2.length = l.length ∧ s.1 = a + i ∧ i ≤ l.length ∧ ∀ j : Nat, (j : Int) < i → s.2.getD j 0 = a + j)
    (fun r => r = (a + (l.length : Int), fromN a l.length)) ?_ ?_ k 0 (a, l) (by omega) (by omega) ⟨rfl, by omega, by omega, fun j h => by omega⟩
  · obtain ⟨r, e, rfl⟩ := this
    rw [e]; rfl
  · intro k i s h0 h1 ⟨q1, q2, _, q4⟩
    left
    refine ⟨(a + i + 1, s.2.set i.toNat s.1), ?_, by simp [q1], by simp; omega, by omega, ?_⟩
    · show laws_markInt64S_l0 (k + 1) s.1 i s.2 = _
      rw [laws_markInt64S_l0, q1, w64_succ h0 h1 (by omega), q2, w64_id (by omega)]
      simp [h0, h1]
    · intro j hj
      by_cases e : i.toNat = j
      · subst e
        simp only [List.getD, List.getElem?_set_self (show i.toNat < s.2.length by omega), Option.getD_some, q2]
        omega
      · have := q4 j (by omega)
        simp only [List.getD] at this ⊢
        rw [List.getElem?_set_ne e, this]
  · intro k i s h0 h1 ⟨q1, q2, q3, q4⟩
    have hi : i = l.length := by omega
    have e2 : s.2 = fromN a l.length := by
      refine List.ext_getElem (by rw [q1, fromN_length]) fun j hj hj' => ?_
      have h1 := q4 j (by omega)
      have h2 := fromN_get a l.length j (by omega)
      simp only [List.getD, List.getElem?_eq_getElem hj, Option.getD_some] at h1
      simp only [List.getD, List.getElem?_eq_getElem hj', Option.getD_some] at h2
      rw [h1, h2]
    refine ⟨_, ?_, rfl⟩
    show laws_markInt64S_l0 (k + 1) s.1 i s.2 = _
    rw [laws_markInt64S_l0, q1, e2, q2, hi]
    have : ¬ (l.length : Int) < (l.length : Int) := by omega
    simp only [this, decide_false, Bool.false_eq_true, if_false]

theorem held_from (k n : Nat) (a : Int) (ha : 0 ≤ a) (hk : n + 1 ≤ k) (hl : a + (n : Int) ≤ 1099511627776) : laws_heldInt64S k (fromN a n) a = some (a + n) := by
  unfold laws_heldInt64S
  have := loopI (f := fun k i (s : Int) => laws_heldInt64S_l0 (fromN a n) k s i) (n : Int) 0 (fun i s => s = a + i ∧ i ≤ n)
    (fun r => r = .inl (a + (n : Int))) ?_ ?_ k 0 a (by omega) (by omega) ⟨by omega, by omega⟩
  · obtain ⟨r, e, rfl⟩ := this
    rw [e]; rfl
  · intro k i s h0 h1 ⟨q1, _⟩
    left
    refine ⟨a + i + 1, ?_, by omega, by omega⟩
    show laws_heldInt64S_l0 (fromN a n) (k + 1) s i = _
    rw [laws_heldInt64S_l0, fromN_length, w64_succ h0 h1 (by omega), fromN_get a n i.toNat (by omega), q1, w64_id (by omega)]
    have e : a + (i.toNat : Int) = a + i := by omega
    rw [e]
    simp [h0, h1]
  · intro k i s h0 h1 ⟨q1, q2⟩
    have hi : i = n := by omega
    refine ⟨_, ?_, rfl⟩
    show laws_heldInt64S_l0 (fromN a n) (k + 1) s i = _
    rw [laws_heldInt64S_l0, fromN_length, q1, hi]
    have : ¬ (n : Int) < (n : Int) := by omega
    simp only [this, decide_false, Bool.false_eq_true, if_false]

def endR (s : Int) : List (List Int) → Int
  | [] => s
  | l :: t => endR (s + l.length) t
def mkR (s : Int) : List (List Int) → List (List Int)
  | [] => []
  | l :: t => fromN s l.length :: mkR (s + l.length) t
theorem endR_app (s : Int) : ∀ (a b : List (List Int)), endR s (a ++ b) = endR (endR s a) b := fun a b => by
  induction a generalizing s with
  | nil => rfl
  | cons l t ih => exact ih _
theorem mkR_app (s : Int) (a b : List (List Int)) : mkR s (a ++ b) = mkR s a ++ mkR (endR s a) b := by
  induction a generalizing s with
  | nil => rfl
  | cons l t ih => simp [mkR, endR, ih]
theorem mkR_length (s : Int) (a : List (List Int)) : (mkR s a).length = a.length := by
  induction a generalizing s with
  | nil => rfl
  | cons l t ih => simp [mkR, ih]
theorem endR_le (s : Int) (B : Nat) (a : List (List Int)) (h : ∀ l ∈ a, l.length ≤ B) : s ≤ endR s a ∧ endR s a ≤ s + a.length * B := by
  induction a generalizing s with
  | nil => simp [endR]
  | cons l t ih =>
    have h1 := h l (by simp)
    have h2 := ih (s + l.length) fun l' h' => h l' (by simp [h'])
    simp only [endR, List.length_cons]
    have : ((t.length + 1 : Nat) : Int) * B = t.length * B + B := by rw [Int.natCast_add, Int.add_mul]; simp
    omega

theorem markTo_eq (k : Nat) (T : List (List Int)) (s : Int) (hs : 0 ≤ s) (B : Nat) (hB : ∀ l ∈ T, l.length ≤ B) (hk : B + 1 ≤ k) (hb : s + (T.length + 1) * B ≤ 1099511627776) :
    ∀ j : Nat, j ≤ T.length → markTo k T s j = some (mkR s (T.take j) ++ T.drop j, endR s (T.take j))
  | 0, _ => by simp [markTo, mkR, endR]
  | j + 1, h => by
    unfold markTo
    rw [markTo_eq k T s hs B hB hk hb j (by omega), Option.bind_some]
    have hlt : j < T.length := by omega
    have hml : (mkR s (T.take j)).length = j := by rw [mkR_length]; simp; omega
    have hget : (mkR s (T.take j) ++ T.drop j).getD j [] = T[j] := by
      rw [getD_app' _ _ _ _ (by omega), hml]
      simp [List.getD, hlt]
    have hle := endR_le s B (T.take j) fun l hl => hB l (List.mem_of_mem_take hl)
    have hj : ((T.take j).length : Int) * B ≤ T.length * B := Int.mul_le_mul_of_nonneg_right (by simp; omega) (by omega)
    have hl1 := hB T[j] (List.getElem_mem hlt)
    have hbb : ((T.length : Int) + 1) * B = T.length * B + B := by rw [Int.add_mul]; simp
    rw [hget, mark_from k T[j] (endR s (T.take j)) (by omega) (by omega) (by omega), Option.bind_some]
    have ht : T.take (j + 1) = T.take j ++ [T[j]] := by rw [List.take_add_one]; simp [hlt]
    have hd : T.drop j = T[j] :: T.drop (j + 1) := List.drop_eq_getElem_cons hlt
    rw [ht, mkR_app, endR_app, hd]
    simp only [mkR, endR]
    congr 2
    rw [List.set_append_right _ _ (by omega), hml, Nat.sub_self, List.set_cons_zero]
    rw [List.append_assoc]; rfl

theorem heldRows_eq (k : Nat) (T : List (List Int)) (s : Int) (hs : 0 ≤ s) (B : Nat) (hB : ∀ l ∈ T, l.length ≤ B) (hk : B + 1 ≤ k) (hk' : T.length + 1 ≤ k) (hb : s + (T.length + 1) * B ≤ 1099511627776) (hT : (T.length : Int) ≤ 1099511627776) :
    laws_heldInt64SS k (mkR s T) s = some (endR s T) := by
  unfold laws_heldInt64SS
  have := loopI (f := fun k' i (a : Int) => laws_heldInt64SS_l0 k (mkR s T) k' a i) (T.length : Int) 0 (fun i a => i ≤ T.length ∧ a = endR s (T.take i.toNat)) (fun r => r = .inl (endR s T)) ?_ ?_ k 0 s (by omega) (by omega) ⟨by omega, rfl⟩
  · obtain ⟨r, e, rfl⟩ := this
    rw [e]; rfl
  · intro k' i a h0 h1 ⟨_, q⟩
    left
    obtain ⟨j, rfl⟩ := nat_of h0
    have hlt : j < T.length := by omega
    simp only [Int.toNat_natCast] at q
    have e1 : ((j : Int) + 1).toNat = j + 1 := by omega
    have ht : T.take (j + 1) = T.take j ++ [T[j]] := by rw [List.take_add_one]; simp [hlt]
    have hle := endR_le s B (T.take j) fun l hl => hB l (List.mem_of_mem_take hl)
    have hj : ((T.take j).length : Int) * B ≤ T.length * B := Int.mul_le_mul_of_nonneg_right (by simp; omega) (by omega)
    have hl1 := hB T[j] (List.getElem_mem hlt)
    have hbb : ((T.length : Int) + 1) * B = T.length * B + B := by rw [Int.add_mul]; simp
    have hget : (mkR s T).getD j [] = fromN a (T[j]).length := by
      have hd : T = T.take j ++ (T[j] :: T.drop (j + 1)) := by rw [← List.drop_eq_getElem_cons hlt, List.take_append_drop]
      have : mkR s T = mkR s (T.take j) ++ (fromN a (T[j]).length :: mkR (a + (T[j]).length) (T.drop (j + 1))) := by
        conv => lhs; rw [hd]
        rw [mkR_app, ← q]; rfl
      have hml : (mkR s (T.take j)).length = j := by rw [mkR_length]; simp; omega
      rw [this, getD_app' _ _ _ _ (by omega), hml]
      simp
    refine ⟨a + (T[j]).length, ?_, by omega, by rw [e1, ht, endR_app, ← q]; rfl⟩
    show laws_heldInt64SS_l0 k (mkR s T) (k' + 1) a j = _
    rw [laws_heldInt64SS_l0, mkR_length, w64_succ h0 h1 (by omega), Int.toNat_natCast, hget, held_from k _ a (by omega) (by omega) (by omega)]
    have hneg : ¬ (a + ((T[j]).length : Int) < 0) := by omega
    simp [h0, h1, hneg]
  · intro k' i a h0 h1 ⟨q1, q2⟩
    have hi : i = T.length := by omega
    subst hi
    refine ⟨.inl a, ?_, by rw [q2]; simp⟩
    show laws_heldInt64SS_l0 k (mkR s T) (k' + 1) a T.length = _
    rw [laws_heldInt64SS_l0, mkR_length]; simp

theorem comps_row (x : Col) (c : Int) (n : Nat) : ∀ l ∈ comps x c n, l.length ≤ x.p.toNat := by
  classical
  intro l hl
  unfold comps at hl
  obtain ⟨v, _, rfl⟩ := List.mem_map.1 hl
  exact comp_len x c v

/-- The program's components are the reference's. -/
theorem comps_pure (x : Col) (c : Int) : laws_FnExactComponentsOf 300 x c = some true ∨ ∃ (T T' : List (List Int)) (far : List Int) (m : Int), laws_toColouring 300 x = some x ∧ spec_ComponentsOf 300 x c = some (T, 0) ∧ impl_Colouring_colourCode 300 x c true = some 0 ∧
    impl_Colouring_walk 300 x c = some (T, far) ∧ laws_eqInt64SS 300 T T = some true ∧ markTo 300 T 1 T.length = some (T', m) ∧ laws_heldInt64SS 300 T' 1 = some m ∧ 0 ≤ m := by
  classical
  have h0 := toColouring_eq 300 (by omega) x
  have hg := specGiven_eq 300 x c [] (by simp) (by simp)
  have hc := colourCode_eq 300 x c (by omega)
  have hin : inP x [] := fun i h0 h1 => by simp at h1; omega
  by_cases h : x.is ∧ (0 ≤ c ∧ c ≤ x.k - 1)
  · right
    have hp := h.1.1
    obtain ⟨far, hw, _⟩ := walk_eq x hp c 300 (by omega)
    have hl := comps_len x c x.p.toNat
    have hrow := comps_row x c x.p.toNat
    have hrow' : ∀ l ∈ comps x c x.p.toNat, l.length ≤ 17 := fun l hl => by have := hrow l hl; omega
    refine ⟨comps x c x.p.toNat, mkR 1 (comps x c x.p.toNat), far, endR 1 (comps x c x.p.toNat), h0, ?_, ?_, hw, eqRows_refl 300 _ (by omega) (by omega) (fun l hl => ⟨by have := hrow' l hl; omega, by have := hrow' l hl; omega⟩), ?_, ?_, ?_⟩
    · unfold spec_ComponentsOf
      rw [hg, rows_eq 300 x hp (by omega) c, Option.bind_some, Option.bind_some, specComps_l0 x hp c 300 (by omega)]
      simp [h, hin]
    · rw [hc]; simp [h]
    · have := markTo_eq 300 (comps x c x.p.toNat) 1 (by omega) 17 hrow' (by omega) (by omega) (comps x c x.p.toNat).length (Nat.le_refl _)
      rw [this]
      simp
    · exact heldRows_eq 300 _ 1 (by omega) 17 hrow' (by omega) (by omega) (by omega) (by omega)
    · have := endR_le 1 17 (comps x c x.p.toNat) hrow'
      omega
  · left
    have key : ∃ e : Int, e ≠ 0 ∧ spec_l01Given 300 x c [] = some e ∧ impl_Colouring_colourCode 300 x c true = some e := by
      rw [hg, hc]
      by_cases h1 : x.is
      · have h2 : ¬ (0 ≤ c ∧ c ≤ x.k - 1) := fun h2 => h ⟨h1, h2⟩
        exact ⟨2, by decide, by simp [h1, h2], by simp [h1, h2]⟩
      · exact ⟨1, by decide, by simp [h1], by simp [h1]⟩
    obtain ⟨e, he, k1, k2⟩ := key
    unfold laws_FnExactComponentsOf spec_ComponentsOf impl_ComponentsOf
    have m0 : laws_eqInt64SS 300 [] [] = some true := by decide +kernel
    have m1 : laws_markInt64SS 300 [] 1 = some 1 := by decide +kernel
    have m2 : laws_heldInt64SS 300 [] 1 = some 1 := by decide +kernel
    rw [h0]
    simp [k1, k2, he, m0, m1, m2]
end Go.Proofs.Ytmmiokljmfkoiaa
