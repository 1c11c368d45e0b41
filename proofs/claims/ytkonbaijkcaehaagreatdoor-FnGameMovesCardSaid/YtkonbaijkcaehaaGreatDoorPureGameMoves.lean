/- The plain law of FnGameMoves: moves lead to positions, safe moves are not lost by a triangle, and positions come back from their texts, for all dice. No conditions beyond those that each lemma states. -/
import Derived.Test.YtkonbaijkcaehaaGreatDoorPureMoves24
set_option linter.unusedVariables false
set_option linter.unusedSimpArgs false
namespace Go.Proofs.YtkonbaijkcaehaaGreatDoor
open Go Go.RowKit Ab

/-! ### Draws -/
theorem start_pos (n : Int) (hn : 1 ≤ n ∧ n ≤ 5) : sh n (List.replicate (tri n.toNat) (-1)) ∧ isPos n (List.replicate (tri n.toNat) (-1)) := by
  have hg : ∀ a : Nat, a < tri n.toNat → (List.replicate (tri n.toNat) (-1 : Int)).getD a 0 = -1 := fun a ha => by simp [List.getD, List.getElem?_replicate, ha]
  have hno : ∀ who, who ≠ -1 → ¬ anyT n (List.replicate (tri n.toNat) (-1)) who := fun who hw ⟨i, j, m, h1, h2, _⟩ => by
    obtain ⟨a, b, c⟩ := prc_all.1 h1
    rw [hg _ (eN_lt a (by omega) (by omega))] at h2
    exact hw h2.symm
  have hm : mov (List.replicate (tri n.toNat) (-1)) = 0 := by
    unfold mov
    rw [List.count_replicate, List.count_replicate]; rfl
  refine ⟨⟨hn, by simp, fun a ha => ?_⟩, ?_⟩
  · rw [hg a (by simpa using ha)]; omega
  · unfold isPos
    rw [hm]
    exact ⟨by omega, hno _ (by omega), .inl (hno _ (by omega))⟩

theorem start_val (k : Nat) (hk : 100 ≤ k) (r1 : Int × Src) (hn : 1 ≤ r1.1 ∧ r1.1 ≤ 5) : spec_l09Draw_l0 r1 k 0 [] = some (List.replicate (tri r1.1.toNat) (-1)) := by
  have h5 := tri5 r1.1 hn
  have hw := tri_w r1.1 hn
  have := loopI (f := fun k' i (s : List Int) => spec_l09Draw_l0 r1 k' i s) (tri r1.1.toNat : Int) 0 (fun i s => i ≤ tri r1.1.toNat ∧ s = List.replicate i.toNat (-1)) (fun s => s = List.replicate (tri r1.1.toNat) (-1)) ?_ ?_ k 0 [] (by omega) (by omega) ⟨by omega, rfl⟩
  · obtain ⟨s, e, rfl⟩ := this
    exact e
  · rintro k' i s h0 h1 ⟨q1, rfl⟩
    left
    refine ⟨List.replicate (i + 1).toNat (-1), ?_, by omega, rfl⟩
    show spec_l09Draw_l0 r1 (k' + 1) i _ = _
    rw [spec_l09Draw_l0, hw, w64_succ h0 h1 (by omega), if_pos (decide_eq_true h1), if_pos (by simp; omega), show (i + 1).toNat = i.toNat + 1 by omega, List.replicate_succ']
  · rintro k' i s h0 h1 ⟨q1, rfl⟩
    refine ⟨List.replicate (tri r1.1.toNat) (-1), ?_, rfl⟩
    show spec_l09Draw_l0 r1 (k' + 1) i _ = _
    rw [spec_l09Draw_l0, hw, if_neg (by simp only [decide_eq_true_eq]; omega), show i.toNat = tri r1.1.toNat by omega]

theorem mvs_get {n : Int} {l : List Int} {i : Nat} (hi : i < (mvs n l).length) : res n l < 0 ∧ ∃ a : Nat, a < l.length ∧ l.getD a 0 < 0 ∧ (mvs n l).getD i 0 = (a : Int) := by
  unfold mvs at hi ⊢
  by_cases h : 0 ≤ res n l
  · rw [if_pos h] at hi; simp at hi
  · rw [if_neg h] at hi ⊢
    have : (fl (fre l) l.length).getD i 0 ∈ fl (fre l) l.length := mem_getD.2 ⟨i, hi, rfl⟩
    obtain ⟨a, h1, h2, h3⟩ := (fl_mem _ _ _).1 this
    exact ⟨by omega, a, h1, of_decide_eq_true h2, h3⟩

theorem draw9_ok {k : Nat} (hk : 5000 ≤ k) (s : Src) (h : okS s) : ∃ n l s', spec_l09Draw k s = some (n, l, s') ∧ okS s' ∧ sh n l ∧ isPos n l := by
  unfold spec_l09Draw
  obtain ⟨n, s1, e1, k1, hn⟩ := pick_ok s [1, 2, 3, 3, 4, 4, 4, 5, 5] h (by simp)
  have hn5 : 1 ≤ n ∧ n ≤ 5 := by simp at hn; omega
  rw [e1, Option.bind_some, start_val k (by omega) (n, s1) hn5, Option.bind_some]
  obtain ⟨v, s2, e2, k2, hv, _⟩ := next_ok s1 8 k1
  obtain ⟨v0, v1⟩ := hv (by omega)
  dsimp only
  rw [e2, Option.bind_some]
  obtain ⟨m, s3, e3, k3, hm⟩ : ∃ m s3, ((if decide (n = 5) then (spec_l01Pick s2 ([3, 4, 5, 6, 7, 9, 2, 10])).bind fun r9 => some (r9.1, r9.2) else some (v, s2)) : Option (Int × Src)) = some (m, s3) ∧ okS s3 ∧ (0 ≤ m ∧ m ≤ 10) := by
    by_cases h5 : n = 5
    · obtain ⟨m, s3, e3, k3, hm⟩ := pick_ok s2 [3, 4, 5, 6, 7, 9, 2, 10] k2 (by simp)
      exact ⟨m, s3, by rw [if_pos (decide_eq_true h5), e3]; rfl, k3, by simp at hm; omega⟩
    · exact ⟨v, s2, by rw [if_neg (by simpa using h5)], k2, by omega⟩
  dsimp only
  rw [e3, Option.bind_some]
  obtain ⟨hs0, hp0⟩ := start_pos n hn5
  have := loopI (f := fun k' i (s : Src × List Int) => spec_l09Draw_l1 k (n, s1) (m, s3) k' i s.1 s.2) m 0 (fun i s => okS s.1 ∧ sh n s.2 ∧ isPos n s.2) (fun s => okS s.1 ∧ sh n s.2 ∧ isPos n s.2) ?_ ?_ k 0 (s3, List.replicate (tri n.toNat) (-1)) (by omega) (by omega) ⟨k3, hs0, hp0⟩
  · obtain ⟨⟨s', l⟩, e, h1, h2, h3⟩ := this
    refine ⟨n, l, s', ?_, h1, h2, h3⟩
    rw [e]; rfl
  · rintro k' i ⟨t, l⟩ h0 h1 ⟨q1, q2, q3⟩
    have h10 := sh10 q2
    by_cases hz : (mvs n l).length = 0
    · right
      refine ⟨(t, l), ?_, q1, q2, q3⟩
      show spec_l09Draw_l1 k (n, s1) (m, s3) (k' + 1) i t l = _
      rw [spec_l09Draw_l1, if_pos (decide_eq_true h1)]
      dsimp only
      rw [specMoves_val q2 k (by omega), Option.bind_some, if_pos (decide_eq_true (show ((mvs n l).length : Int) = 0 by omega))]
    · left
      obtain ⟨j, t2, e4, k4, hj, _⟩ := next_ok t (mvs n l).length q1
      obtain ⟨j0, j1⟩ := hj (by omega)
      obtain ⟨hr, a, ha, hf, ea⟩ := mvs_get (show j.toNat < (mvs n l).length by omega)
      obtain ⟨p1, p2, _⟩ := move_pos q2 q3 hr ha hf
      refine ⟨(t2, l.set a (mov l)), ?_, k4, p1, p2⟩
      show spec_l09Draw_l1 k (n, s1) (m, s3) (k' + 1) i t l = _
      rw [spec_l09Draw_l1, if_pos (decide_eq_true h1)]
      dsimp only
      rw [specMoves_val q2 k (by omega), Option.bind_some, if_neg (by simp only [decide_eq_true_eq]; intro h; exact hz (by have h : ((mvs n l).length : Int) = 0 := h; omega)), e4, Option.bind_some, if_pos ⟨j0, j1⟩]
      dsimp only
      rw [ea, (moved_val n l a ha h10 k (by omega)).2, Option.bind_some, w64_succ h0 h1 (by omega)]
  · rintro k' i ⟨t, l⟩ h0 h1 ⟨q1, q2, q3⟩
    refine ⟨(t, l), ?_, q1, q2, q3⟩
    show spec_l09Draw_l1 k (n, s1) (m, s3) (k' + 1) i t l = _
    rw [spec_l09Draw_l1, if_neg (by simp only [decide_eq_true_eq]; omega)]

theorem bad9_ok {k : Nat} (hk : 5000 ≤ k) (s : Src) (n : Int) (l : List Int) (h : okS s) (hl : l.length ≤ 10) : ∃ n' l' s', spec_l09Bad k s n l = some (n', l', s') ∧ okS s' ∧ l'.length ≤ 11 := by
  unfold spec_l09Bad spec_l01Own
  rw [if_pos (by simp; omega), Option.bind_some]
  obtain ⟨v, s1, e1, k1, _, _⟩ := next_ok s 24 h
  rw [e1, Option.bind_some]
  dsimp only
  rw [List.nil_append]
  by_cases c0 : v = 0
  · obtain ⟨m, s2, e2, k2, _⟩ := pick_ok s1 [0, 6, -1, w64 (n + 1), 1099511627776] k1 (by simp)
    exact ⟨m, l, s2, by rw [if_pos (decide_eq_true c0), e2]; rfl, k2, by omega⟩
  rw [if_neg (by simpa using c0)]
  by_cases c1 : v = 1
  · exact ⟨n, l ++ [-1], s1, by rw [if_pos (decide_eq_true c1), if_pos (by simp; omega)]; rfl, k1, by simp; omega⟩
  rw [if_neg (by simpa using c1)]
  by_cases c2 : v = 2
  · rw [if_pos (decide_eq_true c2)]
    by_cases hz : 0 < (l.length : Int)
    · obtain ⟨a, s2, e2, k2, ha, _⟩ := next_ok s1 l.length k1
      obtain ⟨a0, a1⟩ := ha (by omega)
      obtain ⟨m, s3, e3, k3, _⟩ := pick_ok s2 [-1, 0, 1, 2, -2] k2 (by simp)
      refine ⟨n, l.set a.toNat m, s3, ?_, k3, by simp; omega⟩
      rw [if_pos (decide_eq_true hz), e2, Option.bind_some]
      dsimp only
      rw [e3, Option.bind_some, if_pos ⟨a0, a1⟩]; rfl
    · exact ⟨n, l, s1, by rw [if_neg (by simpa using hz)]; rfl, k1, by omega⟩
  rw [if_neg (by simpa using c2)]
  by_cases c3 : v = 3
  · rw [if_pos (decide_eq_true c3)]
    have := loopI (f := fun k' i (s : Src × List Int) => spec_l09Bad_l0 n k' i s.1 s.2) (l.length : Int) 0 (fun i s => okS s.1 ∧ s.2.length = l.length) (fun x => okS x.2.1 ∧ x.2.2.length = l.length) ?_ ?_ k 0 (s1, l) (by omega) (by omega) ⟨k1, rfl⟩
    · obtain ⟨⟨m, s', l'⟩, e, h1, h2⟩ := this
      exact ⟨m, l', s', by rw [e]; rfl, h1, by dsimp only at h2; omega⟩
    · rintro k' i ⟨t, y⟩ h0 h1 ⟨q1, q2⟩
      left
      obtain ⟨a, t2, e2, k2, _, _⟩ := next_ok t 2 q1
      dsimp only at q2
      refine ⟨(t2, y.set i.toNat a), ?_, k2, by simp [q2]⟩
      show spec_l09Bad_l0 n (k' + 1) i t y = _
      rw [spec_l09Bad_l0, if_pos (decide_eq_true (by omega)), e2, Option.bind_some, if_pos ⟨h0, by omega⟩, w64_succ h0 h1 (by omega)]
    · rintro k' i ⟨t, y⟩ h0 h1 ⟨q1, q2⟩
      dsimp only at q2
      refine ⟨(n, t, y), ?_, q1, q2⟩
      show spec_l09Bad_l0 n (k' + 1) i t y = _
      rw [spec_l09Bad_l0, if_neg (by simp only [decide_eq_true_eq]; omega)]
  · rw [if_neg (by simpa using c3)]
    exact ⟨n, l, s1, rfl, k1, by omega⟩

theorem drawSafe_ok {k : Nat} (hk : 5000 ≤ k) (c : List UInt8) (hc : c.length ≤ 4096) : ∃ n l, spec_DrawSafeMoves k c = some (n, l) ∧ l.length ≤ 11 := by
  unfold spec_DrawSafeMoves spec_l09With
  obtain ⟨s, e1, k1⟩ := from_ok hk c hc
  obtain ⟨n, l, s2, e2, k2, hs, _⟩ := draw9_ok hk s k1
  obtain ⟨n', l', s3, e3, _, hl⟩ := bad9_ok hk s2 n l k2 (sh10 hs)
  refine ⟨n', l', ?_, hl⟩
  rw [e1, Option.bind_some, e2, Option.bind_some, e3]; rfl

theorem drawMake_ok {k : Nat} (hk : 5000 ≤ k) (c : List UInt8) (hc : c.length ≤ 4096) : ∃ n l e, spec_DrawMakeMove k c = some (n, l, e) ∧ l.length ≤ 11 := by
  unfold spec_DrawMakeMove
  obtain ⟨s, e1, k1⟩ := from_ok hk c hc
  obtain ⟨n, l, s2, e2, k2, hs, _⟩ := draw9_ok hk s k1
  have h10 := sh10 hs
  obtain ⟨v, s3, e3, k3⟩ := near_ok s2 (if w64 ((l.length : Int) - 1) < 0 then 0 else w64 ((l.length : Int) - 1)) k2
  rw [e1, Option.bind_some, e2, Option.bind_some]
  dsimp only
  rw [e3, Option.bind_some, free_val l k (by omega) (by omega), Option.bind_some]
  have hR := fl_length (fre l) l.length
  generalize fl (fre l) l.length = R at *
  obtain ⟨b, s4, e4, k4, hb⟩ : ∃ b s4, ((if decide (0 < (R.length : Int)) then (spec_l01Next s3 2).bind fun r6 => some (decide (r6.1 = 0), r6.2) else some (false, s3)) : Option (Bool × Src)) = some (b, s4) ∧ okS s4 ∧ (b = true → 0 < R.length) := by
    by_cases h : 0 < (R.length : Int)
    · obtain ⟨a, s4, e4, k4, _, _⟩ := next_ok s3 2 k3
      exact ⟨_, s4, by rw [if_pos (decide_eq_true h), e4]; rfl, k4, fun _ => by omega⟩
    · exact ⟨false, s3, by rw [if_neg (by simpa using h)], k3, fun h => by cases h⟩
  dsimp only
  rw [e4, Option.bind_some]
  obtain ⟨e, s5, e5, k5⟩ : ∃ e s5, ((if b then (spec_l01Next s4 (R.length : Int)).bind fun r9 => (if 0 ≤ r9.1 ∧ r9.1 < (R.length : Int) then some ((R.getD r9.1.toNat 0), r9.2) else none) else some (v, s4)) : Option (Int × Src)) = some (e, s5) ∧ okS s5 := by
    cases hbb : b with
    | true =>
      have := hb hbb
      obtain ⟨a, s5, e5, k5, ha, _⟩ := next_ok s4 R.length k4
      obtain ⟨a0, a1⟩ := ha (by omega)
      exact ⟨_, s5, by rw [if_pos rfl, e5, Option.bind_some, if_pos ⟨a0, a1⟩], k5⟩
    | false => exact ⟨v, s4, by rw [if_neg (by simp)], k4⟩
  dsimp only
  rw [e5, Option.bind_some]
  obtain ⟨n', l', s6, e6, _, hl⟩ := bad9_ok hk s5 n l k5 h10
  refine ⟨n', l', e, ?_, hl⟩
  dsimp only
  rw [e6]; rfl

theorem text9_val {n : Int} {l : List Int} (hs : sh n l) (k : Nat) (hk : 300 ≤ k) : ∃ t, spec_l09Text k n l = some t ∧ t.size ≤ 100 := by
  have h10 := sh10 hs
  obtain ⟨d1, d2⟩ := dec_small n hs.1 k (by omega)
  have hsz : ((⟨[toByte (48 + n)].toArray⟩ : ByteArray) ++ (⟨#[58]⟩ : ByteArray)).size = 2 := by rw [ByteArray.size_append]; rfl
  refine ⟨((⟨[toByte (48 + n)].toArray⟩ : ByteArray) ++ (⟨#[58]⟩ : ByteArray)) ++ ⟨(l.map sgn).toArray⟩, ?_, ?_⟩
  · unfold spec_l09Text
    rw [d1, Option.bind_some, if_pos (by rw [tx_size]; show (1 : Nat) + 1 ≤ 1099511627776; omega), text_eq k _ l h10 hs.2.2 (by omega) (by rw [hsz]; omega)]
    rfl
  · rw [ByteArray.size_append, hsz, tx_size, List.length_map]; omega

theorem drawParse_ok {k : Nat} (hk : 144115188075860000 ≤ k) (c : List UInt8) (hc : c.length ≤ 4096) : ∃ t, spec_DrawParsePosition k c = some t ∧ t.size ≤ 4294967296 := by
  unfold spec_DrawParsePosition
  obtain ⟨s, e1, k1⟩ := from_ok (k := k) (by omega) c hc
  obtain ⟨n, l, s2, e2, k2, hs, _⟩ := draw9_ok (k := k) (by omega) s k1
  obtain ⟨t, e3, ht⟩ := text9_val hs k (by omega)
  rw [e1, Option.bind_some, e2, Option.bind_some]
  dsimp only
  rw [e3, Option.bind_some]
  obtain ⟨t', e4, ht'⟩ := dam_end (L := spec_DrawParsePosition_l0) (fun k t s => by rw [spec_DrawParsePosition_l0]) k hk t s2 k2 ht
  exact ⟨t', by rw [e4]; rfl, ht'⟩

/-! ### The law -/
theorem hasInt_val (l : List Int) (v : Int) (k : Nat) (hk : l.length + 1 ≤ k) (hl : l.length ≤ 1000) : laws_hasInt k l v = some (decide (v ∈ l)) := by
  unfold laws_hasInt
  rw [loopAll (f := fun k' i => laws_hasInt_l0 l v k' i) (l.length : Int) true (fun i => l.getD i.toNat 0 ≠ v) 0 ?_ ?_ ?_ k 0 (by omega) (by omega), Option.bind_some]
  · by_cases h : v ∈ l
    · rw [if_neg, decide_eq_true h]
      intro h2
      obtain ⟨a, h3, h4⟩ := mem_getD.1 h
      exact h2 a (by omega) (by omega) (by rw [Int.toNat_natCast]; exact h4)
    · rw [if_pos, decide_eq_false h]
      intro j h0 h1 h2
      exact h (mem_getD.2 ⟨j.toNat, by omega, h2⟩)
  all_goals intro k' i h0
  · intro h1 hq
    show laws_hasInt_l0 l v (k' + 1) i = _
    rw [laws_hasInt_l0, if_pos (decide_eq_true h1), if_pos ⟨h0, h1⟩, if_neg (by simpa using hq), w64_succ h0 h1 (by omega)]
  · intro h1 hq
    show laws_hasInt_l0 l v (k' + 1) i = _
    rw [laws_hasInt_l0, if_pos (decide_eq_true h1), if_pos ⟨h0, h1⟩, if_pos (decide_eq_true (Classical.not_not.1 hq))]
  · show laws_hasInt_l0 l v (k' + 1) i = _
    rw [laws_hasInt_l0, if_neg (by simp only [decide_eq_true_eq]; omega)]

open Classical in
theorem move_one {n : Int} {l : List Int} (hs : sh n l) (hp : isPos n l) (k : Nat) (hk : 500 ≤ k) {i : Nat} (hi : i < (mvs n l).length) :
    ∃ r v, impl_MakeMove k n l ((mvs n l).getD i 0) = some (r, 0) ∧ impl_ResultOf k n r = some (v, 0) ∧ impl_IsPosition k n r = some true ∧ laws_hasInt k (sfe n l) ((mvs n l).getD i 0) = some (!decide (v = w64 (1 - mov l))) := by
  have h10 := sh10 hs
  have hm := hp.range
  obtain ⟨hr, a, ha, hf, ea⟩ := mvs_get hi
  obtain ⟨p1, p2, p3⟩ := move_pos hs hp hr ha hf
  obtain ⟨r, c, m1, _, hrl, m2⟩ := make_val n l (a : Int) (by omega) k (by omega)
  obtain ⟨rfl, er⟩ := m2 hs hp hr ⟨by omega, by omega⟩ (by rw [Int.toNat_natCast]; exact hf)
  rw [Int.toNat_natCast] at er
  subst er
  have hl2 : (l.set a (mov l)).length ≤ 100 := hrl
  obtain ⟨v, v1, _, v2⟩ := resultOf_val n (l.set a (mov l)) hl2 k (by omega)
  rw [cod_pos p1 p2] at v1 v2
  obtain ⟨b, b1, _, b2⟩ := isPos_val n (l.set a (mov l)) k (by omega) hl2
  rw [b2 p1 p2] at b1
  refine ⟨_, v, by rw [ea]; exact m1, v1, b1, ?_⟩
  rw [ea, hasInt_val _ _ k (by have := sfe_length n l; omega) (by have := sfe_length n l; omega), v2 rfl, w64_id (by omega)]
  congr 1
  have hmem : (a : Int) ∈ sfe n l ↔ ¬ anyT n (l.set a (mov l)) (mov l) := by
    unfold sfe
    rw [if_neg (by omega), fl_mem]
    constructor
    · rintro ⟨b, h1, h2, h3⟩
      obtain rfl : a = b := by omega
      rw [Bool.and_eq_true] at h2
      exact of_decide_eq_true h2.2
    · intro h
      exact ⟨a, ha, by rw [Bool.and_eq_true]; exact ⟨decide_eq_true hf, decide_eq_true h⟩, rfl⟩
  by_cases h : anyT n (l.set a (mov l)) (mov l)
  · rw [decide_eq_false (fun h2 => hmem.1 h2 h), decide_eq_true (p3.2 h)]; rfl
  · rw [decide_eq_true (hmem.2 h), decide_eq_false (fun h2 => h (p3.1 h2))]; rfl

theorem moves_loop1 {n : Int} {l : List Int} (hs : sh n l) (hp : isPos n l) (k : Nat) (hk : 500 ≤ k) : laws_FnGameMoves_l1 k (n, l) (some (sfe n l), 0) (some (mvs n l), 0) (mov l, 0) k 0 = some (.inl ()) := by
  have hlen := mvs_length n l
  have h10 := sh10 hs
  have := loopAll (f := fun k' i => laws_FnGameMoves_l1 k (n, l) (some (sfe n l), 0) (some (mvs n l), 0) (mov l, 0) k' i) ((mvs n l).length : Int) true (fun _ => True) 0 ?_ ?_ ?_ k 0 (by omega) (by omega)
  · rw [if_pos (fun _ _ _ => trivial)] at this
    exact this
  all_goals intro k' i h0
  · intro h1 _
    show laws_FnGameMoves_l1 k (n, l) (some (sfe n l), 0) (some (mvs n l), 0) (mov l, 0) (k' + 1) i = _
    obtain ⟨r, v, e1, e2, e3, e4⟩ := move_one hs hp k hk (show i.toNat < (mvs n l).length by omega)
    rw [laws_FnGameMoves_l1]
    simp only [Option.getD_some]
    rw [if_pos (decide_eq_true h1), if_pos ⟨h0, h1⟩, e1, Option.bind_some, e2, Option.bind_some, if_neg (by simp), if_neg (by simp), e3, Option.bind_some, if_neg (by simp), if_pos ⟨h0, h1⟩, e4, w64_succ h0 h1 (by omega)]
    simp
  · intro h1 hq; exact absurd trivial hq
  · show laws_FnGameMoves_l1 k (n, l) (some (sfe n l), 0) (some (mvs n l), 0) (mov l, 0) (k' + 1) i = _
    rw [laws_FnGameMoves_l1]
    simp only [Option.getD_some]
    rw [if_neg (by simp only [decide_eq_true_eq]; omega)]

/-- There are moves where the game isn't over, and only there. -/
theorem mvs_some {n : Int} {l : List Int} (hs : sh n l) (hm : 0 ≤ mov l ∧ mov l ≤ 1) : decide (0 < ((mvs n l).length : Int)) = decide (res n l = -1) := by
  apply decide_eq_decide.2
  unfold mvs
  by_cases h : 0 ≤ res n l
  · rw [if_pos h]; simp; omega
  · rw [if_neg h]
    have h1 : res n l = -1 ∧ l.count (-1) ≠ 0 := by
      unfold res at h ⊢
      by_cases h2 : anyT n l (1 - mov l)
      · rw [if_pos h2] at h; omega
      · rw [if_neg h2] at h ⊢
        by_cases h3 : l.count (-1) = 0
        · rw [if_pos h3] at h; omega
        · exact ⟨by rw [if_neg h3], h3⟩
    have h2 := fun h => h1.2 ((count_free hs).2 h)
    have h3 := List.length_pos_iff.2 h2
    constructor
    · intro _; exact h1.1
    · intro _; omega

theorem bb_refl (b : ByteArray) : (b == b) = true := by rcases b with ⟨a⟩; show (a == a) = true; simp

theorem gameMoves_pure (c : List UInt8) : ∃ k, laws_FnGameMoves k c = some true := by
  obtain ⟨k, hk⟩ : ∃ k : Nat, k = 144115188075860000 := ⟨_, rfl⟩
  refine ⟨k, ?_⟩
  unfold laws_FnGameMoves laws_big
  by_cases hb : (4096 : Int) < (c.length : Int)
  · rw [if_pos (decide_eq_true hb)]
  rw [if_neg (by simpa using hb)]
  have hc : c.length ≤ 4096 := by omega
  obtain ⟨n, l, e0, hl⟩ := drawSafe_ok (k := k) (by omega) c hc
  obtain ⟨o1, a1, b1, z1, len1⟩ := safe_val n l (by omega) k (by omega)
  obtain ⟨o2, a2, b2, z2, len2⟩ := moves_val n l (by omega) k (by omega)
  obtain ⟨v3, a3, b3, z3⟩ := resultOf_val n l (by omega) k (by omega)
  obtain ⟨v4, a4, b4, z4⟩ := moverOf_val n l (by omega) k (by omega)
  obtain ⟨t, a5, b5, z5⟩ := text_same n l k (by omega) (by omega)
  obtain ⟨q, a6, b6, _⟩ := isPos_val n l k (by omega) (by omega)
  rw [e0, Option.bind_some]
  dsimp only
  rw [a1, Option.bind_some, b1, Option.bind_some, a2, Option.bind_some, b2, Option.bind_some, a3, Option.bind_some, b3, Option.bind_some, a4, Option.bind_some, b4, Option.bind_some, b5, Option.bind_some, a5, Option.bind_some]
  dsimp only
  rw [like_refl k (o1.getD []) (by omega) (by omega), like_refl k (o2.getD []) (by omega) (by omega), a6, b6]
  simp only [decide_true, Bool.not_true, Bool.false_eq_true, if_false, Option.bind_some, bb_refl, beq_self_eq_true]
  -- the middle part
  generalize hM : (if decide (cod n l = 0) = true then _ else _ : Option (Sum Unit Bool)) = M
  have hMM : M = some (.inl ()) := by
    rw [← hM]
    by_cases h0 : cod n l = 0
    · obtain ⟨hs, hp⟩ := cod_zero h0
      rw [if_pos (decide_eq_true h0)]
      have ht : t = _ := z5 hs hp
      rw [ht]
      dsimp only
      rw [parse_pos hs hp k (by omega), Option.bind_some]
      have ho1 := z1 h0
      have ho2 := z2 h0
      have hv3 := z3 h0
      have hv4 := z4 h0
      subst ho1 ho2 hv3 hv4
      dsimp only
      rw [like_refl k l (by omega) (by omega)]
      simp only [decide_true, Bool.not_true, Bool.false_eq_true, if_false, Option.bind_some, Option.getD_some]
      rw [mvs_some hs hp.range, beq_self_eq_true]
      simp only [Bool.not_true, Bool.false_eq_true, if_false, Option.bind_some, h0]
      exact moves_loop1 hs hp k (by omega)
    · rw [if_neg (by simpa using h0)]
  rw [hMM]
  simp only [Option.bind_some]
  obtain ⟨n2, l2, e2, f0, hl2⟩ := drawMake_ok (k := k) (by omega) c hc
  obtain ⟨r, cd, g1, g2, glen, _⟩ := make_val n2 l2 e2 (by omega) k (by omega)
  obtain ⟨T, f1, hT⟩ := drawParse_ok (k := k) (by omega) c hc
  have hTl : T.data.toList.length = T.size := rfl
  obtain ⟨m, o, ec, p1, p2, p3⟩ := parse_same T.data.toList (by omega) k (by omega)
  rw [← bs_of T] at p1 p2
  rw [f0, Option.bind_some]
  dsimp only
  rw [g1, Option.bind_some, g2, Option.bind_some, f1, Option.bind_some, p2, Option.bind_some]
  cases o with
  | none =>
    dsimp only
    rw [p1, Option.bind_some, like_refl k r (by omega) (by omega)]
    simp only [Option.getD_none, decide_true, if_true, Option.bind_some]
    rw [like_refl k [] (by show 0 + 1 ≤ k; omega) (by decide)]; rfl
  | some y =>
    simp only [Option.getD_some] at p1 p3
    dsimp only
    rw [p1, Option.bind_some, like_refl k r (by omega) (by omega)]
    simp only [decide_true, if_true, Option.bind_some]
    rw [like_refl k y (by omega) (by omega)]; rfl
end Go.Proofs.YtkonbaijkcaehaaGreatDoor
