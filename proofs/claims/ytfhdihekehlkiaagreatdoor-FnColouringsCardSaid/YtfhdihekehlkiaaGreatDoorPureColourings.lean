/- The plain law of FnColourings: edges that are changed are as told, degrees add up, common neighbours are neighbours of both, colourings come back from their texts. No conditions. -/
import Derived.Test.YtfhdihekehlkiaaGreatDoorPureColD31
set_option linter.unusedVariables false
set_option linter.unusedSimpArgs false
namespace Go.Proofs.YtfhdihekehlkiaaGreatDoor
open Go Go.RowKit Ab

theorem common_loop {k : Nat} (hk : 5000 ≤ k) (r39 : Col × Int × Int × Int) (hp : 1 ≤ r39.1.p ∧ r39.1.p ≤ 17) (r40 r48 r49 : Option (List Int) × Int) (l0 : (r40.1.getD []).length ≤ 17) (l1 : (r48.1.getD []).length ≤ 17) (l2 : (r49.1.getD []).length ≤ 17)
    (h : ∀ p : Int, 0 ≤ p → p < r39.1.p → (p ∈ r40.1.getD [] ↔ p ∈ r48.1.getD [] ∧ p ∈ r49.1.getD [])) : laws_FnColourings_l0 k r39 r40 r48 r49 k 0 = some (.inl ()) := by
  have := loopI (f := fun k' i (_ : Unit) => laws_FnColourings_l0 k r39 r40 r48 r49 k' i) r39.1.p 0 (fun i _ => i ≤ r39.1.p) (fun r => r = .inl ()) ?_ ?_ k 0 () (by omega) (by omega) (by omega)
  · obtain ⟨r, e, rfl⟩ := this
    exact e
  · rintro k' i _ h0 h1 _
    left
    refine ⟨(), ?_, by omega⟩
    show laws_FnColourings_l0 k r39 r40 r48 r49 (k' + 1) i = _
    have hi := h i h0 h1
    rw [laws_FnColourings_l0, if_pos (decide_eq_true h1), hasInt_val _ (by omega) i k (by omega), hasInt_val _ (by omega) i k (by omega), hasInt_val _ (by omega) i k (by omega), w64_succ h0 h1 (by omega)]
    by_cases a : i ∈ r48.1.getD []
    · by_cases b : i ∈ r49.1.getD []
      · have c := hi.2 ⟨a, b⟩
        rw [decide_eq_true a, decide_eq_true b, decide_eq_true c]; rfl
      · have c : i ∉ r40.1.getD [] := fun q => b (hi.1 q).2
        rw [decide_eq_true a, decide_eq_false b, decide_eq_false c]; rfl
    · have c : i ∉ r40.1.getD [] := fun q => a (hi.1 q).1
      rw [decide_eq_false a, decide_eq_false c]; rfl
  · rintro k' i _ h0 h1 _
    refine ⟨.inl (), ?_, rfl⟩
    show laws_FnColourings_l0 k r39 r40 r48 r49 (k' + 1) i = _
    rw [laws_FnColourings_l0, if_neg (by simp only [decide_eq_true_eq]; omega)]
theorem like_ok {k : Nat} (hk : 5000 ≤ k) (l : List Int) (hl : l.length ≤ 1000) : laws_likeInts k l l = some true := like_refl k l (by omega) (by omega)
theorem P2_symm {x : Col} {i j : Int} (h : P2 x i j) : P2 x j i := ⟨h.2.1, h.1, fun e => h.2.2 e.symm⟩
theorem cc_PC {x : Col} (hx : x.is) {i j : Int} (h : P2 x i j) : PC x (x.cc i j) := by
  obtain ⟨⟨a1, a2⟩, ⟨b1, b2⟩, hij⟩ := h
  obtain ⟨a, rfl⟩ := nat_of a1
  obtain ⟨b, rfl⟩ := nat_of b1
  have := is_cc hx (a := a) (b := b) (by omega) (by omega) (by omega)
  unfold PC
  omega
/-- What is told of an edge that was changed. -/
structure Told (k : Nat) (x : Col) (i j c : Int) (y : Col) : Prop where
  t1 : impl_ColourOf k y j i = some (c, 0)
  t2 : impl_ColourOf k x i j = some (x.cc i j, 0)
  t3 : impl_ChangeEdge k y i j (x.cc i j) = some (x, 0)
  t4 : impl_DegreesOf k y c = some (some (mapL y.p.toNat fun a => (dgN y c a : Int)), 0)
  t5 : impl_CountEdges k y = some (some (mapL y.k.toNat fun c => (cnt y c : Int)), 0)
  t6 : impl_ColouringText k y = some (bs (TX y), 0)
  t7 : impl_ParseColouring k (bs (TX y)) = some (y, 0)
  t8 : (((mapL y.k.toNat fun c => (cnt y c : Int)).length : Nat) : Int) = x.k
  t9 : laws_sum k (mapL y.p.toNat fun a => (dgN y c a : Int)) = some (2 * (cnt y c : Int))
  t10 : 0 ≤ c ∧ c < (((mapL y.k.toNat fun c => (cnt y c : Int)).length : Nat) : Int)
  t11 : (mapL y.k.toNat fun c => (cnt y c : Int)).getD c.toNat 0 = (cnt y c : Int)
  t12 : w64 (2 * (cnt y c : Int)) = 2 * (cnt y c : Int)
  t13 : laws_sum k (mapL y.k.toNat fun c => (cnt y c : Int)) = some (tri y.p.toNat : Int)
  t14 : w64 (2 * (tri y.p.toNat : Int)) = w64 (x.p * (w64 (x.p - 1)))
theorem told {k : Nat} (hk : 5000 ≤ k) {x : Col} (hx : x.is) {i j c : Int} (h : P2 x i j) (hc : PC x c) : Told k x i j c (chE x i j c) := by
  have hp := hx.1
  have hkk := hx.2.1
  obtain ⟨y, hy⟩ : ∃ y, y = chE x i j c := ⟨_, rfl⟩
  have yi := chE_is hx h hc
  have ycc := chE_cc hx h hc
  have yb := chE_back hx h hc
  rw [← hy] at yi ycc yb ⊢
  have yp : y.p = x.p := by rw [hy]; rfl
  have yk : y.k = x.k := by rw [hy]; rfl
  have h2 : P2 y i j := by unfold P2 P1; rw [yp]; exact h
  have hcy : PC y c := by unfold PC; rw [yk]; exact hc
  obtain ⟨v1, e1, a1, _, a3⟩ := colour_both hk y j i
  obtain ⟨rfl, rfl⟩ := a3 yi (P2_symm h2)
  obtain ⟨v2, e2, b1, _, b3⟩ := colour_both hk x i j
  obtain ⟨rfl, rfl⟩ := b3 hx h
  have hold : PC y (x.cc i j) := by unfold PC; rw [yk]; exact cc_PC hx h
  obtain ⟨z, e3, c1, _, c3, c4⟩ := change_both hk y i j (x.cc i j)
  have e30 := c4 yi h2 hold
  subst e30
  obtain ⟨_, _, _, hz⟩ := c3 rfl
  rw [yb] at hz
  rw [hz] at c1
  obtain ⟨o4, e4, d1, _, _, d4⟩ := deg_both hk y c
  obtain ⟨rfl, rfl⟩ := d4 yi hcy
  obtain ⟨o5, e5, f1, _, _, f4⟩ := count_both hk y
  obtain ⟨rfl, rfl⟩ := f4 yi
  obtain ⟨t6, e6, g1, _, g3⟩ := text_both hk y
  obtain ⟨rfl, rfl⟩ := g3 yi
  have hlen : ((mapL y.k.toNat fun c => (cnt y c : Int)).length : Int) = x.k := by rw [mapL_length]; omega
  have hcn : ((c.toNat : Nat) : Int) = c := by unfold PC at hc; omega
  have hcl : ∀ d : Nat, cnt y d ≤ 136 := fun d => by
    rw [cnt_cntE yi.1]
    have ht := tri_le (n := y.p.toNat) (by omega)
    exact Nat.le_trans List.countP_le_length (by simp; omega)
  have hcl2 : cnt y c ≤ 136 := by rw [← hcn]; exact hcl _
  have hd := deg_sum yi c.toNat
  rw [hcn] at hd
  have ht := tri_le (n := y.p.toNat) (by omega)
  have htw := tri_two (n := y.p.toNat) (by omega)
  rw [show ((y.p.toNat : Nat) : Int) = x.p by omega] at htw
  unfold PC at hc
  refine ⟨by rw [ycc] at a1; exact a1, b1, c1, d1, f1, g1, implA yi k (by omega), hlen, ?_, ⟨hc.1, by omega⟩, ?_, w64_id (by omega), ?_, ?_⟩
  · rw [sum_val _ (fun z hz => ?_) (by rw [mapL_length]; omega) k (by rw [mapL_length]; omega), hd]
    obtain ⟨a, ha, rfl⟩ := mem_getD.1 hz
    rw [mapL_length] at ha
    rw [mapL_get _ _ _ ha]
    have := dgN_le yi.1 c a
    omega
  · rw [mapL_get _ _ _ (by omega), hcn]
  · rw [sum_val _ (fun z hz => ?_) (by rw [mapL_length]; omega) k (by rw [mapL_length]; omega), cnt_sum yi]
    obtain ⟨a, ha, rfl⟩ := mem_getD.1 hz
    rw [mapL_length] at ha
    rw [mapL_get _ _ _ ha]
    have := hcl a
    omega
  · rw [htw, w64_id (n := x.p - 1) (by omega)]
theorem colourings_pure (p0 : List UInt8) : ∃ k, laws_FnColourings k p0 = some true := by
  refine ⟨144115188075870000, ?_⟩
  obtain ⟨k, hkk⟩ : ∃ k, k = 144115188075870000 := ⟨_, rfl⟩
  rw [← hkk]
  have hk : 5000 ≤ k := by omega
  unfold laws_FnColourings laws_big
  by_cases hb : 4096 < (p0.length : Int)
  · rw [if_pos (decide_eq_true hb)]
  · rw [if_neg (by simp only [decide_eq_true_eq]; exact hb)]
    obtain ⟨x, i, j, c, eg⟩ := given2_ok hk p0 (by omega)
    obtain ⟨n, d, l, eo, hl⟩ := ofDraw_ok hk p0 (by omega)
    obtain ⟨m, em⟩ := count_ok hk p0 (by omega)
    obtain ⟨T, et, hT⟩ := parseDraw_ok (k := k) (by omega) p0 (by omega)
    obtain ⟨z, e, h1, h2, h3, _⟩ := change_both hk x i j c
    obtain ⟨b, i1, i2⟩ := is_both hk x
    obtain ⟨oc, ec, c1, c2, c3, c4⟩ := common_both hk x i j c
    obtain ⟨zo, zoe, o1, o2⟩ := of_both hk n d l hl
    obtain ⟨v, ve, q1, q2, _⟩ := colour_both hk x i j
    obtain ⟨on, en, n1, n2, n3, n4⟩ := neigh_both hk x i c
    obtain ⟨on', en', n1', n2', n3', n4'⟩ := neigh_both hk x j c
    obtain ⟨od, ed, d1, d2, d3, _⟩ := deg_both hk x c
    have hTl : T.data.toList.length = T.size := rfl
    obtain ⟨px, pc, r1, r2⟩ := parse_same T.data.toList (by omega) k (by omega)
    rw [← bs_of] at r1 r2
    obtain ⟨om, eom, m1, m2, m3, _⟩ := count_both hk m
    obtain ⟨tm, etm, t1, t2, _⟩ := text_both hk m
    have lc := like_ok hk (oc.getD []) (by omega)
    have ln := like_ok hk (on.getD []) (by omega)
    have ld := like_ok hk (od.getD []) (by omega)
    have lm := like_ok hk (om.getD []) (by omega)
    have hself : ∀ y : Col, y.eqb y = true := eqb_refl'
    have hbb : ∀ y : ByteArray, (y == y) = true := beq_self
    unfold spec_DrawChangeEdge spec_DrawCommonNeighbours spec_DrawColourOf spec_DrawNeighboursOf spec_DrawDegreesOf
    rw [eg]
    simp only [Option.bind_some]
    rw [h1, h2]
    simp only [Option.bind_some]
    rw [i1, i2]
    have hT1 : e = 0 → x.is ∧ P2 x i j ∧ PC x c ∧ z = chE x i j c ∧ Told k x i j c z := fun he => by
      obtain ⟨hx, hp2, hpc, hz⟩ := h3 he
      exact ⟨hx, hp2, hpc, hz, by rw [hz]; exact told hk hx hp2 hpc⟩
    have hL : ec = 0 → on.getD [] = (pts x).filter (aB x c i) ∧ en = 0 ∧ en' = 0 ∧ laws_FnColourings_l0 k (x, i, j, c) (oc, 0) (on, 0) (on', 0) k 0 = some (.inl ()) := fun hec => by
      obtain ⟨hx, hp2, hpc, rfl⟩ := c4 hec
      obtain ⟨rfl, rfl⟩ := n4 hx hp2.1 hpc
      obtain ⟨rfl, rfl⟩ := n4' hx hp2.2.1 hpc
      refine ⟨rfl, rfl, rfl, common_loop hk (x, i, j, c) hx.1 _ _ _ c3 n3 n3' fun p h0 hp => ?_⟩
      simp only [Option.getD_some, List.mem_filter, Bool.and_eq_true]
      constructor
      · rintro ⟨a, b, c⟩; exact ⟨⟨a, b⟩, a, c⟩
      · rintro ⟨⟨a, b⟩, _, c⟩; exact ⟨a, b, c⟩
    by_cases he : e = 0
    · obtain ⟨hx, hp2, hpc, hz, u⟩ := hT1 he
      obtain ⟨u1, u2, u3, u4, u5, u6, u7, u8, u9, ⟨u10, u10'⟩, u11, u12, u13, u14⟩ := u
      have hve := Option.some.inj (q1.symm.trans u2)
      rw [Prod.mk.injEq] at hve
      obtain ⟨rfl, rfl⟩ := hve
      have hck : c < x.k := by omega
      have u11' : ∀ h : c.toNat < (mapL z.k.toNat fun c => (cnt z c : Int)).length, (mapL z.k.toNat fun c => (cnt z c : Int))[c.toNat]'h = (cnt z c : Int) := fun h => by
        have := u11
        simp only [List.getD, List.getElem?_eq_getElem h, Option.getD_some] at this
        exact this
      by_cases hec : ec = 0
      · obtain ⟨_, hen, hen', hloop⟩ := hL hec
        subst hen hen' hec he
        simp [hck, u11', u1, u2, u3, u4, u5, u6, u7, u8, u9, u10, u10', u11, u12, u13, u14, hself, hbb, c1, c2, lc, n1, n1', hloop, eo, o1, o2, q1, q2, n2, ln, d1, d2, ld, et, r1, r2, em, m1, m2, lm, t1, t2, letO]
      · subst he
        simp [hck, u11', u1, u2, u3, u4, u5, u6, u7, u8, u9, u10, u10', u11, u12, u13, u14, hself, hbb, c1, c2, lc, hec, n1, n1', eo, o1, o2, q1, q2, n2, ln, d1, d2, ld, et, r1, r2, em, m1, m2, lm, t1, t2, letO]
    · by_cases hec : ec = 0
      · obtain ⟨_, hen, hen', hloop⟩ := hL hec
        subst hen hen' hec
        simp [he, hself, hbb, c1, c2, lc, n1, n1', hloop, eo, o1, o2, q1, q2, n2, ln, d1, d2, ld, et, r1, r2, em, m1, m2, lm, t1, t2, letO]
      · simp [he, hself, hbb, c1, c2, lc, hec, n1, n1', eo, o1, o2, q1, q2, n2, ln, d1, d2, ld, et, r1, r2, em, m1, m2, lm, t1, t2, letO]
end Go.Proofs.YtfhdihekehlkiaaGreatDoor
