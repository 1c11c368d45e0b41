/- Plain laws: extensions in order, by both sides. No conditions beyond those that each lemma states. -/
import Derived.Test.YtjcgphgipleccaaGreatPureExtA26
set_option linter.unusedVariables false
set_option linter.unusedSimpArgs false
namespace Go.Proofs.YtjcgphgipleccaaGreat
open Go Go.RowKit Ab

/-- Those of the points of l that go with the next one in a colour. -/
def nearL (x : Col) (l : List Int) (c : Nat) : List Int := (ir 0 l.length).filter fun p => decide (l.getD p.toNat 0 = (c : Int)) && aB x c p l.length
def okX (x : Col) (sizes l : List Int) (c : Nat) : Bool := decide (cl (aB x c) (sizes.getD c 0 - 2).toNat (nearL x l c) = [])

theorem ir_split {n N : Nat} (h : n ≤ N) : ir 0 N = ir 0 n ++ ir n N := by
  unfold ir
  rw [← List.map_append]
  congr 1
  have := @List.range'_append_1 0 n (N - n)
  rw [Nat.zero_add] at this
  rw [Nat.sub_zero, Nat.sub_zero, this, show n + (N - n) = N by omega]
theorem nearL_inR {x : Col} {l : List Int} {c : Nat} (hl : l.length ≤ 17) : inR (nearL x l c) ∧ (nearL x l c).length ≤ 17 := by
  constructor
  · intro z hz
    have := mem_ir.1 (List.mem_filter.1 hz).1
    omega
  · have := List.length_filter_le (fun p : Int => decide (l.getD p.toNat 0 = (c : Int)) && aB x c p l.length) (ir 0 l.length)
    rw [ir_length] at this
    unfold nearL
    omega

def szOK (x : Col) (sizes : List Int) : Prop := (sizes.length : Int) = x.k ∧ ∀ z ∈ sizes, 1 ≤ z ∧ z ≤ 17
theorem sz_get {x : Col} {sizes : List Int} (h : szOK x sizes) {c : Nat} (hc : (c : Int) < x.k) : 1 ≤ sizes.getD c 0 ∧ sizes.getD c 0 ≤ 17 ∧ c < sizes.length := by
  have := h.1
  have hl : c < sizes.length := by omega
  have := h.2 _ (mem_getD.2 ⟨c, hl, rfl⟩)
  omega

theorem has_okX {x : Col} {sizes : List Int} (h : szOK x sizes) {c : Nat} (hc : (c : Int) < x.k) (l : List Int) (hl : l.length ≤ 17) (k : Nat) (hk : 100 ≤ k) :
    impl_Colouring_hasClique k x c (w64 (sizes.getD c 0 - 2)) (nearL x l c) = some (!okX x sizes l c) := by
  obtain ⟨h1, h2, h3⟩ := sz_get h hc
  obtain ⟨n1, n2⟩ := nearL_inR (x := x) (c := c) hl
  rw [w64_id (by omega)]
  unfold okX
  by_cases h0 : sizes.getD c 0 - 2 ≤ 0
  · rw [hasClique_neg x c _ _ k (by omega) h0, show (sizes.getD c 0 - 2).toNat = 0 by omega, cl_zero]
    simp
  · obtain ⟨m, hm⟩ : ∃ m : Nat, sizes.getD c 0 - 2 = m := ⟨(sizes.getD c 0 - 2).toNat, by omega⟩
    rw [hm, Int.toNat_natCast, hasClique_val x c m _ n1 n2 k (by omega)]
    by_cases e : cl (aB x c) m (nearL x l c) = [] <;> simp [e]

/-! ### A walk that stops -/
def runT {α σ : Type} (cb : α → σ → Bool × σ) : List α → σ → Bool × σ
  | [], s => (true, s)
  | a :: t, s => if (cb a s).1 then runT cb t (cb a s).2 else (false, (cb a s).2)
theorem runT_app {α σ : Type} (cb : α → σ → Bool × σ) (B : List α) : ∀ (A : List α) (s : σ), runT cb (A ++ B) s = if (runT cb A s).1 then runT cb B (runT cb A s).2 else (false, (runT cb A s).2)
  | [], s => by simp [runT]
  | a :: t, s => by
    rw [List.cons_append, runT, runT]
    by_cases h : (cb a s).1 = true
    · rw [if_pos h, if_pos h, runT_app cb B t]
    · rw [if_neg h, if_neg h]; simp
theorem runT_nil {α σ : Type} (cb : α → σ → Bool × σ) (s : σ) : runT cb [] s = (true, s) := rfl
theorem runT_one {α σ : Type} (cb : α → σ → Bool × σ) (a : α) (s : σ) : runT cb [a] s = cb a s := by
  rw [runT]
  cases h : (cb a s).1 with
  | true => rw [if_pos rfl, runT_nil, ← h]
  | false => rw [if_neg (by simp), ← h]

theorem spl_one (cs : List Int) (n : Nat) (c : Int) (h : n < cs.length) : (splicedL cs (0 + n) ([c].length) [c]).length = cs.length ∧ (splicedL cs (0 + n) ([c].length) [c]).take (n + 1) = cs.take n ++ [c] := by
  constructor
  · rw [splicedL_length _ _ _ _ (by simp; omega)]
  · unfold splicedL
    rw [Nat.zero_add]
    rw [List.take_append_of_le_length (by simp; omega), List.take_of_length_le (by simp; omega)]
    simp

/-! ### The walk for ExtensionsByDegree_c1 -/
theorem near_ExtensionsByDegree_c1 (x : Col) (hp : 1 ≤ x.p ∧ x.p ≤ 17) (cs0 cs : List Int) (n c : Nat) (h0' : n ≤ cs0.length) (h1' : n ≤ cs.length) (hn : n ≤ 16) (k : Nat) (hk : 20 ≤ k) :
    impl_Colouring_extensions_on_ExtensionsByDegree_c1_l1 x cs0 n c cs k 0 [] = some (nearL x (cs.take n) c) := by
  have hsz : impl_size ((cs0.drop 0).take n) = (n : Int) := by unfold impl_size; simp; omega
  have hlen : (cs.take n).length = n := by simp; omega
  have := loopI (f := fun k' j (s : List Int) => impl_Colouring_extensions_on_ExtensionsByDegree_c1_l1 x cs0 n c cs k' j s) (n : Int) 0
    (fun j s => j ≤ n ∧ s = (ir 0 j.toNat).filter fun p => decide ((cs.take n).getD p.toNat 0 = (c : Int)) && aB x c p n) (fun s => s = nearL x (cs.take n) c) ?_ ?_ k 0 [] (by omega) (by omega) ⟨by omega, rfl⟩
  · obtain ⟨s, e, rfl⟩ := this
    exact e
  · rintro k' j s h0 h1 ⟨q1, rfl⟩
    left
    refine ⟨_, ?_, by omega, rfl⟩
    show impl_Colouring_extensions_on_ExtensionsByDegree_c1_l1 x cs0 n c cs (k' + 1) j _ = _
    obtain ⟨i, rfl⟩ : ∃ i : Nat, j = i := ⟨j.toNat, by omega⟩
    have hi : i < n := by omega
    rw [impl_Colouring_extensions_on_ExtensionsByDegree_c1_l1, hsz, if_pos (decide_eq_true h1), if_pos ⟨h0, h1, by omega⟩, w64_succ h0 h1 (by omega), joins_val x _ _ _ (by omega) (by omega), Int.toNat_natCast, show ((i : Int) + 1).toNat = i + 1 by omega]
    have hg : cs.getD (0 + i) 0 = (cs.take n).getD i 0 := by simp [List.getD, List.getElem?_take, hi]
    have hsp : ir 0 (i + 1) = ir 0 i ++ [(i : Int)] := by
      rw [ir_split (show i ≤ i + 1 by omega)]
      congr 1
      rw [ir_next (show i < i + 1 by omega), ir_end (Nat.le_refl _)]
    rw [hg, hsp, List.filter_append]
    have hll : ((ir 0 i).filter fun p => decide ((cs.take n).getD p.toNat 0 = (c : Int)) && aB x c p n).length ≤ 17 := Nat.le_trans (List.length_filter_le _ _) (by rw [ir_length]; omega)
    have key : ∀ b : Bool, (decide ((cs.take n).getD i 0 = (c : Int)) && aB x c i n) = b → [(i : Int)].filter (fun p => decide ((cs.take n).getD p.toNat 0 = (c : Int)) && aB x c p n) = if b then [(i : Int)] else [] := fun b hb => by
      rw [List.filter_cons, Int.toNat_natCast, hb]
      cases b <;> rfl
    by_cases ha : (cs.take n).getD i 0 = (c : Int)
    · rw [if_pos (decide_eq_true ha)]
      cases hb : aB x c i n with
      | true =>
        rw [key true (by rw [decide_eq_true ha, hb]; rfl), if_pos rfl, Option.bind_some, Option.bind_some, if_pos rfl, if_pos (by simp only [List.length_singleton]; omega)]; rfl
      | false =>
        rw [key false (by rw [decide_eq_true ha, hb]; rfl), Option.bind_some, Option.bind_some, if_neg (by simp)]
        simp
    · rw [if_neg (by simpa using ha), key false (by rw [decide_eq_false ha]; rfl), Option.bind_some, if_neg (by simp)]
      simp
  · rintro k' j s h0 h1 ⟨q1, rfl⟩
    refine ⟨nearL x (cs.take n) c, ?_, rfl⟩
    show impl_Colouring_extensions_on_ExtensionsByDegree_c1_l1 x cs0 n c cs (k' + 1) j _ = _
    rw [impl_Colouring_extensions_on_ExtensionsByDegree_c1_l1, if_neg (by simp only [decide_eq_true_eq]; omega)]
    unfold nearL
    rw [hlen, show j.toNat = n by omega]

theorem run_ExtensionsByDegree_c1 (x : Col) (hp : 1 ≤ x.p ∧ x.p ≤ 16) (hk4 : 0 ≤ x.k ∧ x.k ≤ 4) (sizes : List Int) (hsz : szOK x sizes) (cb : List Int → List Int → Bool × List Int) (Inv : List Int → Prop)
    (hcb : ∀ (k : Nat) (cs : List Int) (s : List Int), 100 ≤ k → cs.length = 17 → Inv s → impl_ExtensionsByDegree_c1 k cs x.p.toNat s = some ((cb (cs.take x.p.toNat) s).1, cs, (cb (cs.take x.p.toNat) s).2) ∧ ((cb (cs.take x.p.toNat) s).1 = true → Inv (cb (cs.take x.p.toNat) s).2)) :
    ∀ (d : Nat) (cs : List Int) (n : Nat) (s : List Int) (k : Nat), n + d = x.p.toNat → cs.length = 17 → Inv s → d + 200 ≤ k →
      ∃ cs', cs'.length = 17 ∧ cs'.take n = cs.take n ∧ impl_Colouring_extensions_on_ExtensionsByDegree_c1 k x sizes cs n s = some ((runT cb (exts x.k.toNat (okX x sizes) d (cs.take n)) s).1, cs', (runT cb (exts x.k.toNat (okX x sizes) d (cs.take n)) s).2) ∧
        ((runT cb (exts x.k.toNat (okX x sizes) d (cs.take n)) s).1 = true → Inv (runT cb (exts x.k.toNat (okX x sizes) d (cs.take n)) s).2) := by
  intro d
  induction d with
  | zero =>
    intro cs n s k hn hcs hi hk
    obtain ⟨k, rfl⟩ : ∃ q, k = q + 1 := ⟨k - 1, by omega⟩
    have hs : impl_size ((cs.drop 0).take n) = (n : Int) := by unfold impl_size; simp; omega
    rw [exts_zero, runT_one]
    have hnn : n = x.p.toNat := by omega
    subst hnn
    obtain ⟨c1, c2⟩ := hcb k cs s (by omega) hcs hi
    refine ⟨cs, hcs, rfl, ?_, c2⟩
    rw [impl_Colouring_extensions_on_ExtensionsByDegree_c1, impl_Colouring_extensions_on_ExtensionsByDegree_c1_body, hs, if_pos (decide_eq_true (by omega)), c1]
    rfl
  | succ d ih =>
    intro cs n s k hn hcs hi hk
    obtain ⟨k, rfl⟩ : ∃ q, k = q + 1 := ⟨k - 1, by omega⟩
    have hs : impl_size ((cs.drop 0).take n) = (n : Int) := by unfold impl_size; simp; omega
    rw [exts_succ]
    obtain ⟨l, hl⟩ : ∃ l, l = cs.take n := ⟨_, rfl⟩
    have hll : l.length = n := by rw [hl]; simp; omega
    rw [← hl]
    have hK : ((x.k.toNat : Nat) : Int) = x.k := by omega
    have := loopI (f := fun k' c (st : List Int × List Int) => impl_Colouring_extensions_on_ExtensionsByDegree_c1_l0 k (impl_Colouring_extensions_on_ExtensionsByDegree_c1 k) x sizes cs n k' c st.1 st.2) x.k 0
      (fun c st => c ≤ x.k ∧ st.1.length = 17 ∧ st.1.take n = l ∧ runT cb (epre x.k.toNat (okX x sizes) d l c.toNat) s = (true, st.2) ∧ Inv st.2)
      (fun r => ∃ cs', cs'.length = 17 ∧ cs'.take n = l ∧ ((∃ s', r = .inl (cs', s') ∧ runT cb (epre x.k.toNat (okX x sizes) d l x.k.toNat) s = (true, s') ∧ Inv s') ∨ (∃ s', r = .inr (false, cs', s') ∧ runT cb (epre x.k.toNat (okX x sizes) d l x.k.toNat) s = (false, s')))) ?_ ?_ k 0 (cs, s) (by omega) (by omega) ⟨by omega, hcs, hl.symm, rfl, hi⟩
    · obtain ⟨r, e, cs', h1, h2, h3⟩ := this
      refine ⟨cs', h1, h2, ?_, ?_⟩
      · rw [impl_Colouring_extensions_on_ExtensionsByDegree_c1, impl_Colouring_extensions_on_ExtensionsByDegree_c1_body, hs, if_neg (by simp only [decide_eq_true_eq]; omega), e]
        rcases h3 with ⟨s', rfl, h4, _⟩ | ⟨s', rfl, h4⟩ <;> rw [h4] <;> rfl
      · rcases h3 with ⟨s', rfl, h4, h5⟩ | ⟨s', rfl, h4⟩
        · rw [h4]; intro _; exact h5
        · rw [h4]; intro h; cases h
    · rintro k' j ⟨ds, t⟩ h0 h1 ⟨q1, q2, q3, q4, q5⟩
      dsimp only at q2 q3 q4 q5
      obtain ⟨c, rfl⟩ : ∃ c : Nat, j = c := ⟨j.toNat, by omega⟩
      rw [Int.toNat_natCast] at q4
      obtain ⟨z1, z2, z3⟩ := sz_get hsz h1
      have hnear := near_ExtensionsByDegree_c1 x (by omega) cs ds n c (by omega) (by omega) (by omega) k (by omega)
      rw [q3] at hnear
      have hhas := has_okX hsz h1 l (by omega) k (by omega)
      obtain ⟨B, hB⟩ := epre_more (K := x.k.toNat) (ok := okX x sizes) (n := d) (l := l) (c + 1) (x.k.toNat - (c + 1))
      rw [show c + 1 + (x.k.toNat - (c + 1)) = x.k.toNat by omega] at hB
      have hpre := epre_succ (K := x.k.toNat) (ok := okX x sizes) (n := d) (l := l) c
      have hstep : impl_Colouring_extensions_on_ExtensionsByDegree_c1_l0 k (impl_Colouring_extensions_on_ExtensionsByDegree_c1 k) x sizes cs n (k' + 1) c ds t = ((if okX x sizes l c then (impl_Colouring_extensions_on_ExtensionsByDegree_c1 k x sizes (splicedL ds (0 + n) ([(c : Int)].length) [(c : Int)]) (n + [(c : Int)].length) t).bind fun r23 => some (!r23.1, r23.2.1, r23.2.2) else some (false, ds, t)) : Option (Bool × List Int × List Int)).bind fun s24 => if s24.1 then some (.inr (false, s24.2.1, s24.2.2)) else impl_Colouring_extensions_on_ExtensionsByDegree_c1_l0 k (impl_Colouring_extensions_on_ExtensionsByDegree_c1 k) x sizes cs n k' ((c : Int) + 1) s24.2.1 s24.2.2 := by
        rw [impl_Colouring_extensions_on_ExtensionsByDegree_c1_l0, if_pos (decide_eq_true h1), hnear, Option.bind_some, if_pos ⟨h0, by omega⟩, Int.toNat_natCast, hhas, Option.bind_some, w64_succ h0 h1 (by omega)]
        cases okX x sizes l c with
        | false => rfl
        | true =>
          simp only [Bool.not_true, Bool.not_false, if_true]
          rw [if_pos ⟨by simp only [List.length_singleton]; omega, by simp⟩]
          cases impl_Colouring_extensions_on_ExtensionsByDegree_c1 k x sizes (splicedL ds (0 + n) ([(c : Int)].length) [(c : Int)]) (n + [(c : Int)].length) t with
          | none => rfl
          | some r => cases hr : r.1 <;> simp [hr]
      cases hok : okX x sizes l c with
      | false =>
        left
        refine ⟨(ds, t), ?_, by omega, q2, q3, ?_, q5⟩
        · show impl_Colouring_extensions_on_ExtensionsByDegree_c1_l0 k (impl_Colouring_extensions_on_ExtensionsByDegree_c1 k) x sizes cs n (k' + 1) c ds t = _
          rw [hstep, hok]; rfl
        · rw [show ((c : Int) + 1).toNat = c + 1 by omega, hpre]
          unfold esub
          rw [hok, if_neg (by simp), List.append_nil]
          exact q4
      | true =>
        obtain ⟨p1, p2⟩ := spl_one ds n c (by omega)
        rw [q3] at p2
        obtain ⟨es, g1, g2, g3, g4⟩ := ih (splicedL ds (0 + n) ([(c : Int)].length) [(c : Int)]) (n + 1) t k (by omega) (by rw [p1, q2]) q5 (by omega)
        rw [p2] at g2 g3 g4
        have g2' : es.take n = l := by
          have : (es.take (n + 1)).take n = (l ++ [(c : Int)]).take n := by rw [g2]
          have e2 : (l ++ [(c : Int)]).take n = l := by rw [List.take_append_of_le_length (by omega), List.take_of_length_le (by omega)]
          rw [List.take_take, show min n (n + 1) = n by omega, e2] at this
          exact this
        have hsub : esub x.k.toNat (okX x sizes) d l c = exts x.k.toNat (okX x sizes) d (l ++ [(c : Int)]) := by unfold esub; rw [hok, if_pos rfl]
        have hr2 : runT cb (epre x.k.toNat (okX x sizes) d l (c + 1)) s = runT cb (exts x.k.toNat (okX x sizes) d (l ++ [(c : Int)])) t := by
          rw [hpre, runT_app, q4, hsub]; rfl
        rw [show n + [(c : Int)].length = n + 1 from rfl] at hstep
        cases hb : (runT cb (exts x.k.toNat (okX x sizes) d (l ++ [(c : Int)])) t).1 with
        | true =>
          left
          refine ⟨(es, (runT cb (exts x.k.toNat (okX x sizes) d (l ++ [(c : Int)])) t).2), ?_, by omega, g1, g2', ?_, g4 hb⟩
          · show impl_Colouring_extensions_on_ExtensionsByDegree_c1_l0 k (impl_Colouring_extensions_on_ExtensionsByDegree_c1 k) x sizes cs n (k' + 1) c ds t = _
            rw [hstep, hok, if_pos rfl, g3, hb]; rfl
          · rw [show ((c : Int) + 1).toNat = c + 1 by omega, hr2, ← hb]
        | false =>
          right
          refine ⟨.inr (false, es, (runT cb (exts x.k.toNat (okX x sizes) d (l ++ [(c : Int)])) t).2), ?_, es, g1, g2', .inr ⟨_, rfl, ?_⟩⟩
          · show impl_Colouring_extensions_on_ExtensionsByDegree_c1_l0 k (impl_Colouring_extensions_on_ExtensionsByDegree_c1 k) x sizes cs n (k' + 1) c ds t = _
            rw [hstep, hok, if_pos rfl, g3, hb]; rfl
          · rw [hB, runT_app, hr2, hb]; rfl
    · rintro k' j ⟨ds, t⟩ h0 h1 ⟨q1, q2, q3, q4, q5⟩
      dsimp only at q2 q3 q4 q5
      refine ⟨.inl (ds, t), ?_, ds, q2, q3, .inl ⟨t, rfl, ?_, q5⟩⟩
      · show impl_Colouring_extensions_on_ExtensionsByDegree_c1_l0 k (impl_Colouring_extensions_on_ExtensionsByDegree_c1 k) x sizes cs n (k' + 1) j ds t = _
        rw [impl_Colouring_extensions_on_ExtensionsByDegree_c1_l0, if_neg (by simp only [decide_eq_true_eq]; omega)]
      · rw [show x.k.toNat = j.toNat by omega]
        rw [show j.toNat = x.k.toNat by omega] at q4 ⊢
        exact q4

/-! ### The walk for firstExtension_c1 -/
theorem near_firstExtension_c1 (x : Col) (hp : 1 ≤ x.p ∧ x.p ≤ 17) (cs0 cs : List Int) (n c : Nat) (h0' : n ≤ cs0.length) (h1' : n ≤ cs.length) (hn : n ≤ 16) (k : Nat) (hk : 20 ≤ k) :
    impl_Colouring_extensions_on_firstExtension_c1_l1 x cs0 n c cs k 0 [] = some (nearL x (cs.take n) c) := by
  have hsz : impl_size ((cs0.drop 0).take n) = (n : Int) := by unfold impl_size; simp; omega
  have hlen : (cs.take n).length = n := by simp; omega
  have := loopI (f := fun k' j (s : List Int) => impl_Colouring_extensions_on_firstExtension_c1_l1 x cs0 n c cs k' j s) (n : Int) 0
    (fun j s => j ≤ n ∧ s = (ir 0 j.toNat).filter fun p => decide ((cs.take n).getD p.toNat 0 = (c : Int)) && aB x c p n) (fun s => s = nearL x (cs.take n) c) ?_ ?_ k 0 [] (by omega) (by omega) ⟨by omega, rfl⟩
  · obtain ⟨s, e, rfl⟩ := this
    exact e
  · rintro k' j s h0 h1 ⟨q1, rfl⟩
    left
    refine ⟨_, ?_, by omega, rfl⟩
    show impl_Colouring_extensions_on_firstExtension_c1_l1 x cs0 n c cs (k' + 1) j _ = _
    obtain ⟨i, rfl⟩ : ∃ i : Nat, j = i := ⟨j.toNat, by omega⟩
    have hi : i < n := by omega
    rw [impl_Colouring_extensions_on_firstExtension_c1_l1, hsz, if_pos (decide_eq_true h1), if_pos ⟨h0, h1, by omega⟩, w64_succ h0 h1 (by omega), joins_val x _ _ _ (by omega) (by omega), Int.toNat_natCast, show ((i : Int) + 1).toNat = i + 1 by omega]
    have hg : cs.getD (0 + i) 0 = (cs.take n).getD i 0 := by simp [List.getD, List.getElem?_take, hi]
    have hsp : ir 0 (i + 1) = ir 0 i ++ [(i : Int)] := by
      rw [ir_split (show i ≤ i + 1 by omega)]
      congr 1
      rw [ir_next (show i < i + 1 by omega), ir_end (Nat.le_refl _)]
    rw [hg, hsp, List.filter_append]
    have hll : ((ir 0 i).filter fun p => decide ((cs.take n).getD p.toNat 0 = (c : Int)) && aB x c p n).length ≤ 17 := Nat.le_trans (List.length_filter_le _ _) (by rw [ir_length]; omega)
    have key : ∀ b : Bool, (decide ((cs.take n).getD i 0 = (c : Int)) && aB x c i n) = b → [(i : Int)].filter (fun p => decide ((cs.take n).getD p.toNat 0 = (c : Int)) && aB x c p n) = if b then [(i : Int)] else [] := fun b hb => by
      rw [List.filter_cons, Int.toNat_natCast, hb]
      cases b <;> rfl
    by_cases ha : (cs.take n).getD i 0 = (c : Int)
    · rw [if_pos (decide_eq_true ha)]
      cases hb : aB x c i n with
      | true =>
        rw [key true (by rw [decide_eq_true ha, hb]; rfl), if_pos rfl, Option.bind_some, Option.bind_some, if_pos rfl, if_pos (by simp only [List.length_singleton]; omega)]; rfl
      | false =>
        rw [key false (by rw [decide_eq_true ha, hb]; rfl), Option.bind_some, Option.bind_some, if_neg (by simp)]
        simp
    · rw [if_neg (by simpa using ha), key false (by rw [decide_eq_false ha]; rfl), Option.bind_some, if_neg (by simp)]
      simp
  · rintro k' j s h0 h1 ⟨q1, rfl⟩
    refine ⟨nearL x (cs.take n) c, ?_, rfl⟩
    show impl_Colouring_extensions_on_firstExtension_c1_l1 x cs0 n c cs (k' + 1) j _ = _
    rw [impl_Colouring_extensions_on_firstExtension_c1_l1, if_neg (by simp only [decide_eq_true_eq]; omega)]
    unfold nearL
    rw [hlen, show j.toNat = n by omega]

theorem run_firstExtension_c1 (x : Col) (hp : 1 ≤ x.p ∧ x.p ≤ 16) (hk4 : 0 ≤ x.k ∧ x.k ≤ 4) (sizes : List Int) (hsz : szOK x sizes) (cb : List Int → List Int → Bool × List Int) (Inv : List Int → Prop)
    (hcb : ∀ (k : Nat) (cs : List Int) (s : List Int), 100 ≤ k → cs.length = 17 → Inv s → impl_Colouring_firstExtension_c1 cs x.p.toNat s = some ((cb (cs.take x.p.toNat) s).1, cs, (cb (cs.take x.p.toNat) s).2) ∧ ((cb (cs.take x.p.toNat) s).1 = true → Inv (cb (cs.take x.p.toNat) s).2)) :
    ∀ (d : Nat) (cs : List Int) (n : Nat) (s : List Int) (k : Nat), n + d = x.p.toNat → cs.length = 17 → Inv s → d + 200 ≤ k →
      ∃ cs', cs'.length = 17 ∧ cs'.take n = cs.take n ∧ impl_Colouring_extensions_on_firstExtension_c1 k x sizes cs n s = some ((runT cb (exts x.k.toNat (okX x sizes) d (cs.take n)) s).1, cs', (runT cb (exts x.k.toNat (okX x sizes) d (cs.take n)) s).2) ∧
        ((runT cb (exts x.k.toNat (okX x sizes) d (cs.take n)) s).1 = true → Inv (runT cb (exts x.k.toNat (okX x sizes) d (cs.take n)) s).2) := by
  intro d
  induction d with
  | zero =>
    intro cs n s k hn hcs hi hk
    obtain ⟨k, rfl⟩ : ∃ q, k = q + 1 := ⟨k - 1, by omega⟩
    have hs : impl_size ((cs.drop 0).take n) = (n : Int) := by unfold impl_size; simp; omega
    rw [exts_zero, runT_one]
    have hnn : n = x.p.toNat := by omega
    subst hnn
    obtain ⟨c1, c2⟩ := hcb k cs s (by omega) hcs hi
    refine ⟨cs, hcs, rfl, ?_, c2⟩
    rw [impl_Colouring_extensions_on_firstExtension_c1, impl_Colouring_extensions_on_firstExtension_c1_body, hs, if_pos (decide_eq_true (by omega)), c1]
    rfl
  | succ d ih =>
    intro cs n s k hn hcs hi hk
    obtain ⟨k, rfl⟩ : ∃ q, k = q + 1 := ⟨k - 1, by omega⟩
    have hs : impl_size ((cs.drop 0).take n) = (n : Int) := by unfold impl_size; simp; omega
    rw [exts_succ]
    obtain ⟨l, hl⟩ : ∃ l, l = cs.take n := ⟨_, rfl⟩
    have hll : l.length = n := by rw [hl]; simp; omega
    rw [← hl]
    have hK : ((x.k.toNat : Nat) : Int) = x.k := by omega
    have := loopI (f := fun k' c (st : List Int × List Int) => impl_Colouring_extensions_on_firstExtension_c1_l0 k (impl_Colouring_extensions_on_firstExtension_c1 k) x sizes cs n k' c st.1 st.2) x.k 0
      (fun c st => c ≤ x.k ∧ st.1.length = 17 ∧ st.1.take n = l ∧ runT cb (epre x.k.toNat (okX x sizes) d l c.toNat) s = (true, st.2) ∧ Inv st.2)
      (fun r => ∃ cs', cs'.length = 17 ∧ cs'.take n = l ∧ ((∃ s', r = .inl (cs', s') ∧ runT cb (epre x.k.toNat (okX x sizes) d l x.k.toNat) s = (true, s') ∧ Inv s') ∨ (∃ s', r = .inr (false, cs', s') ∧ runT cb (epre x.k.toNat (okX x sizes) d l x.k.toNat) s = (false, s')))) ?_ ?_ k 0 (cs, s) (by omega) (by omega) ⟨by omega, hcs, hl.symm, rfl, hi⟩
    · obtain ⟨r, e, cs', h1, h2, h3⟩ := this
      refine ⟨cs', h1, h2, ?_, ?_⟩
      · rw [impl_Colouring_extensions_on_firstExtension_c1, impl_Colouring_extensions_on_firstExtension_c1_body, hs, if_neg (by simp only [decide_eq_true_eq]; omega), e]
        rcases h3 with ⟨s', rfl, h4, _⟩ | ⟨s', rfl, h4⟩ <;> rw [h4] <;> rfl
      · rcases h3 with ⟨s', rfl, h4, h5⟩ | ⟨s', rfl, h4⟩
        · rw [h4]; intro _; exact h5
        · rw [h4]; intro h; cases h
    · rintro k' j ⟨ds, t⟩ h0 h1 ⟨q1, q2, q3, q4, q5⟩
      dsimp only at q2 q3 q4 q5
      obtain ⟨c, rfl⟩ : ∃ c : Nat, j = c := ⟨j.toNat, by omega⟩
      rw [Int.toNat_natCast] at q4
      obtain ⟨z1, z2, z3⟩ := sz_get hsz h1
      have hnear := near_firstExtension_c1 x (by omega) cs ds n c (by omega) (by omega) (by omega) k (by omega)
      rw [q3] at hnear
      have hhas := has_okX hsz h1 l (by omega) k (by omega)
      obtain ⟨B, hB⟩ := epre_more (K := x.k.toNat) (ok := okX x sizes) (n := d) (l := l) (c + 1) (x.k.toNat - (c + 1))
      rw [show c + 1 + (x.k.toNat - (c + 1)) = x.k.toNat by omega] at hB
      have hpre := epre_succ (K := x.k.toNat) (ok := okX x sizes) (n := d) (l := l) c
      have hstep : impl_Colouring_extensions_on_firstExtension_c1_l0 k (impl_Colouring_extensions_on_firstExtension_c1 k) x sizes cs n (k' + 1) c ds t = ((if okX x sizes l c then (impl_Colouring_extensions_on_firstExtension_c1 k x sizes (splicedL ds (0 + n) ([(c : Int)].length) [(c : Int)]) (n + [(c : Int)].length) t).bind fun r23 => some (!r23.1, r23.2.1, r23.2.2) else some (false, ds, t)) : Option (Bool × List Int × List Int)).bind fun s24 => if s24.1 then some (.inr (false, s24.2.1, s24.2.2)) else impl_Colouring_extensions_on_firstExtension_c1_l0 k (impl_Colouring_extensions_on_firstExtension_c1 k) x sizes cs n k' ((c : Int) + 1) s24.2.1 s24.2.2 := by
        rw [impl_Colouring_extensions_on_firstExtension_c1_l0, if_pos (decide_eq_true h1), hnear, Option.bind_some, if_pos ⟨h0, by omega⟩, Int.toNat_natCast, hhas, Option.bind_some, w64_succ h0 h1 (by omega)]
        cases okX x sizes l c with
        | false => rfl
        | true =>
          simp only [Bool.not_true, Bool.not_false, if_true]
          rw [if_pos ⟨by simp only [List.length_singleton]; omega, by simp⟩]
          cases impl_Colouring_extensions_on_firstExtension_c1 k x sizes (splicedL ds (0 + n) ([(c : Int)].length) [(c : Int)]) (n + [(c : Int)].length) t with
          | none => rfl
          | some r => cases hr : r.1 <;> simp [hr]
      cases hok : okX x sizes l c with
      | false =>
        left
        refine ⟨(ds, t), ?_, by omega, q2, q3, ?_, q5⟩
        · show impl_Colouring_extensions_on_firstExtension_c1_l0 k (impl_Colouring_extensions_on_firstExtension_c1 k) x sizes cs n (k' + 1) c ds t = _
          rw [hstep, hok]; rfl
        · rw [show ((c : Int) + 1).toNat = c + 1 by omega, hpre]
          unfold esub
          rw [hok, if_neg (by simp), List.append_nil]
          exact q4
      | true =>
        obtain ⟨p1, p2⟩ := spl_one ds n c (by omega)
        rw [q3] at p2
        obtain ⟨es, g1, g2, g3, g4⟩ := ih (splicedL ds (0 + n) ([(c : Int)].length) [(c : Int)]) (n + 1) t k (by omega) (by rw [p1, q2]) q5 (by omega)
        rw [p2] at g2 g3 g4
        have g2' : es.take n = l := by
          have : (es.take (n + 1)).take n = (l ++ [(c : Int)]).take n := by rw [g2]
          have e2 : (l ++ [(c : Int)]).take n = l := by rw [List.take_append_of_le_length (by omega), List.take_of_length_le (by omega)]
          rw [List.take_take, show min n (n + 1) = n by omega, e2] at this
          exact this
        have hsub : esub x.k.toNat (okX x sizes) d l c = exts x.k.toNat (okX x sizes) d (l ++ [(c : Int)]) := by unfold esub; rw [hok, if_pos rfl]
        have hr2 : runT cb (epre x.k.toNat (okX x sizes) d l (c + 1)) s = runT cb (exts x.k.toNat (okX x sizes) d (l ++ [(c : Int)])) t := by
          rw [hpre, runT_app, q4, hsub]; rfl
        rw [show n + [(c : Int)].length = n + 1 from rfl] at hstep
        cases hb : (runT cb (exts x.k.toNat (okX x sizes) d (l ++ [(c : Int)])) t).1 with
        | true =>
          left
          refine ⟨(es, (runT cb (exts x.k.toNat (okX x sizes) d (l ++ [(c : Int)])) t).2), ?_, by omega, g1, g2', ?_, g4 hb⟩
          · show impl_Colouring_extensions_on_firstExtension_c1_l0 k (impl_Colouring_extensions_on_firstExtension_c1 k) x sizes cs n (k' + 1) c ds t = _
            rw [hstep, hok, if_pos rfl, g3, hb]; rfl
          · rw [show ((c : Int) + 1).toNat = c + 1 by omega, hr2, ← hb]
        | false =>
          right
          refine ⟨.inr (false, es, (runT cb (exts x.k.toNat (okX x sizes) d (l ++ [(c : Int)])) t).2), ?_, es, g1, g2', .inr ⟨_, rfl, ?_⟩⟩
          · show impl_Colouring_extensions_on_firstExtension_c1_l0 k (impl_Colouring_extensions_on_firstExtension_c1 k) x sizes cs n (k' + 1) c ds t = _
            rw [hstep, hok, if_pos rfl, g3, hb]; rfl
          · rw [hB, runT_app, hr2, hb]; rfl
    · rintro k' j ⟨ds, t⟩ h0 h1 ⟨q1, q2, q3, q4, q5⟩
      dsimp only at q2 q3 q4 q5
      refine ⟨.inl (ds, t), ?_, ds, q2, q3, .inl ⟨t, rfl, ?_, q5⟩⟩
      · show impl_Colouring_extensions_on_firstExtension_c1_l0 k (impl_Colouring_extensions_on_firstExtension_c1 k) x sizes cs n (k' + 1) j ds t = _
        rw [impl_Colouring_extensions_on_firstExtension_c1_l0, if_neg (by simp only [decide_eq_true_eq]; omega)]
      · rw [show x.k.toNat = j.toNat by omega]
        rw [show j.toNat = x.k.toNat by omega] at q4 ⊢
        exact q4

/-! ### The walk for ExtensionList_c1 -/
theorem near_ExtensionList_c1 (x : Col) (hp : 1 ≤ x.p ∧ x.p ≤ 17) (cs0 cs : List Int) (n c : Nat) (h0' : n ≤ cs0.length) (h1' : n ≤ cs.length) (hn : n ≤ 16) (k : Nat) (hk : 20 ≤ k) :
    impl_Colouring_extensions_on_ExtensionList_c1_l1 x cs0 n c cs k 0 [] = some (nearL x (cs.take n) c) := by
  have hsz : impl_size ((cs0.drop 0).take n) = (n : Int) := by unfold impl_size; simp; omega
  have hlen : (cs.take n).length = n := by simp; omega
  have := loopI (f := fun k' j (s : List Int) => impl_Colouring_extensions_on_ExtensionList_c1_l1 x cs0 n c cs k' j s) (n : Int) 0
    (fun j s => j ≤ n ∧ s = (ir 0 j.toNat).filter fun p => decide ((cs.take n).getD p.toNat 0 = (c : Int)) && aB x c p n) (fun s => s = nearL x (cs.take n) c) ?_ ?_ k 0 [] (by omega) (by omega) ⟨by omega, rfl⟩
  · obtain ⟨s, e, rfl⟩ := this
    exact e
  · rintro k' j s h0 h1 ⟨q1, rfl⟩
    left
    refine ⟨_, ?_, by omega, rfl⟩
    show impl_Colouring_extensions_on_ExtensionList_c1_l1 x cs0 n c cs (k' + 1) j _ = _
    obtain ⟨i, rfl⟩ : ∃ i : Nat, j = i := ⟨j.toNat, by omega⟩
    have hi : i < n := by omega
    rw [impl_Colouring_extensions_on_ExtensionList_c1_l1, hsz, if_pos (decide_eq_true h1), if_pos ⟨h0, h1, by omega⟩, w64_succ h0 h1 (by omega), joins_val x _ _ _ (by omega) (by omega), Int.toNat_natCast, show ((i : Int) + 1).toNat = i + 1 by omega]
    have hg : cs.getD (0 + i) 0 = (cs.take n).getD i 0 := by simp [List.getD, List.getElem?_take, hi]
    have hsp : ir 0 (i + 1) = ir 0 i ++ [(i : Int)] := by
      rw [ir_split (show i ≤ i + 1 by omega)]
      congr 1
      rw [ir_next (show i < i + 1 by omega), ir_end (Nat.le_refl _)]
    rw [hg, hsp, List.filter_append]
    have hll : ((ir 0 i).filter fun p => decide ((cs.take n).getD p.toNat 0 = (c : Int)) && aB x c p n).length ≤ 17 := Nat.le_trans (List.length_filter_le _ _) (by rw [ir_length]; omega)
    have key : ∀ b : Bool, (decide ((cs.take n).getD i 0 = (c : Int)) && aB x c i n) = b → [(i : Int)].filter (fun p => decide ((cs.take n).getD p.toNat 0 = (c : Int)) && aB x c p n) = if b then [(i : Int)] else [] := fun b hb => by
      rw [List.filter_cons, Int.toNat_natCast, hb]
      cases b <;> rfl
    by_cases ha : (cs.take n).getD i 0 = (c : Int)
    · rw [if_pos (decide_eq_true ha)]
      cases hb : aB x c i n with
      | true =>
        rw [key true (by rw [decide_eq_true ha, hb]; rfl), if_pos rfl, Option.bind_some, Option.bind_some, if_pos rfl, if_pos (by simp only [List.length_singleton]; omega)]; rfl
      | false =>
        rw [key false (by rw [decide_eq_true ha, hb]; rfl), Option.bind_some, Option.bind_some, if_neg (by simp)]
        simp
    · rw [if_neg (by simpa using ha), key false (by rw [decide_eq_false ha]; rfl), Option.bind_some, if_neg (by simp)]
      simp
  · rintro k' j s h0 h1 ⟨q1, rfl⟩
    refine ⟨nearL x (cs.take n) c, ?_, rfl⟩
    show impl_Colouring_extensions_on_ExtensionList_c1_l1 x cs0 n c cs (k' + 1) j _ = _
    rw [impl_Colouring_extensions_on_ExtensionList_c1_l1, if_neg (by simp only [decide_eq_true_eq]; omega)]
    unfold nearL
    rw [hlen, show j.toNat = n by omega]

theorem run_ExtensionList_c1 (x : Col) (hp : 1 ≤ x.p ∧ x.p ≤ 16) (hk4 : 0 ≤ x.k ∧ x.k ≤ 4) (sizes : List Int) (hsz : szOK x sizes) (cb : List Int → List (List Int) → Bool × List (List Int)) (Inv : List (List Int) → Prop)
    (hcb : ∀ (k : Nat) (cs : List Int) (s : List (List Int)), 100 ≤ k → cs.length = 17 → Inv s → impl_ExtensionList_c1 cs x.p.toNat s = some ((cb (cs.take x.p.toNat) s).1, cs, (cb (cs.take x.p.toNat) s).2) ∧ ((cb (cs.take x.p.toNat) s).1 = true → Inv (cb (cs.take x.p.toNat) s).2)) :
    ∀ (d : Nat) (cs : List Int) (n : Nat) (s : List (List Int)) (k : Nat), n + d = x.p.toNat → cs.length = 17 → Inv s → d + 200 ≤ k →
      ∃ cs', cs'.length = 17 ∧ cs'.take n = cs.take n ∧ impl_Colouring_extensions_on_ExtensionList_c1 k x sizes cs n s = some ((runT cb (exts x.k.toNat (okX x sizes) d (cs.take n)) s).1, cs', (runT cb (exts x.k.toNat (okX x sizes) d (cs.take n)) s).2) ∧
        ((runT cb (exts x.k.toNat (okX x sizes) d (cs.take n)) s).1 = true → Inv (runT cb (exts x.k.toNat (okX x sizes) d (cs.take n)) s).2) := by
  intro d
  induction d with
  | zero =>
    intro cs n s k hn hcs hi hk
    obtain ⟨k, rfl⟩ : ∃ q, k = q + 1 := ⟨k - 1, by omega⟩
    have hs : impl_size ((cs.drop 0).take n) = (n : Int) := by unfold impl_size; simp; omega
    rw [exts_zero, runT_one]
    have hnn : n = x.p.toNat := by omega
    subst hnn
    obtain ⟨c1, c2⟩ := hcb k cs s (by omega) hcs hi
    refine ⟨cs, hcs, rfl, ?_, c2⟩
    rw [impl_Colouring_extensions_on_ExtensionList_c1, impl_Colouring_extensions_on_ExtensionList_c1_body, hs, if_pos (decide_eq_true (by omega)), c1]
    rfl
  | succ d ih =>
    intro cs n s k hn hcs hi hk
    obtain ⟨k, rfl⟩ : ∃ q, k = q + 1 := ⟨k - 1, by omega⟩
    have hs : impl_size ((cs.drop 0).take n) = (n : Int) := by unfold impl_size; simp; omega
    rw [exts_succ]
    obtain ⟨l, hl⟩ : ∃ l, l = cs.take n := ⟨_, rfl⟩
    have hll : l.length = n := by rw [hl]; simp; omega
    rw [← hl]
    have hK : ((x.k.toNat : Nat) : Int) = x.k := by omega
    have := loopI (f := fun k' c (st : List Int × List (List Int)) => impl_Colouring_extensions_on_ExtensionList_c1_l0 k (impl_Colouring_extensions_on_ExtensionList_c1 k) x sizes cs n k' c st.1 st.2) x.k 0
      (fun c st => c ≤ x.k ∧ st.1.length = 17 ∧ st.1.take n = l ∧ runT cb (epre x.k.toNat (okX x sizes) d l c.toNat) s = (true, st.2) ∧ Inv st.2)
      (fun r => ∃ cs', cs'.length = 17 ∧ cs'.take n = l ∧ ((∃ s', r = .inl (cs', s') ∧ runT cb (epre x.k.toNat (okX x sizes) d l x.k.toNat) s = (true, s') ∧ Inv s') ∨ (∃ s', r = .inr (false, cs', s') ∧ runT cb (epre x.k.toNat (okX x sizes) d l x.k.toNat) s = (false, s')))) ?_ ?_ k 0 (cs, s) (by omega) (by omega) ⟨by omega, hcs, hl.symm, rfl, hi⟩
    · obtain ⟨r, e, cs', h1, h2, h3⟩ := this
      refine ⟨cs', h1, h2, ?_, ?_⟩
      · rw [impl_Colouring_extensions_on_ExtensionList_c1, impl_Colouring_extensions_on_ExtensionList_c1_body, hs, if_neg (by simp only [decide_eq_true_eq]; omega), e]
        rcases h3 with ⟨s', rfl, h4, _⟩ | ⟨s', rfl, h4⟩ <;> rw [h4] <;> rfl
      · rcases h3 with ⟨s', rfl, h4, h5⟩ | ⟨s', rfl, h4⟩
        · rw [h4]; intro _; exact h5
        · rw [h4]; intro h; cases h
    · rintro k' j ⟨ds, t⟩ h0 h1 ⟨q1, q2, q3, q4, q5⟩
      dsimp only at q2 q3 q4 q5
      obtain ⟨c, rfl⟩ : ∃ c : Nat, j = c := ⟨j.toNat, by omega⟩
      rw [Int.toNat_natCast] at q4
      obtain ⟨z1, z2, z3⟩ := sz_get hsz h1
      have hnear := near_ExtensionList_c1 x (by omega) cs ds n c (by omega) (by omega) (by omega) k (by omega)
      rw [q3] at hnear
      have hhas := has_okX hsz h1 l (by omega) k (by omega)
      obtain ⟨B, hB⟩ := epre_more (K := x.k.toNat) (ok := okX x sizes) (n := d) (l := l) (c + 1) (x.k.toNat - (c + 1))
      rw [show c + 1 + (x.k.toNat - (c + 1)) = x.k.toNat by omega] at hB
      have hpre := epre_succ (K := x.k.toNat) (ok := okX x sizes) (n := d) (l := l) c
      have hstep : impl_Colouring_extensions_on_ExtensionList_c1_l0 k (impl_Colouring_extensions_on_ExtensionList_c1 k) x sizes cs n (k' + 1) c ds t = ((if okX x sizes l c then (impl_Colouring_extensions_on_ExtensionList_c1 k x sizes (splicedL ds (0 + n) ([(c : Int)].length) [(c : Int)]) (n + [(c : Int)].length) t).bind fun r23 => some (!r23.1, r23.2.1, r23.2.2) else some (false, ds, t)) : Option (Bool × List Int × List (List Int))).bind fun s24 => if s24.1 then some (.inr (false, s24.2.1, s24.2.2)) else impl_Colouring_extensions_on_ExtensionList_c1_l0 k (impl_Colouring_extensions_on_ExtensionList_c1 k) x sizes cs n k' ((c : Int) + 1) s24.2.1 s24.2.2 := by
        rw [impl_Colouring_extensions_on_ExtensionList_c1_l0, if_pos (decide_eq_true h1), hnear, Option.bind_some, if_pos ⟨h0, by omega⟩, Int.toNat_natCast, hhas, Option.bind_some, w64_succ h0 h1 (by omega)]
        cases okX x sizes l c with
        | false => rfl
        | true =>
          simp only [Bool.not_true, Bool.not_false, if_true]
          rw [if_pos ⟨by simp only [List.length_singleton]; omega, by simp⟩]
          cases impl_Colouring_extensions_on_ExtensionList_c1 k x sizes (splicedL ds (0 + n) ([(c : Int)].length) [(c : Int)]) (n + [(c : Int)].length) t with
          | none => rfl
          | some r => cases hr : r.1 <;> simp [hr]
      cases hok : okX x sizes l c with
      | false =>
        left
        refine ⟨(ds, t), ?_, by omega, q2, q3, ?_, q5⟩
        · show impl_Colouring_extensions_on_ExtensionList_c1_l0 k (impl_Colouring_extensions_on_ExtensionList_c1 k) x sizes cs n (k' + 1) c ds t = _
          rw [hstep, hok]; rfl
        · rw [show ((c : Int) + 1).toNat = c + 1 by omega, hpre]
          unfold esub
          rw [hok, if_neg (by simp), List.append_nil]
          exact q4
      | true =>
        obtain ⟨p1, p2⟩ := spl_one ds n c (by omega)
        rw [q3] at p2
        obtain ⟨es, g1, g2, g3, g4⟩ := ih (splicedL ds (0 + n) ([(c : Int)].length) [(c : Int)]) (n + 1) t k (by omega) (by rw [p1, q2]) q5 (by omega)
        rw [p2] at g2 g3 g4
        have g2' : es.take n = l := by
          have : (es.take (n + 1)).take n = (l ++ [(c : Int)]).take n := by rw [g2]
          have e2 : (l ++ [(c : Int)]).take n = l := by rw [List.take_append_of_le_length (by omega), List.take_of_length_le (by omega)]
          rw [List.take_take, show min n (n + 1) = n by omega, e2] at this
          exact this
        have hsub : esub x.k.toNat (okX x sizes) d l c = exts x.k.toNat (okX x sizes) d (l ++ [(c : Int)]) := by unfold esub; rw [hok, if_pos rfl]
        have hr2 : runT cb (epre x.k.toNat (okX x sizes) d l (c + 1)) s = runT cb (exts x.k.toNat (okX x sizes) d (l ++ [(c : Int)])) t := by
          rw [hpre, runT_app, q4, hsub]; rfl
        rw [show n + [(c : Int)].length = n + 1 from rfl] at hstep
        cases hb : (runT cb (exts x.k.toNat (okX x sizes) d (l ++ [(c : Int)])) t).1 with
        | true =>
          left
          refine ⟨(es, (runT cb (exts x.k.toNat (okX x sizes) d (l ++ [(c : Int)])) t).2), ?_, by omega, g1, g2', ?_, g4 hb⟩
          · show impl_Colouring_extensions_on_ExtensionList_c1_l0 k (impl_Colouring_extensions_on_ExtensionList_c1 k) x sizes cs n (k' + 1) c ds t = _
            rw [hstep, hok, if_pos rfl, g3, hb]; rfl
          · rw [show ((c : Int) + 1).toNat = c + 1 by omega, hr2, ← hb]
        | false =>
          right
          refine ⟨.inr (false, es, (runT cb (exts x.k.toNat (okX x sizes) d (l ++ [(c : Int)])) t).2), ?_, es, g1, g2', .inr ⟨_, rfl, ?_⟩⟩
          · show impl_Colouring_extensions_on_ExtensionList_c1_l0 k (impl_Colouring_extensions_on_ExtensionList_c1 k) x sizes cs n (k' + 1) c ds t = _
            rw [hstep, hok, if_pos rfl, g3, hb]; rfl
          · rw [hB, runT_app, hr2, hb]; rfl
    · rintro k' j ⟨ds, t⟩ h0 h1 ⟨q1, q2, q3, q4, q5⟩
      dsimp only at q2 q3 q4 q5
      refine ⟨.inl (ds, t), ?_, ds, q2, q3, .inl ⟨t, rfl, ?_, q5⟩⟩
      · show impl_Colouring_extensions_on_ExtensionList_c1_l0 k (impl_Colouring_extensions_on_ExtensionList_c1 k) x sizes cs n (k' + 1) j ds t = _
        rw [impl_Colouring_extensions_on_ExtensionList_c1_l0, if_neg (by simp only [decide_eq_true_eq]; omega)]
      · rw [show x.k.toNat = j.toNat by omega]
        rw [show j.toNat = x.k.toNat by omega] at q4 ⊢
        exact q4

end Go.Proofs.YtjcgphgipleccaaGreat
