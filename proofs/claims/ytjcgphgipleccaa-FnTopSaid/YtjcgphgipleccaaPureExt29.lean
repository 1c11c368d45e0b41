/- Plain laws: whether points have a clique, by both sides. No conditions beyond those that each lemma states. -/
import Derived.Test.YtjcgphgipleccaaPureClqM29
set_option linter.unusedVariables false
set_option linter.unusedSimpArgs false
namespace Go.Proofs.Ytjcgphgipleccaa
open Go Go.RowKit Ab

theorem joins_val (x : Col) (p q c : Int) (hp : 0 ≤ p ∧ p < 17) (hq : 0 ≤ q ∧ q < 17) : impl_Colouring_joins x p q c = some (aB x c p q) := by
  unfold impl_Colouring_joins aB
  by_cases e : p = q
  · subst e; simp
  · rw [implAt_ne x p q hp.1 hp.2 hq.1 hq.2 e]
    simp [e]

/-! ### The program's -/
theorem rest_val (x : Col) (c : Int) (pts : List Int) (hr : inR pts) (hl : pts.length ≤ 17) (i : Nat) (hi : i < pts.length) (k : Nat) (hk : 20 ≤ k) :
    impl_Colouring_hasClique_l1 x c pts i k 0 [] = some ((pts.drop (i + 1)).filter fun q => aB x c (pts.getD i 0) q) := by
  have hw : w64 ((i : Int) + 1) = ((i + 1 : Nat) : Int) := by rw [w64_id (by omega)]; omega
  have hgr : ∀ j : Nat, j < pts.length → 0 ≤ pts.getD j 0 ∧ pts.getD j 0 < 17 := fun j hj => hr _ (mem_getD.2 ⟨j, hj, rfl⟩)
  obtain ⟨R, hR⟩ : ∃ R, R = pts.drop (i + 1) := ⟨_, rfl⟩
  have hRr : ∀ j : Nat, j < R.length → 0 ≤ R.getD j 0 ∧ R.getD j 0 < 17 := fun j hj => by
    have hsub : ∀ z ∈ R, z ∈ pts := fun z hz => by rw [hR] at hz; exact List.mem_of_mem_drop hz
    exact hr _ (hsub _ (mem_getD.2 ⟨j, hj, rfl⟩))
  have hRl : R.length ≤ 17 := by rw [hR, List.length_drop]; omega
  have hpi := hgr i hi
  have := loopI (f := fun k' j (s : List Int) => impl_Colouring_hasClique_l1 x c pts i k' j s) (R.length : Int) 0 (fun j s => j ≤ R.length ∧ s = (R.take j.toNat).filter fun q => aB x c (pts.getD i 0) q) (fun s => s = R.filter fun q => aB x c (pts.getD i 0) q) ?_ ?_ k 0 [] (by omega) (by omega) ⟨by omega, by simp⟩
  · obtain ⟨s, e, rfl⟩ := this
    rw [← hR]; exact e
  · rintro k' j s h0 h1 ⟨q1, rfl⟩
    left
    refine ⟨(R.take (j + 1).toNat).filter fun q => aB x c (pts.getD i 0) q, ?_, by omega, rfl⟩
    show impl_Colouring_hasClique_l1 x c pts i (k' + 1) j _ = _
    rw [impl_Colouring_hasClique_l1, hw, Int.toNat_natCast, List.take_length, ← hR, Int.toNat_natCast, w64_succ h0 h1 (by omega)]
    rw [if_pos (decide_eq_true h1), if_pos ⟨h0, h1⟩, joins_val x _ _ c hpi (hRr j.toNat (by omega)), Option.bind_some]
    have eR : R[j.toNat]'(by omega) = R.getD j.toNat 0 := by simp [show j.toNat < R.length by omega]
    rw [show (j + 1).toNat = j.toNat + 1 by omega, List.take_succ_eq_append_getElem (show j.toNat < R.length by omega), List.filter_append, eR]
    have hlen : ((R.take j.toNat).filter fun q => aB x c (pts.getD i 0) q).length ≤ 17 := Nat.le_trans (List.length_filter_le _ _) (by simp; omega)
    cases hb : aB x c (pts.getD i 0) (R.getD j.toNat 0) with
    | true =>
      have hf : [R.getD j.toNat 0].filter (fun q => aB x c (pts.getD i 0) q) = [R.getD j.toNat 0] := by rw [List.filter_cons, if_pos hb]; rfl
      rw [if_pos rfl, if_pos (by simp only [List.length_singleton]; omega), hf]; rfl
    | false =>
      have hf : [R.getD j.toNat 0].filter (fun q => aB x c (pts.getD i 0) q) = [] := by rw [List.filter_cons, if_neg (by rw [hb]; simp)]; rfl
      rw [if_neg (by simp), hf, List.append_nil]; rfl
  · rintro k' j s h0 h1 ⟨q1, rfl⟩
    refine ⟨R.filter fun q => aB x c (pts.getD i 0) q, ?_, rfl⟩
    show impl_Colouring_hasClique_l1 x c pts i (k' + 1) j _ = _
    rw [impl_Colouring_hasClique_l1, hw, Int.toNat_natCast, List.take_length, ← hR, if_neg (by simp only [decide_eq_true_eq]; omega), show j.toNat = R.length by omega, List.take_length]

theorem hasClique_val (x : Col) (c : Int) : ∀ (m : Nat) (pts : List Int), inR pts → pts.length ≤ 17 → ∀ k, m + 50 ≤ k → impl_Colouring_hasClique k x c m pts = some (decide (cl (aB x c) m pts ≠ [])) := by
  intro m
  induction m with
  | zero =>
    intro pts _ _ k hk
    obtain ⟨k, rfl⟩ : ∃ q, k = q + 1 := ⟨k - 1, by omega⟩
    rw [impl_Colouring_hasClique, impl_Colouring_hasClique_body, cl_zero]
    simp
  | succ m ih =>
    intro pts hr hl k hk
    obtain ⟨k, rfl⟩ : ∃ q, k = q + 1 := ⟨k - 1, by omega⟩
    rw [impl_Colouring_hasClique, impl_Colouring_hasClique_body, if_neg (by simp only [decide_eq_true_eq]; omega)]
    unfold impl_size
    by_cases hs : (pts.length : Int) < ((m + 1 : Nat) : Int)
    · rw [if_pos (decide_eq_true hs), cl_short _ pts (m + 1) (by omega)]; simp
    · rw [if_neg (by simpa using hs)]
      have hw : w64 (((m + 1 : Nat) : Int) - 1) = (m : Int) := by rw [w64_id (by omega)]; omega
      have := loopI (f := fun k' j (_ : Unit) => impl_Colouring_hasClique_l0 k (impl_Colouring_hasClique k) x c ((m + 1 : Nat) : Int) pts k' j) (pts.length : Int) 0
        (fun j _ => j ≤ pts.length ∧ (cl (aB x c) (m + 1) pts ≠ [] ↔ cl (aB x c) (m + 1) (pts.drop j.toNat) ≠ [])) (fun r => r = if cl (aB x c) (m + 1) pts ≠ [] then .inr true else .inl ()) ?_ ?_ k 0 () (by omega) (by omega) ⟨by omega, by simp⟩
      · obtain ⟨r, e, rfl⟩ := this
        rw [e]
        by_cases h : cl (aB x c) (m + 1) pts ≠ [] <;> simp [h]
      · rintro k' j _ h0 h1 ⟨q1, q2⟩
        obtain ⟨i, rfl⟩ : ∃ i : Nat, j = i := ⟨j.toNat, by omega⟩
        have hi : i < pts.length := by omega
        rw [Int.toNat_natCast] at q2
        have hd : pts.drop i = pts.getD i 0 :: pts.drop (i + 1) := by
          rw [List.drop_eq_getElem_cons hi]; simp [hi]
        rw [hd, cl_cons] at q2
        have hrest : inR ((pts.drop (i + 1)).filter fun q => aB x c (pts.getD i 0) q) := fun z hz => hr z (List.mem_of_mem_drop (List.mem_filter.1 hz).1)
        have hrl : ((pts.drop (i + 1)).filter fun q => aB x c (pts.getD i 0) q).length ≤ 17 := Nat.le_trans (List.length_filter_le _ _) (by rw [List.length_drop]; omega)
        have hih := ih _ hrest hrl k (by omega)
        have hstep : impl_Colouring_hasClique_l0 k (impl_Colouring_hasClique k) x c ((m + 1 : Nat) : Int) pts (k' + 1) i = (if cl (aB x c) m ((pts.drop (i + 1)).filter fun q => aB x c (pts.getD i 0) q) ≠ [] then some (.inr true) else impl_Colouring_hasClique_l0 k (impl_Colouring_hasClique k) x c ((m + 1 : Nat) : Int) pts k' ((i : Int) + 1)) := by
          rw [impl_Colouring_hasClique_l0, if_pos (decide_eq_true h1), if_pos ⟨h0, h1⟩, w64_succ h0 h1 (by omega), if_pos ⟨by omega, by omega, by omega⟩, rest_val x c pts hr hl i hi k (by omega), Option.bind_some, hw, hih]
          by_cases h : cl (aB x c) m ((pts.drop (i + 1)).filter fun q => aB x c (pts.getD i 0) q) ≠ []
          · rw [decide_eq_true h, if_pos h]; rfl
          · rw [decide_eq_false h, if_neg h]; rfl
        by_cases h : cl (aB x c) m ((pts.drop (i + 1)).filter fun q => aB x c (pts.getD i 0) q) ≠ []
        · right
          refine ⟨.inr true, ?_, ?_⟩
          · show impl_Colouring_hasClique_l0 k (impl_Colouring_hasClique k) x c ((m + 1 : Nat) : Int) pts (k' + 1) i = _
            rw [hstep, if_pos h]
          · rw [if_pos]
            rw [q2]
            intro h2
            have := List.append_eq_nil_iff.1 h2
            exact h (List.map_eq_nil_iff.1 this.1)
        · left
          refine ⟨(), ?_, by omega, ?_⟩
          · show impl_Colouring_hasClique_l0 k (impl_Colouring_hasClique k) x c ((m + 1 : Nat) : Int) pts (k' + 1) i = _
            rw [hstep, if_neg h]
          · rw [q2, show ((i : Int) + 1).toNat = i + 1 by omega]
            have h' : cl (aB x c) m ((pts.drop (i + 1)).filter fun q => aB x c (pts.getD i 0) q) = [] := Classical.not_not.1 h
            have h'' : cl (aB x c) m ((pts.drop (i + 1)).filter (aB x c (pts.getD i 0))) = [] := h'
            rw [h'']
            simp
      · rintro k' j _ h0 h1 ⟨q1, q2⟩
        have hj : j = pts.length := by omega
        subst hj
        rw [Int.toNat_natCast, List.drop_length, cl_nil] at q2
        refine ⟨.inl (), ?_, by rw [if_neg (by rw [q2]; simp)]⟩
        show impl_Colouring_hasClique_l0 k (impl_Colouring_hasClique k) x c ((m + 1 : Nat) : Int) pts (k' + 1) _ = _
        rw [impl_Colouring_hasClique_l0]; simp

theorem hasClique_neg (x : Col) (c m : Int) (pts : List Int) (k : Nat) (hk : 1 ≤ k) (hm : m ≤ 0) : impl_Colouring_hasClique k x c m pts = some true := by
  obtain ⟨k, rfl⟩ : ∃ q, k = q + 1 := ⟨k - 1, by omega⟩
  rw [impl_Colouring_hasClique, impl_Colouring_hasClique_body, if_pos (decide_eq_true hm)]

/-! ### The reference's -/

/-- Those of the points of l that go with the next one in a colour. -/
def nearL (x : Col) (l : List Int) (c : Nat) : List Int := (ir 0 l.length).filter fun p => decide (l.getD p.toNat 0 = (c : Int)) && aB x c p l.length
def okX (x : Col) (sizes l : List Int) (c : Nat) : Bool := decide (cl (aB x c) (sizes.getD c 0 - 2).toNat (nearL x l c) = [])

theorem ir_split {n N : Nat} (h : n ≤ N) : ir 0 N = ir 0 n ++ ir n N := by
  unfold ir
  rw [← List.map_append]
  congr 1
  have := @List.range'_append_1 0 n (N - n)
  rw [Nat.zero_add] at this
  rw [Nat.sub_zero, Nat.sub_zero, this, show n + (N - n) = N by omega]
theorem nearL_inR {x : Col} {l : List Int} {c : Nat} (hl : l.length ≤ 17) : inR (nearL x l c) ∧ (nearL x l c).length ≤ 17 := by
  constructor
  · intro z hz
    have := mem_ir.1 (List.mem_filter.1 hz).1
    omega
  · have := List.length_filter_le (fun p : Int => decide (l.getD p.toNat 0 = (c : Int)) && aB x c p l.length) (ir 0 l.length)
    rw [ir_length] at this
    unfold nearL
    omega

def szOK (x : Col) (sizes : List Int) : Prop := (sizes.length : Int) = x.k ∧ ∀ z ∈ sizes, 1 ≤ z ∧ z ≤ 17
theorem sz_get {x : Col} {sizes : List Int} (h : szOK x sizes) {c : Nat} (hc : (c : Int) < x.k) : 1 ≤ sizes.getD c 0 ∧ sizes.getD c 0 ≤ 17 ∧ c < sizes.length := by
  have := h.1
  have hl : c < sizes.length := by omega
  have := h.2 _ (mem_getD.2 ⟨c, hl, rfl⟩)
  omega

theorem has_okX {x : Col} {sizes : List Int} (h : szOK x sizes) {c : Nat} (hc : (c : Int) < x.k) (l : List Int) (hl : l.length ≤ 17) (k : Nat) (hk : 100 ≤ k) :
    impl_Colouring_hasClique k x c (w64 (sizes.getD c 0 - 2)) (nearL x l c) = some (!okX x sizes l c) := by
  obtain ⟨h1, h2, h3⟩ := sz_get h hc
  obtain ⟨n1, n2⟩ := nearL_inR (x := x) (c := c) hl
  rw [w64_id (by omega)]
  unfold okX
  by_cases h0 : sizes.getD c 0 - 2 ≤ 0
  · rw [hasClique_neg x c _ _ k (by omega) h0, show (sizes.getD c 0 - 2).toNat = 0 by omega, cl_zero]
    simp
  · obtain ⟨m, hm⟩ : ∃ m : Nat, sizes.getD c 0 - 2 = m := ⟨(sizes.getD c 0 - 2).toNat, by omega⟩
    rw [hm, Int.toNat_natCast, hasClique_val x c m _ n1 n2 k (by omega)]
    by_cases e : cl (aB x c) m (nearL x l c) = [] <;> simp [e]

/-! ### A walk that stops -/
def runT {α σ : Type} (cb : α → σ → Bool × σ) : List α → σ → Bool × σ
  | [], s => (true, s)
  | a :: t, s => if (cb a s).1 then runT cb t (cb a s).2 else (false, (cb a s).2)
theorem runT_app {α σ : Type} (cb : α → σ → Bool × σ) (B : List α) : ∀ (A : List α) (s : σ), runT cb (A ++ B) s = if (runT cb A s).1 then runT cb B (runT cb A s).2 else (false, (runT cb A s).2)
  | [], s => by simp [runT]
  | a :: t, s => by
    rw [List.cons_append, runT, runT]
    by_cases h : (cb a s).1 = true
    · rw [if_pos h, if_pos h, runT_app cb B t]
    · rw [if_neg h, if_neg h]; simp
theorem runT_nil {α σ : Type} (cb : α → σ → Bool × σ) (s : σ) : runT cb [] s = (true, s) := rfl
theorem runT_one {α σ : Type} (cb : α → σ → Bool × σ) (a : α) (s : σ) : runT cb [a] s = cb a s := by
  rw [runT]
  cases h : (cb a s).1 with
  | true => rw [if_pos rfl, runT_nil, ← h]
  | false => rw [if_neg (by simp), ← h]

theorem spl_one (cs : List Int) (n : Nat) (c : Int) (h : n < cs.length) : (splicedL cs (0 + n) ([c].length) [c]).length = cs.length ∧ (splicedL cs (0 + n) ([c].length) [c]).take (n + 1) = cs.take n ++ [c] := by
  constructor
  · rw [splicedL_length _ _ _ _ (by simp; omega)]
  · unfold splicedL
    rw [Nat.zero_add]
    rw [List.take_append_of_le_length (by simp; omega), List.take_of_length_le (by simp; omega)]
    simp

/-! ### The walk for ExtensionsByDegree_c1 -/
theorem near_ExtensionsByDegree_c1 (x : Col) (hp : 1 ≤ x.p ∧ x.p ≤ 17) (cs0 cs : List Int) (n c : Nat) (h0' : n ≤ cs0.length) (h1' : n ≤ cs.length) (hn : n ≤ 16) (k : Nat) (hk : 20 ≤ k) :
    impl_Colouring_extensions_on_ExtensionsByDegree_c1_l1 x cs0 n c cs k 0 [] = some (nearL x (cs.take n) c) := by
  have hsz : impl_size ((cs0.drop 0).take n) = (n : Int) := by unfold impl_size; simp; omega
  have hlen : (cs.take n).length = n := by simp; omega
  have := loopI (f := fun k' j (s : List Int) => impl_Colouring_extensions_on_ExtensionsByDegree_c1_l1 x cs0 n c cs k' j s) (n : Int) 0
    (fun j s => j ≤ n ∧ s = (ir 0 j.toNat).filter fun p => decide ((cs.take n).getD p.toNat 0 = (c : Int)) && aB x c p n) (fun s => s = nearL x (cs.take n) c) ?_ ?_ k 0 [] (by omega) (by omega) ⟨by omega, rfl⟩
  · obtain ⟨s, e, rfl⟩ := this
    exact e
  · rintro k' j s h0 h1 ⟨q1, rfl⟩
    left
    refine ⟨_, ?_, by omega, rfl⟩
    show impl_Colouring_extensions_on_ExtensionsByDegree_c1_l1 x cs0 n c cs (k' + 1) j _ = _
    obtain ⟨i, rfl⟩ : ∃ i : Nat, j = i := ⟨j.toNat, by omega⟩
    have hi : i < n := by omega
    rw [impl_Colouring_extensions_on_ExtensionsByDegree_c1_l1, hsz, if_pos (decide_eq_true h1), if_pos ⟨h0, h1, by omega⟩, w64_succ h0 h1 (by omega), joins_val x _ _ _ (by omega) (by omega), Int.toNat_natCast, show ((i : Int) + 1).toNat = i + 1 by omega]
    have hg : cs.getD (0 + i) 0 = (cs.take n).getD i 0 := by simp [List.getD, List.getElem?_take, hi]
    have hsp : ir 0 (i + 1) = ir 0 i ++ [(i : Int)] := by
      rw [ir_split (show i ≤ i + 1 by omega)]
      congr 1
      rw [ir_next (show i < i + 1 by omega), ir_end (Nat.le_refl _)]
    rw [hg, hsp, List.filter_append]
    have hll : ((ir 0 i).filter fun p => decide ((cs.take n).getD p.toNat 0 = (c : Int)) && aB x c p n).length ≤ 17 := Nat.le_trans (List.length_filter_le _ _) (by rw [ir_length]; omega)
    have key : ∀ b : Bool, (decide ((cs.take n).getD i 0 = (c : Int)) && aB x c i n) = b → [(i : Int)].filter (fun p => decide ((cs.take n).getD p.toNat 0 = (c : Int)) && aB x c p n) = if b then [(i : Int)] else [] := fun b hb => by
      rw [List.filter_cons, Int.toNat_natCast, hb]
      cases b <;> rfl
    by_cases ha : (cs.take n).getD i 0 = (c : Int)
    · rw [if_pos (decide_eq_true ha)]
      cases hb : aB x c i n with
      | true =>
        rw [key true (by rw [decide_eq_true ha, hb]; rfl), if_pos rfl, Option.bind_some, Option.bind_some, if_pos rfl, if_pos (by simp only [List.length_singleton]; omega)]; rfl
      | false =>
        rw [key false (by rw [decide_eq_true ha, hb]; rfl), Option.bind_some, Option.bind_some, if_neg (by simp)]
        simp
    · rw [if_neg (by simpa using ha), key false (by rw [decide_eq_false ha]; rfl), Option.bind_some, if_neg (by simp)]
      simp
  · rintro k' j s h0 h1 ⟨q1, rfl⟩
    refine ⟨nearL x (cs.take n) c, ?_, rfl⟩
    show impl_Colouring_extensions_on_ExtensionsByDegree_c1_l1 x cs0 n c cs (k' + 1) j _ = _
    rw [impl_Colouring_extensions_on_ExtensionsByDegree_c1_l1, if_neg (by simp only [decide_eq_true_eq]; omega)]
    unfold nearL
    rw [hlen, show j.toNat = n by omega]

theorem run_ExtensionsByDegree_c1 (x : Col) (hp : 1 ≤ x.p ∧ x.p ≤ 16) (hk4 : 0 ≤ x.k ∧ x.k ≤ 4) (sizes : List Int) (hsz : szOK x sizes) (cb : List Int → List Int → Bool × List Int) (Inv : List Int → Prop)
    (hcb : ∀ (k : Nat) (cs : List Int) (s : List Int), 100 ≤ k → cs.length = 17 → Inv s → impl_ExtensionsByDegree_c1 k cs x.p.toNat s = some ((cb (cs.take x.p.toNat) s).1, cs, (cb (cs.take x.p.toNat) s).2) ∧ ((cb (cs.take x.p.toNat) s).1 = true → Inv (cb (cs.take x.p.toNat) s).2)) :
    ∀ (d : Nat) (cs : List Int) (n : Nat) (s : List Int) (k : Nat), n + d = x.p.toNat → cs.length = 17 → Inv s → d + 200 ≤ k →
      ∃ cs', cs'.length = 17 ∧ cs'.take n = cs.take n ∧ impl_Colouring_extensions_on_ExtensionsByDegree_c1 k x sizes cs n s = some ((runT cb (exts x.k.toNat (okX x sizes) d (cs.take n)) s).1, cs', (runT cb (exts x.k.toNat (okX x sizes) d (cs.take n)) s).2) ∧
        ((runT cb (exts x.k.toNat (okX x sizes) d (cs.take n)) s).1 = true → Inv (runT cb (exts x.k.toNat (okX x sizes) d (cs.take n)) s).2) := by
  intro d
  induction d with
  | zero =>
    intro cs n s k hn hcs hi hk
    obtain ⟨k, rfl⟩ : ∃ q, k = q + 1 := ⟨k - 1, by omega⟩
    have hs : impl_size ((cs.drop 0).take n) = (n : Int) := by unfold impl_size; simp; omega
    rw [exts_zero, runT_one]
    have hnn : n = x.p.toNat := by omega
    subst hnn
    obtain ⟨c1, c2⟩ := hcb k cs s (by omega) hcs hi
    refine ⟨cs, hcs, rfl, ?_, c2⟩
    rw [impl_Colouring_extensions_on_ExtensionsByDegree_c1, impl_Colouring_extensions_on_ExtensionsByDegree_c1_body, hs, if_pos (decide_eq_true (by omega)), c1]
    rfl
  | succ d ih =>
    intro cs n s k hn hcs hi hk
    obtain ⟨k, rfl⟩ : ∃ q, k = q + 1 := ⟨k - 1, by omega⟩
    have hs : impl_size ((cs.drop 0).take n) = (n : Int) := by unfold impl_size; simp; omega
    rw [exts_succ]
    obtain ⟨l, hl⟩ : ∃ l, l = cs.take n := ⟨_, rfl⟩
    have hll : l.length = n := by rw [hl]; simp; omega
    rw [← hl]
    have hK : ((x.k.toNat : Nat) : Int) = x.k := by omega
    have := loopI (f := fun k' c (st : List Int × List Int) => impl_Colouring_extensions_on_ExtensionsByDegree_c1_l0 k (impl_Colouring_extensions_on_ExtensionsByDegree_c1 k) x sizes cs n k' c st.1 st.2) x.k 0
      (fun c st => c ≤ x.k ∧ st.1.length = 17 ∧ st.1.take n = l ∧ runT cb (epre x.k.toNat (okX x sizes) d l c.toNat) s = (true, st.2) ∧ Inv st.2)
      (fun r => ∃ cs', cs'.length = 17 ∧ cs'.take n = l ∧ ((∃ s', r = .inl (cs', s') ∧ runT cb (epre x.k.toNat (okX x sizes) d l x.k.toNat) s = (true, s') ∧ Inv s') ∨ (∃ s', r = .inr (false, cs', s') ∧ runT cb (epre x.k.toNat (okX x sizes) d l x.k.toNat) s = (false, s')))) ?_ ?_ k 0 (cs, s) (by omega) (by omega) ⟨by omega, hcs, hl.symm, rfl, hi⟩
    · obtain ⟨r, e, cs', h1, h2, h3⟩ := this
      refine ⟨cs', h1, h2, ?_, ?_⟩
      · rw [impl_Colouring_extensions_on_ExtensionsByDegree_c1, impl_Colouring_extensions_on_ExtensionsByDegree_c1_body, hs, if_neg (by simp only [decide_eq_true_eq]; omega), e]
        rcases h3 with ⟨s', rfl, h4, _⟩ | ⟨s', rfl, h4⟩ <;> rw [h4] <;> rfl
      · rcases h3 with ⟨s', rfl, h4, h5⟩ | ⟨s', rfl, h4⟩
        · rw [h4]; intro _; exact h5
        · rw [h4]; intro h; cases h
    · rintro k' j ⟨ds, t⟩ h0 h1 ⟨q1, q2, q3, q4, q5⟩
      dsimp only at q2 q3 q4 q5
      obtain ⟨c, rfl⟩ : ∃ c : Nat, j = c := ⟨j.toNat, by omega⟩
      rw [Int.toNat_natCast] at q4
      obtain ⟨z1, z2, z3⟩ := sz_get hsz h1
      have hnear := near_ExtensionsByDegree_c1 x (by omega) cs ds n c (by omega) (by omega) (by omega) k (by omega)
      rw [q3] at hnear
      have hhas := has_okX hsz h1 l (by omega) k (by omega)
      obtain ⟨B, hB⟩ := epre_more (K := x.k.toNat) (ok := okX x sizes) (n := d) (l := l) (c + 1) (x.k.toNat - (c + 1))
      rw [show c + 1 + (x.k.toNat - (c + 1)) = x.k.toNat by omega] at hB
      have hpre := epre_succ (K := x.k.toNat) (ok := okX x sizes) (n := d) (l := l) c
      have hstep : impl_Colouring_extensions_on_ExtensionsByDegree_c1_l0 k (impl_Colouring_extensions_on_ExtensionsByDegree_c1 k) x sizes cs n (k' + 1) c ds t = ((if okX x sizes l c then (impl_Colouring_extensions_on_ExtensionsByDegree_c1 k x sizes (splicedL ds (0 + n) ([(c : Int)].length) [(c : Int)]) (n + [(c : Int)].length) t).bind fun r23 => some (!r23.1, r23.2.1, r23.2.2) else some (false, ds, t)) : Option (Bool × List Int × List Int)).bind fun s24 => if s24.1 then some (.inr (false, s24.2.1, s24.2.2)) else impl_Colouring_extensions_on_ExtensionsByDegree_c1_l0 k (impl_Colouring_extensions_on_ExtensionsByDegree_c1 k) x sizes cs n k' ((c : Int) + 1) s24.2.1 s24.2.2 := by
        rw [impl_Colouring_extensions_on_ExtensionsByDegree_c1_l0, if_pos (decide_eq_true h1), hnear, Option.bind_some, if_pos ⟨h0, by omega⟩, Int.toNat_natCast, hhas, Option.bind_some, w64_succ h0 h1 (by omega)]
        cases okX x sizes l c with
        | false => rfl
        | true =>
          simp only [Bool.not_true, Bool.not_false, if_true]
          rw [if_pos ⟨by simp only [List.length_singleton]; omega, by simp⟩]
          cases impl_Colouring_extensions_on_ExtensionsByDegree_c1 k x sizes (splicedL ds (0 + n) ([(c : Int)].length) [(c : Int)]) (n + [(c : Int)].length) t with
          | none => rfl
          | some r => cases hr : r.1 <;> simp [hr]
      cases hok : okX x sizes l c with
      | false =>
        left
        refine ⟨(ds, t), ?_, by omega, q2, q3, ?_, q5⟩
        · show impl_Colouring_extensions_on_ExtensionsByDegree_c1_l0 k (impl_Colouring_extensions_on_ExtensionsByDegree_c1 k) x sizes cs n (k' + 1) c ds t = _
          rw [hstep, hok]; rfl
        · rw [show ((c : Int) + 1).toNat = c + 1 by omega, hpre]
          unfold esub
          rw [hok, if_neg (by simp), List.append_nil]
          exact q4
      | true =>
        obtain ⟨p1, p2⟩ := spl_one ds n c (by omega)
        rw [q3] at p2
        obtain ⟨es, g1, g2, g3, g4⟩ := ih (splicedL ds (0 + n) ([(c : Int)].length) [(c : Int)]) (n + 1) t k (by omega) (by rw [p1, q2]) q5 (by omega)
        rw [p2] at g2 g3 g4
        have g2' : es.take n = l := by
          have : (es.take (n + 1)).take n = (l ++ [(c : Int)]).take n := by rw [g2]
          have e2 : (l ++ [(c : Int)]).take n = l := by rw [List.take_append_of_le_length (by omega), List.take_of_length_le (by omega)]
          rw [List.take_take, show min n (n + 1) = n by omega, e2] at this
          exact this
        have hsub : esub x.k.toNat (okX x sizes) d l c = exts x.k.toNat (okX x sizes) d (l ++ [(c : Int)]) := by unfold esub; rw [hok, if_pos rfl]
        have hr2 : runT cb (epre x.k.toNat (okX x sizes) d l (c + 1)) s = runT cb (exts x.k.toNat (okX x sizes) d (l ++ [(c : Int)])) t := by
          rw [hpre, runT_app, q4, hsub]; rfl
        rw [show n + [(c : Int)].length = n + 1 from rfl] at hstep
        cases hb : (runT cb (exts x.k.toNat (okX x sizes) d (l ++ [(c : Int)])) t).1 with
        | true =>
          left
          refine ⟨(es, (runT cb (exts x.k.toNat (okX x sizes) d (l ++ [(c : Int)])) t).2), ?_, by omega, g1, g2', ?_, g4 hb⟩
          · show impl_Colouring_extensions_on_ExtensionsByDegree_c1_l0 k (impl_Colouring_extensions_on_ExtensionsByDegree_c1 k) x sizes cs n (k' + 1) c ds t = _
            rw [hstep, hok, if_pos rfl, g3, hb]; rfl
          · rw [show ((c : Int) + 1).toNat = c + 1 by omega, hr2, ← hb]
        | false =>
          right
          refine ⟨.inr (false, es, (runT cb (exts x.k.toNat (okX x sizes) d (l ++ [(c : Int)])) t).2), ?_, es, g1, g2', .inr ⟨_, rfl, ?_⟩⟩
          · show impl_Colouring_extensions_on_ExtensionsByDegree_c1_l0 k (impl_Colouring_extensions_on_ExtensionsByDegree_c1 k) x sizes cs n (k' + 1) c ds t = _
            rw [hstep, hok, if_pos rfl, g3, hb]; rfl
          · rw [hB, runT_app, hr2, hb]; rfl
    · rintro k' j ⟨ds, t⟩ h0 h1 ⟨q1, q2, q3, q4, q5⟩
      dsimp only at q2 q3 q4 q5
      refine ⟨.inl (ds, t), ?_, ds, q2, q3, .inl ⟨t, rfl, ?_, q5⟩⟩
      · show impl_Colouring_extensions_on_ExtensionsByDegree_c1_l0 k (impl_Colouring_extensions_on_ExtensionsByDegree_c1 k) x sizes cs n (k' + 1) j ds t = _
        rw [impl_Colouring_extensions_on_ExtensionsByDegree_c1_l0, if_neg (by simp only [decide_eq_true_eq]; omega)]
      · rw [show x.k.toNat = j.toNat by omega]
        rw [show j.toNat = x.k.toNat by omega] at q4 ⊢
        exact q4

/-! ### The walk for firstExtension_c1 -/
/-! ### The walk for ExtensionList_c1 -/

/-! ### Numbers by degree -/
def cbD (l s : List Int) : Bool × List Int := (true, s.set (l.count 0) (w64 (s.getD (l.count 0) 0 + 1)))
theorem runD_len : ∀ (L : List (List Int)) (s : List Int), (runT cbD L s).2.length = s.length
  | [], s => rfl
  | a :: t, s => by
    rw [runT, if_pos (show (cbD a s).1 = true from rfl), runD_len t]
    simp [cbD]

/-! ### Codes -/
open Classical in
noncomputable def eC (x : Col) (sizes : List Int) : Int := if x.is then (if szOK x sizes then 0 else 2) else 1
open Classical in
noncomputable def eS (x : Col) (sizes : List Int) (lim : Int) : Int := if eC x sizes = 0 then (if avoidsP x sizes then (if lim < x.p then 3 else 0) else 5) else eC x sizes

theorem eC_zero {x : Col} {sizes : List Int} (h : eC x sizes = 0) : x.is ∧ szOK x sizes := by
  unfold eC at h
  split at h
  · split at h
    · exact ⟨by assumption, by assumption⟩
    · omega
  · omega
theorem eS_zero {x : Col} {sizes : List Int} {lim : Int} (h : eS x sizes lim = 0) : x.is ∧ szOK x sizes ∧ avoidsP x sizes ∧ x.p ≤ lim := by
  unfold eS at h
  split at h
  · rename_i h0
    obtain ⟨h1, h2⟩ := eC_zero h0
    split at h
    · split at h
      · omega
      · exact ⟨h1, h2, by assumption, by omega⟩
    · omega
  · exact absurd h (by assumption)
theorem is_range {x : Col} (h : x.is) : (1 ≤ x.p ∧ x.p ≤ 17) ∧ 1 ≤ x.k ∧ x.k ≤ 4 := ⟨h.1, h.2.1⟩

theorem implExt_val {k : Nat} (hk : 5000 ≤ k) (x : Col) (sizes : List Int) (hl : sizes.length ≤ 1000) (lim : Int) : impl_Colouring_extendingCode k x sizes (some true) lim = some (eS x sizes lim) := by
  classical
  unfold impl_Colouring_extendingCode eS eC
  obtain ⟨s1, s2⟩ := sizesCode_val hk x sizes hl true
  by_cases h : x.is
  · obtain ⟨hp, hk4⟩ := is_range h
    by_cases h2 : szOK x sizes
    · have e1 : impl_Colouring_sizesCode k x sizes (some true) = some 0 := by rw [s2 h, if_pos ⟨h2, rfl⟩]
      rw [e1, Option.bind_some, if_neg (by simp), if_pos h, if_pos h2, if_pos rfl, avoids_loop hk x hp sizes h2.2 hl, Option.bind_some]
      by_cases h3 : avoidsP x sizes
      · rw [if_neg (by simpa using h3), if_pos h3]
        by_cases h4 : lim < x.p
        · rw [if_pos (decide_eq_true h4), if_pos h4]
        · rw [if_neg (by simpa using h4), if_neg h4]
      · rw [if_pos (by simpa using h3), if_neg h3]
    · have e1 : impl_Colouring_sizesCode k x sizes (some true) = some 2 := by rw [s2 h, if_neg (fun q => h2 q.1)]
      rw [e1, Option.bind_some, if_pos (by simp), if_pos h, if_neg h2, if_neg (by omega)]
  · rw [s1 h, Option.bind_some, if_pos (by simp), if_neg h, if_neg (by omega)]

/-! ### All extensions -/
def EX (x : Col) (sizes : List Int) : List (List Int) := exts x.k.toNat (okX x sizes) x.p.toNat []

/-! ### Numbers by degree -/
def DG (x : Col) (sizes : List Int) : List Int := (runT cbD (EX x sizes) (List.replicate (x.p.toNat + 1) 0)).2

theorem cbD_val (x : Col) (hp : 1 ≤ x.p ∧ x.p ≤ 16) (k : Nat) (cs s : List Int) (hk : 100 ≤ k) (hcs : cs.length = 17) (hs : s.length = x.p.toNat + 1) :
    impl_ExtensionsByDegree_c1 k cs x.p.toNat s = some ((cbD (cs.take x.p.toNat) s).1, cs, (cbD (cs.take x.p.toNat) s).2) := by
  unfold impl_ExtensionsByDegree_c1
  have hlen : (cs.take x.p.toNat).length = x.p.toNat := by simp; omega
  have hcl := List.count_le_length (a := (0 : Int)) (l := cs.take x.p.toNat)
  have := loopI (f := fun k' j (c : Int) => impl_ExtensionsByDegree_c1_l0 cs x.p.toNat k' c j) (x.p.toNat : Int) 0 (fun j c => j ≤ x.p.toNat ∧ c = (((cs.take j.toNat).count 0 : Nat) : Int)) (fun r => r = (((cs.take x.p.toNat).count 0 : Nat) : Int)) ?_ ?_ k 0 0 (by omega) (by omega) ⟨by omega, by simp⟩
  · obtain ⟨r, e, rfl⟩ := this
    rw [e, Option.bind_some, if_pos ⟨by omega, by omega⟩, if_pos ⟨by omega, by omega⟩, Int.toNat_natCast]
    rfl
  · rintro k' j c h0 h1 ⟨q1, rfl⟩
    left
    obtain ⟨i, rfl⟩ : ∃ i : Nat, j = i := ⟨j.toNat, by omega⟩
    refine ⟨_, ?_, by omega, rfl⟩
    show impl_ExtensionsByDegree_c1_l0 cs x.p.toNat (k' + 1) _ i = _
    have hcl2 := List.count_le_length (a := (0 : Int)) (l := cs.take i)
    have hl2 : (cs.take i).length ≤ 17 := by simp; omega
    rw [impl_ExtensionsByDegree_c1_l0, if_pos (decide_eq_true h1), if_pos ⟨h0, h1, by omega⟩, w64_succ h0 h1 (by omega), Int.toNat_natCast, Nat.zero_add, show ((i : Int) + 1).toNat = i + 1 by omega]
    have hi : i < cs.length := by omega
    rw [List.take_succ_eq_append_getElem hi, List.count_append]
    have hg : cs.getD i 0 = cs[i] := by simp [hi]
    rw [hg]
    by_cases e : cs[i] = 0
    · rw [if_pos (decide_eq_true e), Option.bind_some, w64_id (by omega), e]
      simp
    · rw [if_neg (by simpa using e), Option.bind_some]
      have : List.count 0 [cs[i]] = 0 := by rw [List.count_singleton]; simp [e]
      rw [this]
      simp
  · rintro k' j c h0 h1 ⟨q1, rfl⟩
    refine ⟨(((cs.take x.p.toNat).count 0 : Nat) : Int), ?_, rfl⟩
    show impl_ExtensionsByDegree_c1_l0 cs x.p.toNat (k' + 1) _ j = _
    rw [impl_ExtensionsByDegree_c1_l0, if_neg (by simp only [decide_eq_true_eq]; omega), show j.toNat = x.p.toNat by omega]

def wsum (l : List Int) : Int := l.foldl (fun a b => w64 (a + b)) 0
theorem sum_go (l : List Int) (f : Nat → Int → Int → Option Int) (hf : ∀ k i a, f (k + 1) a i = if decide (i < (l.length : Int)) then (if 0 ≤ i ∧ i < (l.length : Int) then f k (w64 (a + l.getD i.toNat 0)) (w64 (i + 1)) else none) else some a)
    (k : Nat) (hk : l.length + 1 ≤ k) (hl : l.length ≤ 1000) : f k 0 0 = some (wsum l) := by
  have := loopI (f := fun k' i (a : Int) => f k' a i) (l.length : Int) 0 (fun i a => i ≤ l.length ∧ a = wsum (l.take i.toNat)) (fun r => r = wsum l) ?_ ?_ k 0 0 (by omega) (by omega) ⟨by omega, rfl⟩
  · obtain ⟨r, e, rfl⟩ := this
    exact e
  · rintro k' i a h0 h1 ⟨q1, rfl⟩
    left
    refine ⟨_, ?_, by omega, rfl⟩
    show f (k' + 1) _ i = _
    rw [hf, if_pos (decide_eq_true h1), if_pos ⟨h0, h1⟩, w64_succ h0 h1 (by omega), show (i + 1).toNat = i.toNat + 1 by omega, List.take_succ_eq_append_getElem (show i.toNat < l.length by omega)]
    have hg : l.getD i.toNat 0 = l[i.toNat]'(by omega) := by simp [show i.toNat < l.length by omega]
    rw [hg]
    unfold wsum
    rw [List.foldl_append]
    rfl
  · rintro k' i a h0 h1 ⟨q1, rfl⟩
    refine ⟨wsum l, ?_, rfl⟩
    show f (k' + 1) _ i = _
    rw [hf, if_neg (by simp only [decide_eq_true_eq]; omega), show i.toNat = l.length by omega, List.take_length]
theorem implSum_val (l : List Int) (k : Nat) (hk : l.length + 1 ≤ k) (hl : l.length ≤ 1000) : impl_sum k l = some (wsum l) := by
  unfold impl_sum
  rw [sum_go l (fun k a i => impl_sum_l0 l k a i) (fun k i a => by rw [impl_sum_l0]) k hk hl]; rfl
theorem wsum_sum (l : List Int) (h0 : ∀ z ∈ l, 0 ≤ z) (h1 : l.sum ≤ 1099511627776) : wsum l = l.sum := by
  have key : ∀ (l : List Int) (a : Int), (∀ z ∈ l, 0 ≤ z) → 0 ≤ a → a + l.sum ≤ 1099511627776 → l.foldl (fun a b => w64 (a + b)) a = a + l.sum := by
    intro l
    induction l with
    | nil => intro a _ _ _; simp
    | cons b t ih =>
      intro a hz ha hs
      have hb := hz b (by simp)
      have ht : 0 ≤ t.sum := by
        clear ih hs
        induction t with
        | nil => simp
        | cons c t ih2 =>
          have := hz c (by simp)
          have h2 := ih2 (fun z hz2 => hz z (by simp at hz2 ⊢; rcases hz2 with h | h <;> simp [h]))
          rw [List.sum_cons]; omega
      rw [List.sum_cons] at hs ⊢
      rw [List.foldl_cons, w64_id (by omega), ih (a + b) (fun z hz2 => hz z (by simp [hz2])) (by omega) (by omega)]
      omega
  have := key l 0 h0 (by omega) (by omega)
  unfold wsum
  rw [this]; omega

theorem sum_set (y : Int) : ∀ (s : List Int) (i : Nat), i < s.length → (s.set i y).sum = s.sum - s.getD i 0 + y
  | [], i, h => by simp at h
  | a :: t, 0, _ => by simp; omega
  | a :: t, i + 1, h => by
    rw [List.set_cons_succ, List.sum_cons, List.sum_cons, sum_set y t i (by simpa using h)]
    show a + (t.sum - t.getD i 0 + y) = a + t.sum - (a :: t).getD (i + 1) 0 + y
    have : (a :: t).getD (i + 1) 0 = t.getD i 0 := rfl
    rw [this]; omega

theorem runD_sum : ∀ (L : List (List Int)) (s : List Int) (B : Int), (∀ e ∈ L, e.count 0 < s.length) → (∀ v ∈ s, 0 ≤ v ∧ v ≤ B) → 0 ≤ B → B + L.length ≤ 1099511627776 →
    (runT cbD L s).2.sum = s.sum + L.length ∧ ∀ v ∈ (runT cbD L s).2, 0 ≤ v
  | [], s, B, _, h, _, _ => ⟨by simp [runT], fun v hv => (h v hv).1⟩
  | e :: t, s, B, hc, h, hB, hl => by
    have hi := hc e (by simp)
    have hg : s.getD (e.count 0) 0 ∈ s := mem_getD.2 ⟨_, hi, rfl⟩
    have hv := h _ hg
    rw [List.length_cons] at hl
    have hset : cbD e s = (true, s.set (e.count 0) (s.getD (e.count 0) 0 + 1)) := by unfold cbD; rw [w64_id (by omega)]
    rw [runT, if_pos (by rw [hset]), hset]
    have := runD_sum t (s.set (e.count 0) (s.getD (e.count 0) 0 + 1)) (B + 1) (fun e' he => by rw [List.length_set]; exact hc e' (by simp [he])) (fun v hv2 => by
      rcases List.mem_or_eq_of_mem_set hv2 with h2 | rfl
      · have := h v h2; omega
      · omega) (by omega) (by omega)
    obtain ⟨r1, r2⟩ := this
    refine ⟨?_, r2⟩
    dsimp only
    rw [r1, sum_set _ s _ hi, List.length_cons]
    omega

theorem EX_count {x : Col} {sizes : List Int} (hp : 1 ≤ x.p ∧ x.p ≤ 12) (hk4 : 1 ≤ x.k ∧ x.k ≤ 4) : (EX x sizes).length ≤ 16777216 := by
  refine Nat.le_trans (exts_count _ _) ?_
  refine Nat.le_trans (Nat.pow_le_pow_left (show x.k.toNat ≤ 4 by omega) _) ?_
  exact Nat.le_trans (Nat.pow_le_pow_right (by omega) (show x.p.toNat ≤ 12 by omega)) (by decide)
theorem EX_len {x : Col} {sizes : List Int} : ∀ e ∈ EX x sizes, e.length = x.p.toNat := fun e he => by
  have := exts_len _ _ e he
  simpa using this
theorem DG_sum {x : Col} {sizes : List Int} (hp : 1 ≤ x.p ∧ x.p ≤ 12) (hk4 : 1 ≤ x.k ∧ x.k ≤ 4) : wsum (DG x sizes) = ((EX x sizes).length : Int) := by
  have hc := EX_count (sizes := sizes) hp hk4
  obtain ⟨r1, r2⟩ := runD_sum (EX x sizes) (List.replicate (x.p.toNat + 1) 0) 0 (fun e he => by
    have h1 := List.count_le_length (a := (0 : Int)) (l := e)
    have h2 := EX_len e he
    simp; omega) (fun v hv => by have := List.eq_of_mem_replicate hv; omega) (by omega) (by omega)
  have hz : (List.replicate (x.p.toNat + 1) (0 : Int)).sum = 0 := by
    have : ∀ n : Nat, (List.replicate n (0 : Int)).sum = 0 := fun n => by
      induction n with
      | zero => rfl
      | succ n ih => rw [List.replicate_succ, List.sum_cons, ih]; rfl
    exact this _
  rw [hz] at r1
  unfold DG
  rw [wsum_sum _ r2 (by omega), r1]; omega

/-! ### The first one -/
/-! ### Lists -/
/-! ### Closed colourings -/

/-- What a list of extensions went through. -/
theorem exts_ok {K : Nat} {ok : List Int → Nat → Bool} : ∀ (n : Nat) (l e : List Int), e ∈ exts K ok n l → e.take l.length = l ∧ ∀ i, l.length ≤ i → i < e.length → ∃ c : Nat, c < K ∧ e.getD i 0 = (c : Int) ∧ ok (e.take i) c = true := by
  intro n
  induction n with
  | zero =>
    intro l e he
    rw [exts_zero] at he
    simp at he
    subst he
    exact ⟨by simp, fun i h1 h2 => by omega⟩
  | succ n ih =>
    intro l e he
    rw [exts] at he
    obtain ⟨c, hc0, hc⟩ := List.mem_flatMap.1 he
    have hcK := List.mem_range.1 hc0
    split at hc
    · rename_i hok
      obtain ⟨h1, h2⟩ := ih _ e hc
      have hlen : (l ++ [(c : Int)]).length = l.length + 1 := by simp
      rw [hlen] at h1 h2
      have ht : e.take l.length = l := by
        have e3 : (e.take (l.length + 1)).take l.length = (l ++ [(c : Int)]).take l.length := by rw [h1]
        rw [List.take_take, show min l.length (l.length + 1) = l.length by omega] at e3
        rw [e3]; simp
      refine ⟨ht, fun i hi1 hi2 => ?_⟩
      by_cases hi : i = l.length
      · subst hi
        refine ⟨c, hcK, ?_, by rw [ht]; exact hok⟩
        have e3 : (e.take (l.length + 1)).getD l.length 0 = (l ++ [(c : Int)]).getD l.length 0 := by rw [h1]
        have e4 : (e.take (l.length + 1)).getD l.length 0 = e.getD l.length 0 := by simp [List.getD, List.getElem?_take]
        rw [← e4, e3]
        simp [List.getD]
      · exact h2 i (by omega) hi2
    · simp at hc

theorem ir_pair {m : Nat} : (ir 0 m).Pairwise (· < ·) := ir_pw 0 m

/-! ### Whether a list is an extension -/
end Go.Proofs.Ytjcgphgipleccaa
