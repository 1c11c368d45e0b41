/- Plain laws: colourings told by flat lists of their edges' colours, in the order of the edges' numbers. No conditions beyond those that each lemma states. -/
import Derived.Test.YtfnbhfobgimnjaaPureExtF27
set_option linter.unusedVariables false
set_option linter.unusedSimpArgs false
namespace Go.Proofs.Ytfnbhfobgimnjaa
open Go Go.RowKit Ab

theorem getD_out (l : List Int) (i : Nat) (h : l.length ≤ i) : l.getD i 0 = 0 := by simp [List.getD, List.getElem?_eq_none h]

def flC (n : Nat) (K : Int) (l : List Int) : Col := ⟨n, K, B136.ofF fun e => toByte (l.getD e 0)⟩
def inK (K : Int) (l : List Int) : Prop := ∀ z ∈ l, 0 ≤ z ∧ z < K
theorem inK_get {K : Int} {l : List Int} (h : inK K l) (hK : 1 ≤ K) (e : Nat) : 0 ≤ l.getD e 0 ∧ l.getD e 0 < K := by
  by_cases he : e < l.length
  · exact h _ (mem_getD.2 ⟨e, he, rfl⟩)
  · rw [getD_out _ _ (by omega)]; omega
theorem inK_app {K : Int} {l e : List Int} (h : inK K l) (h2 : inK K e) : inK K (l ++ e) := fun z hz => by
  rcases List.mem_append.1 hz with hz | hz
  · exact h z hz
  · exact h2 z hz
theorem flC_get {n : Nat} {K : Int} {l : List Int} {e : Nat} (h : e < 136) : (flC n K l).e.get e = toByte (l.getD e 0) := B136.get_ofF _ _ h
theorem toByte0 : toByte 0 = 0 := by decide
theorem flC_ext {n : Nat} {K : Int} {l l' : List Int} (h : ∀ e, e < 136 → l.getD e 0 = l'.getD e 0) : flC n K l = flC n K l' :=
  Col.ext' rfl rfl (B136.ext_get fun e he => by rw [flC_get he, flC_get he, h e he])
theorem get_app_lt {l e : List Int} {i : Nat} (h : i < l.length) : (l ++ e).getD i 0 = l.getD i 0 := by simp [List.getD, List.getElem?_append, h]
theorem get_app_ge {l e : List Int} {i : Nat} (h : l.length ≤ i) : (l ++ e).getD i 0 = e.getD (i - l.length) 0 := by
  simp [List.getD, List.getElem?_append, show ¬ i < l.length by omega]
theorem flC_set (n : Nat) (K : Int) (l : List Int) (c : Int) (s : Col) (h : l.length < 136) (hs : s = flC n K l ∨ ∃ d : Int, s = flC n K (l ++ [d])) : s.set l.length (toByte c) = flC n K (l ++ [c]) := by
  have key : ∀ l' : List Int, (∀ e, e ≠ l.length → l'.getD e 0 = l.getD e 0) → (flC n K l').set l.length (toByte c) = flC n K (l ++ [c]) := fun l' hl' =>
    Col.ext' rfl rfl (B136.ext_get fun e he => by
      show ((flC n K l').e.set l.length (toByte c)).get e = _
      rw [B136.get_set _ _ _ _ h, flC_get he, flC_get he]
      by_cases q : e = l.length
      · subst q
        rw [if_pos rfl, get_app_ge (Nat.le_refl _)]; simp
      · rw [if_neg q, hl' e q]
        by_cases q2 : e < l.length
        · rw [get_app_lt q2]
        · rw [get_app_ge (by omega), getD_out l e (by omega)]
          congr 1
          have : ¬ e - l.length < 1 := by omega
          rw [getD_out _ _ (by simp; omega)])
  rcases hs with rfl | ⟨d, rfl⟩
  · exact key l fun _ _ => rfl
  · refine key _ fun e he => ?_
    by_cases q2 : e < l.length
    · rw [get_app_lt q2]
    · rw [get_app_ge (by omega), getD_out l e (by omega), getD_out _ _ (by simp; omega)]
theorem flC_zero (n : Nat) (K : Int) (l : List Int) : flC n K (l ++ [0]) = flC n K l := by
  refine flC_ext fun e _ => ?_
  by_cases q2 : e < l.length
  · rw [get_app_lt q2]
  · rw [get_app_ge (by omega), getD_out l e (by omega)]
    by_cases q3 : e - l.length = 0
    · rw [q3]; rfl
    · rw [getD_out _ _ (by simp; omega)]
theorem flC_mk {n : Nat} (hn : n ≤ 17) {K : Int} {l : List Int} (hl : l.length ≤ tri n) : flC n K l = mkC n K (fun a b => l.getD (eN a b) 0) := by
  refine Made.to (g' := fun a b => toByte (l.getD (eN a b) 0)) hn ⟨rfl, rfl, fun a b hab hb => flC_get (eN_136 (by omega) (by omega) (by omega)), fun e he h1 => ?_⟩ fun _ _ _ _ => rfl
  rw [Int.toNat_natCast] at he
  rw [flC_get h1, getD_out _ _ (by omega), toByte0]
theorem flC_start (n : Nat) (K : Int) : (⟨(n : Int), K, B136.zero⟩ : Col) = flC n K [] :=
  Col.ext' rfl rfl (B136.ext_get fun e he => by rw [flC_get he]; show B136.zero.get e = _; rw [B136.get_zero]; exact toByte0.symm)
theorem flC_cc {n : Nat} (hn : n ≤ 17) {K : Int} (hK : 1 ≤ K ∧ K ≤ 4) {l : List Int} (hl : inK K l) {a b : Nat} (hab : a ≠ b) (ha : a < n) (hb : b < n) : (flC n K l).cc a b = l.getD (eN a b) 0 := by
  have h1 := inK_get hl hK.1 (eN a b)
  rw [cc_nat, flC_get (eN_136 hab (by omega) (by omega)), tb_id (by omega)]
theorem flC_is {n : Nat} (h1 : 1 ≤ n) (hn : n ≤ 17) {K : Int} (hK : 1 ≤ K ∧ K ≤ 4) {l : List Int} (hl : inK K l) (hlen : l.length ≤ tri n) : (flC n K l).is := by
  rw [flC_mk hn hlen]
  exact mkC_is h1 hn hK _ fun a b _ _ => inK_get hl hK.1 _
theorem eN_tri {i j : Nat} (h : i < j) : eN i j = tri j + i := by unfold eN tri; rw [if_neg (by omega)]
theorem tri_succ (j : Nat) : tri (j + 1) = tri j + j := by
  unfold tri
  rw [Nat.add_sub_cancel]
  have : (j + 1) * j = j * (j - 1) + j * 2 := by
    cases j with
    | zero => rfl
    | succ j => rw [Nat.add_sub_cancel, ← Nat.mul_add, Nat.mul_comm]
  rw [this, Nat.add_mul_div_right _ _ (by omega)]
theorem tri_mono {a b : Nat} (h : a ≤ b) : tri a ≤ tri b := by
  induction h with
  | refl => exact Nat.le_refl _
  | step h ih => rw [tri_succ]; omega
theorem flC_put {j : Nat} (h1 : 1 ≤ j) (hj : j < 17) {K : Int} (hK : 1 ≤ K ∧ K ≤ 4) {l e : List Int} (hl : inK K l) (hll : l.length = tri j) (hel : e.length = j) : putC (flC j K l) e = flC (j + 1) K (l ++ e) := by
  rw [flC_mk (n := j + 1) (by omega) (by rw [List.length_append, hll, hel, tri_succ]; omega)]
  unfold putC
  show mkC ((j : Int).toNat + 1) K _ = _
  rw [Int.toNat_natCast]
  refine mkC_congr (by omega) K fun a b hab hb => ?_
  show (if (b : Int) = (j : Int) then _ else _) = _
  by_cases q : b = j
  · subst q
    rw [if_pos rfl, eN_tri hab, get_app_ge (by omega), hll, show tri b + a - tri b = a by omega]
  · have : eN a b < l.length := by rw [hll]; exact eN_lt hab (by omega) (by omega)
    rw [if_neg (by omega), flC_cc (by omega) hK hl (by omega) (by omega) (by omega), get_app_lt this]

/-! ### What may go on -/
theorem cl_congr {adj adj' : Int → Int → Bool} : ∀ (l : List Int), (∀ a ∈ l, ∀ b ∈ l, adj a b = adj' a b) → ∀ m, cl adj m l = cl adj' m l := by
  refine len_ind fun l ih h m => ?_
  cases m with
  | zero => rw [cl_zero, cl_zero]
  | succ m =>
    cases l with
    | nil => rw [cl_nil, cl_nil]
    | cons v t =>
      have hf : t.filter (adj v) = t.filter (adj' v) := List.filter_congr fun a ha => h v (by simp) a (by simp [ha])
      rw [cl_cons, cl_cons, hf, ih (t.filter (adj' v)) (flt_lt (adj := adj') v t) (fun a ha b hb => h a (by simp [(List.mem_filter.1 ha).1]) b (by simp [(List.mem_filter.1 hb).1])) m, ih t (by simp) (fun a ha b hb => h a (by simp [ha]) b (by simp [hb])) (m + 1)]

/-- The points before i that go with both points of an edge in a colour. -/
def nearF (x : Col) (i j : Nat) (c : Int) : List Int := (ir 0 i).filter fun p => aB x c p i && aB x c p j
def okF (n : Nat) (K : Int) (sizes l : List Int) (c : Nat) : Bool :=
  decide (cl (aB (flC n K l) c) (sizes.getD c 0 - 2).toNat (nearF (flC n K l) (eLo l.length) (eHi l.length) c) = [])
theorem okF_eq {n : Nat} (hn : n ≤ 17) {K : Int} (hK : 1 ≤ K ∧ K ≤ 4) {sizes l e : List Int} {j c : Nat} (hj1 : 1 ≤ j) (hj : j < n) (hl : inK K l) (he : inK K e) (hll : l.length = tri j) (hel : e.length < j) :
    okF n K sizes (l ++ e) c = okX (flC j K l) sizes e c := by
  have hlen : (l ++ e).length = eN e.length j := by rw [List.length_append, eN_tri hel, hll]
  obtain ⟨p1, p2⟩ := eN_parts j (by omega) e.length hel
  unfold okF okX
  rw [hlen, p1]
  unfold eLo at p2 ⊢
  rw [p1] at p2 ⊢
  rw [p2]
  have hle := inK_app hl he
  have hlow : ∀ a b : Nat, a < j → b < j → aB (flC n K (l ++ e)) c a b = aB (flC j K l) c a b := fun a b ha hb => by
    unfold aB
    by_cases hab : a = b
    · subst hab; simp
    · have hN : eN a b < l.length := by
        rw [hll]
        rcases Nat.lt_or_ge a b with q | q
        · exact eN_lt q hb (by omega)
        · rw [eN_comm]; exact eN_lt (by omega) ha (by omega)
      rw [flC_cc hn hK hle hab (by omega) (by omega), flC_cc (by omega) hK hl hab ha hb, get_app_lt hN]
  have hnear : nearF (flC n K (l ++ e)) e.length j c = nearL (flC j K l) e c := by
    unfold nearF nearL
    refine List.filter_congr fun p hp => ?_
    have hm := mem_ir.1 hp
    obtain ⟨a, rfl⟩ : ∃ a : Nat, p = a := ⟨p.toNat, by omega⟩
    rw [hlow a e.length (by omega) hel, Bool.and_comm, Int.toNat_natCast]
    congr 1
    unfold aB
    rw [flC_cc hn hK hle (by omega) (by omega) (by omega), eN_tri (by omega), get_app_ge (by omega), hll, show tri j + a - tri j = a by omega]
    have : ¬ (a : Int) = (j : Int) := by omega
    simp [this]
  rw [hnear]
  congr 2
  refine cl_congr _ (fun a ha b hb => ?_) _
  have ha2 := mem_ir.1 (List.mem_filter.1 ha).1
  have hb2 := mem_ir.1 (List.mem_filter.1 hb).1
  obtain ⟨a, rfl⟩ : ∃ i : Nat, a = i := ⟨a.toNat, by omega⟩
  obtain ⟨b, rfl⟩ : ∃ i : Nat, b = i := ⟨b.toNat, by omega⟩
  exact hlow a b (by omega) (by omega)

/-- All ways to go on from a flat list of the colours of j points by one point. -/
theorem ext_flat {n : Nat} (hn : n ≤ 17) {K : Int} (hK : 1 ≤ K ∧ K ≤ 4) {sizes l : List Int} {j : Nat} (hj1 : 1 ≤ j) (hj : j < n) (hl : inK K l) (hll : l.length = tri j) :
    exts K.toNat (okF n K sizes) j l = (EX (flC j K l) sizes).map (l ++ ·) := by
  -- only lists of colours matter
  have key : ∀ (d : Nat) (e : List Int), inK K e → e.length + d ≤ j → exts K.toNat (okF n K sizes) d (l ++ e) = (exts K.toNat (okX (flC j K l) sizes) d e).map (l ++ ·) := by
    intro d
    induction d with
    | zero => intro e _ _; rw [exts_zero, exts_zero]; rfl
    | succ d ih =>
      intro e he hd
      rw [exts, exts, List.map_flatMap]
      refine flatMap_cong _ _ _ fun c hc => ?_
      have hcK := List.mem_range.1 hc
      rw [okF_eq hn hK hj1 hj hl he hll (by omega)]
      split
      · rw [List.append_assoc]
        exact ih _ (inK_app he fun z hz => by simp at hz; omega) (by simp; omega)
      · rfl
  have := key j [] (fun z hz => by simp at hz) (by simp)
  rw [List.append_nil] at this
  rw [this]
  unfold EX
  show _ = (exts K.toNat _ (j : Int).toNat []).map _
  rw [Int.toNat_natCast]

theorem tri_lt {a b : Nat} (h1 : 1 ≤ a) (h : a < b) : tri a < tri b := by
  have h2 := tri_mono (show a + 1 ≤ b by omega)
  rw [tri_succ] at h2
  omega
def zOK (K : Int) (sizes : List Int) : Prop := (sizes.length : Int) = K ∧ ∀ z ∈ sizes, 1 ≤ z ∧ z ≤ 17
theorem z_get {K : Int} {sizes : List Int} (h : zOK K sizes) {c : Nat} (hc : (c : Int) < K) : 1 ≤ sizes.getD c 0 ∧ sizes.getD c 0 ≤ 17 ∧ c < sizes.length := by
  have := h.1
  have hl : c < sizes.length := by omega
  have := h.2 _ (mem_getD.2 ⟨c, hl, rfl⟩)
  omega
theorem nearF_inR {x : Col} {i j : Nat} {c : Int} (hi : i ≤ 17) : inR (nearF x i j c) ∧ (nearF x i j c).length ≤ 17 := by
  constructor
  · intro z hz
    have := mem_ir.1 (List.mem_filter.1 hz).1
    omega
  · refine Nat.le_trans (List.length_filter_le _ _) ?_
    rw [ir_length]; omega
/-- A flat list that begins as l does. -/
def Beg (l l' : List Int) : Prop := ∀ e, e < l.length → l'.getD e 0 = l.getD e 0
theorem has_okF {n : Nat} (hn : n ≤ 17) {K : Int} (hK : 1 ≤ K ∧ K ≤ 4) {sizes l l' : List Int} (hz : zOK K sizes) {i j c : Nat} (hij : i < j) (hj : j < n) (hl : inK K l) (hl' : inK K l') (hb : Beg l l') (hll : l.length = tri j + i) (hc : (c : Int) < K) (k : Nat) (hk : 100 ≤ k) :
    impl_Colouring_hasClique k (flC n K l') c (w64 (sizes.getD c 0 - 2)) (nearF (flC n K l') i j c) = some (!okF n K sizes l c) := by
  have hlen : l.length = eN i j := by rw [eN_tri hij, hll]
  obtain ⟨p1, p2⟩ := eN_parts j (by omega) i hij
  have hlow : ∀ a b : Nat, a < b → b < j → aB (flC n K l') c a b = aB (flC n K l) c a b := fun a b hab hb2 => by
    have hN : eN a b < l.length := by
      have := eN_lt hab hb2 (by omega)
      omega
    unfold aB
    rw [flC_cc hn hK hl' (by omega) (by omega) (by omega), flC_cc hn hK hl (by omega) (by omega) (by omega), hb _ hN]
  have hcol : ∀ a : Nat, a < i → aB (flC n K l') c a j = aB (flC n K l) c a j := fun a ha => by
    have hN : eN a j < l.length := by rw [eN_tri (by omega)]; omega
    unfold aB
    rw [flC_cc hn hK hl' (by omega) (by omega) (by omega), flC_cc hn hK hl (by omega) (by omega) (by omega), hb _ hN]
  have hnear : nearF (flC n K l') i j c = nearF (flC n K l) i j c := by
    unfold nearF
    refine List.filter_congr fun p hp => ?_
    have hm := mem_ir.1 hp
    obtain ⟨a, rfl⟩ : ∃ a : Nat, p = a := ⟨p.toNat, by omega⟩
    rw [hlow a i (by omega) hij, hcol a (by omega)]
  have hcl : ∀ m, cl (aB (flC n K l') c) m (nearF (flC n K l) i j c) = cl (aB (flC n K l) c) m (nearF (flC n K l) i j c) := fun m => by
    refine cl_congr _ (fun a ha b hb2 => ?_) m
    have ha2 := mem_ir.1 (List.mem_filter.1 ha).1
    have hb3 := mem_ir.1 (List.mem_filter.1 hb2).1
    obtain ⟨a, rfl⟩ : ∃ i : Nat, a = i := ⟨a.toNat, by omega⟩
    obtain ⟨b, rfl⟩ : ∃ i : Nat, b = i := ⟨b.toNat, by omega⟩
    rcases Nat.lt_trichotomy a b with q | q | q
    · exact hlow a b q (by omega)
    · subst q; unfold aB; simp
    · rw [aB_comm, hlow b a q (by omega), aB_comm]
  have hok : okF n K sizes l c = decide (cl (aB (flC n K l) c) (sizes.getD c 0 - 2).toNat (nearF (flC n K l) i j c) = []) := by
    unfold okF
    rw [hlen, p1]
    unfold eLo at p2 ⊢
    rw [p1] at p2 ⊢
    rw [p2]
  obtain ⟨h1, h2, h3⟩ := z_get hz hc
  obtain ⟨n1, n2⟩ := nearF_inR (x := flC n K l') (i := i) (j := j) (c := c) (by omega)
  rw [w64_id (by omega), hok]
  by_cases h0 : sizes.getD c 0 - 2 ≤ 0
  · rw [hasClique_neg _ c _ _ k (by omega) h0, show (sizes.getD c 0 - 2).toNat = 0 by omega, cl_zero]
    simp
  · obtain ⟨m, hm⟩ : ∃ m : Nat, sizes.getD c 0 - 2 = m := ⟨(sizes.getD c 0 - 2).toNat, by omega⟩
    rw [hm, Int.toNat_natCast, hasClique_val _ c m _ n1 n2 k (by omega), hnear, hcl]
    by_cases e : cl (aB (flC n K l) c) m (nearF (flC n K l) i j c) = [] <;> simp [e]
theorem put_at (x : Col) (c : Int) {i j : Nat} (hij : i < j) (hj : j < 17) : impl_Colouring_put x i j c = some (x.set (eN i j) (toByte c)) := by
  have h := eN_136 (i := i) (j := j) (by omega) (by omega) (by omega)
  unfold impl_Colouring_put
  rw [number_eq i j (by omega) (by omega), Int.toNat_natCast, Int.toNat_natCast, if_pos ⟨by omega, by omega⟩, Int.toNat_natCast]
/-! ### The walk for firstAvoiding_c1 -/
theorem nearV_firstAvoiding_c1 (x : Col) {i j : Nat} (hij : i < j) (hj : j < 17) (c k : Nat) (hk : 20 ≤ k) : impl_avoiding_on_firstAvoiding_c1_l1 i j c x k 0 [] = some (nearF x i j c) := by
  have := loopI (f := fun k' t (s : List Int) => impl_avoiding_on_firstAvoiding_c1_l1 i j c x k' t s) (i : Int) 0 (fun t s => t ≤ i ∧ s = (ir 0 t.toNat).filter fun p => aB x c p i && aB x c p j) (fun s => s = nearF x i j c) ?_ ?_ k 0 [] (by omega) (by omega) ⟨by omega, rfl⟩
  · obtain ⟨s, e, rfl⟩ := this
    exact e
  · rintro k' t s h0 h1 ⟨q1, rfl⟩
    left
    refine ⟨_, ?_, by omega, rfl⟩
    show impl_avoiding_on_firstAvoiding_c1_l1 i j c x (k' + 1) t _ = _
    obtain ⟨a, rfl⟩ : ∃ a : Nat, t = a := ⟨t.toNat, by omega⟩
    rw [impl_avoiding_on_firstAvoiding_c1_l1, if_pos (decide_eq_true h1), joins_val x _ _ _ (by omega) (by omega), joins_val x _ _ _ (by omega) (by omega), w64_succ h0 h1 (by omega), Int.toNat_natCast, show ((a : Int) + 1).toNat = a + 1 by omega]
    have hsp : ir 0 (a + 1) = ir 0 a ++ [(a : Int)] := by
      rw [ir_split (show a ≤ a + 1 by omega)]
      congr 1
      rw [ir_next (show a < a + 1 by omega), ir_end (Nat.le_refl _)]
    rw [hsp, List.filter_append]
    have hll : ((ir 0 a).filter fun p => aB x c p i && aB x c p j).length ≤ 17 := Nat.le_trans (List.length_filter_le _ _) (by rw [ir_length]; omega)
    have key : ∀ b : Bool, (aB x c a i && aB x c a j) = b → [(a : Int)].filter (fun p => aB x c p i && aB x c p j) = if b then [(a : Int)] else [] := fun b hb => by
      rw [List.filter_cons, hb]
      cases b <;> rfl
    cases ha : aB x c a i with
    | true =>
      cases hb : aB x c a j with
      | true =>
        rw [key true (by rw [ha, hb]; rfl), Option.bind_some, if_pos rfl, Option.bind_some, Option.bind_some, if_pos rfl, if_pos (by simp only [List.length_singleton]; omega)]; rfl
      | false =>
        rw [key false (by rw [ha, hb]; rfl), Option.bind_some, if_pos rfl, Option.bind_some, Option.bind_some, if_neg (by simp)]
        simp
    | false =>
      rw [key false (by rw [ha]; rfl), Option.bind_some, if_neg (by simp), Option.bind_some, if_neg (by simp)]
      simp
  · rintro k' t s h0 h1 ⟨q1, rfl⟩
    refine ⟨nearF x i j c, ?_, rfl⟩
    show impl_avoiding_on_firstAvoiding_c1_l1 i j c x (k' + 1) t _ = _
    rw [impl_avoiding_on_firstAvoiding_c1_l1, if_neg (by simp only [decide_eq_true_eq]; omega)]
    unfold nearF
    rw [show t.toNat = i by omega]

theorem runV_firstAvoiding_c1 {n : Nat} (hn1 : 1 ≤ n) (hn : n ≤ 17) {K : Int} (hK : 1 ≤ K ∧ K ≤ 4) {sizes : List Int} (hz : zOK K sizes) :
    ∀ (d : Nat) (l : List Int) (i j : Nat) (s : Col) (k : Nat), l.length + d = tri n → inK K l → 1 ≤ j → tri j + i = l.length → ((i ≤ j ∧ j < n) ∨ (j = n ∧ i = 0)) → 3 * d + 200 ≤ k →
      ∃ X, impl_avoiding_on_firstAvoiding_c1 k (flC n K l) sizes i j s = some ((runT (fun l s => impl_firstAvoiding_c1 (flC n K l) s) (exts K.toNat (okF n K sizes) d l) s).1, X, (runT (fun l s => impl_firstAvoiding_c1 (flC n K l) s) (exts K.toNat (okF n K sizes) d l) s).2) ∧
        ((runT (fun l s => impl_firstAvoiding_c1 (flC n K l) s) (exts K.toNat (okF n K sizes) d l) s).1 = true → X = flC n K l) := by
  intro d
  induction d with
  | zero =>
    intro l i j s k hd hl hj1 hp hc hk
    obtain ⟨k, rfl⟩ : ∃ q, k = q + 1 := ⟨k - 1, by omega⟩
    rw [exts_zero, runT_one]
    have last : ∀ k, impl_avoiding_on_firstAvoiding_c1 (k + 1) (flC n K l) sizes 0 n s = some ((impl_firstAvoiding_c1 (flC n K l) s).1, flC n K l, (impl_firstAvoiding_c1 (flC n K l) s).2) := fun k => by
      rw [impl_avoiding_on_firstAvoiding_c1, impl_avoiding_on_firstAvoiding_c1_body, if_pos (show decide ((flC n K l).p ≤ (n : Int)) = true from decide_eq_true (show (n : Int) ≤ (n : Int) by omega))]
    rcases hc with ⟨h1, h2⟩ | ⟨rfl, rfl⟩
    · have hle := tri_mono (show j + 1 ≤ n by omega)
      rw [tri_succ] at hle
      obtain rfl : i = j := by omega
      have hjn : i + 1 = n := by
        rcases Nat.lt_or_ge (i + 1) n with q | q
        · have := tri_lt (by omega) q
          rw [tri_succ] at this
          omega
        · omega
      obtain ⟨k, rfl⟩ : ∃ q, k = q + 1 := ⟨k - 1, by omega⟩
      refine ⟨flC n K l, ?_, fun _ => rfl⟩
      have hw : w64 ((i : Int) + 1) = (n : Int) := by rw [w64_id (by omega)]; omega
      rw [impl_avoiding_on_firstAvoiding_c1, impl_avoiding_on_firstAvoiding_c1_body, if_neg (by show ¬ decide ((n : Int) ≤ (i : Int)) = true; simp; omega), if_pos (decide_eq_true rfl), hw, last k]
      rfl
    · exact ⟨flC j K l, last k, fun _ => rfl⟩
  | succ d ih =>
    have P : ∀ (l : List Int) (i j : Nat) (s : Col) (k : Nat), l.length + (d + 1) = tri n → inK K l → 1 ≤ j → tri j + i = l.length → i < j → j < n → 3 * d + 201 ≤ k →
      ∃ X, impl_avoiding_on_firstAvoiding_c1 k (flC n K l) sizes i j s = some ((runT (fun l s => impl_firstAvoiding_c1 (flC n K l) s) (exts K.toNat (okF n K sizes) (d + 1) l) s).1, X, (runT (fun l s => impl_firstAvoiding_c1 (flC n K l) s) (exts K.toNat (okF n K sizes) (d + 1) l) s).2) ∧
        ((runT (fun l s => impl_firstAvoiding_c1 (flC n K l) s) (exts K.toNat (okF n K sizes) (d + 1) l) s).1 = true → X = flC n K l) := by
      intro l i j s k hd hl hj1 hp hij hjn hk
      obtain ⟨k, rfl⟩ : ∃ q, k = q + 1 := ⟨k - 1, by omega⟩
      have hlen : l.length = eN i j := by rw [eN_tri hij, hp]
      have hl136 : l.length < 136 := by rw [hlen]; exact eN_136 (by omega) (by omega) (by omega)
      rw [exts_succ]
      generalize hcb : (fun (l : List Int) (s : Col) => impl_firstAvoiding_c1 (flC n K l) s) = cb at *
      have hKn : ((K.toNat : Nat) : Int) = K := by omega
      have := loopI (f := fun k' c (st : Col × Col) => impl_avoiding_on_firstAvoiding_c1_l0 k (impl_avoiding_on_firstAvoiding_c1 k) (flC n K l) sizes i j k' c st.1 st.2) K 0
        (fun c st => c ≤ K ∧ (∃ l', st.1 = flC n K l' ∧ inK K l' ∧ Beg l l' ∧ (l' = l ∨ ∃ d : Int, l' = l ++ [d])) ∧ runT cb (epre K.toNat (okF n K sizes) d l c.toNat) s = (true, st.2))
        (fun r => (∃ X s', r = .inl (X, s') ∧ (X = flC n K l ∨ ∃ d : Int, X = flC n K (l ++ [d])) ∧ runT cb (epre K.toNat (okF n K sizes) d l K.toNat) s = (true, s')) ∨ (∃ X s', r = .inr (false, X, s') ∧ runT cb (epre K.toNat (okF n K sizes) d l K.toNat) s = (false, s'))) ?_ ?_ k 0 (flC n K l, s) (by omega) (by omega) ⟨by omega, ⟨l, rfl, hl, fun _ _ => rfl, .inl rfl⟩, rfl⟩
      · obtain ⟨r, e, h3⟩ := this
        rw [impl_avoiding_on_firstAvoiding_c1, impl_avoiding_on_firstAvoiding_c1_body, if_neg (by show ¬ decide ((n : Int) ≤ (j : Int)) = true; simp; omega), if_neg (by simp only [decide_eq_true_eq]; omega), e]
        rcases h3 with ⟨X, s', rfl, hX, h4⟩ | ⟨X, s', rfl, h4⟩
        · refine ⟨flC n K l, ?_, fun _ => rfl⟩
          rw [h4, Option.bind_some]
          dsimp only
          rw [put_at X 0 hij (by omega), ← hlen, flC_set n K l 0 X hl136 hX, flC_zero]
          rfl
        · exact ⟨X, by rw [h4]; rfl, by rw [h4]; intro h; cases h⟩
      · rintro k' t ⟨X, s2⟩ h0 h1 ⟨q1, ⟨l', q2, q3, q4, q5⟩, q6⟩
        dsimp only at q2 q6
        subst q2
        obtain ⟨c, rfl⟩ : ∃ c : Nat, t = c := ⟨t.toNat, by omega⟩
        rw [Int.toNat_natCast] at q6
        obtain ⟨z1, z2, z3⟩ := z_get hz h1
        have hnear := nearV_firstAvoiding_c1 (flC n K l') hij (by omega) c k (by omega)
        have hhas := has_okF hn hK hz hij hjn hl q3 q4 hp.symm h1 k (by omega)
        obtain ⟨B, hB⟩ := epre_more (K := K.toNat) (ok := okF n K sizes) (n := d) (l := l) (c + 1) (K.toNat - (c + 1))
        rw [show c + 1 + (K.toNat - (c + 1)) = K.toNat by omega] at hB
        have hpre := epre_succ (K := K.toNat) (ok := okF n K sizes) (n := d) (l := l) c
        have hset : (flC n K l').set (eN i j) (toByte (c : Int)) = flC n K (l ++ [(c : Int)]) := by
          rw [← hlen]
          refine flC_set n K l c _ hl136 ?_
          rcases q5 with rfl | ⟨d, rfl⟩
          · exact .inl rfl
          · exact .inr ⟨d, rfl⟩
        have hw : w64 ((i : Int) + 1) = ((i + 1 : Nat) : Int) := by rw [w64_id (by omega)]; omega
        have hstep : impl_avoiding_on_firstAvoiding_c1_l0 k (impl_avoiding_on_firstAvoiding_c1 k) (flC n K l) sizes i j (k' + 1) c (flC n K l') s2 = if okF n K sizes l c then (impl_avoiding_on_firstAvoiding_c1 k (flC n K (l ++ [(c : Int)])) sizes ((i + 1 : Nat) : Int) j s2).bind fun r => (if r.1 then impl_avoiding_on_firstAvoiding_c1_l0 k (impl_avoiding_on_firstAvoiding_c1 k) (flC n K l) sizes i j k' ((c : Int) + 1) r.2.1 r.2.2 else some (.inr (false, r.2.1, r.2.2))) else impl_avoiding_on_firstAvoiding_c1_l0 k (impl_avoiding_on_firstAvoiding_c1 k) (flC n K l) sizes i j k' ((c : Int) + 1) (flC n K l') s2 := by
          rw [impl_avoiding_on_firstAvoiding_c1_l0, if_pos (show decide ((c : Int) < (flC n K l).k) = true from decide_eq_true h1), hnear, Option.bind_some, if_pos ⟨h0, by omega⟩, Int.toNat_natCast, hhas, Option.bind_some, w64_succ h0 h1 (by omega), put_at _ _ hij (by omega), Option.bind_some, hset, hw]
          cases okF n K sizes l c with
          | false => rfl
          | true =>
            simp only [Bool.not_true, Bool.false_eq_true, if_false, if_true]
            cases impl_avoiding_on_firstAvoiding_c1 k (flC n K (l ++ [(c : Int)])) sizes ((i + 1 : Nat) : Int) j s2 with
            | none => rfl
            | some r => cases hr : r.1 <;> simp [hr]
        cases hok : okF n K sizes l c with
        | false =>
          left
          refine ⟨(flC n K l', s2), ?_, by omega, ⟨l', rfl, q3, q4, q5⟩, ?_⟩
          · show impl_avoiding_on_firstAvoiding_c1_l0 k (impl_avoiding_on_firstAvoiding_c1 k) (flC n K l) sizes i j (k' + 1) c (flC n K l') s2 = _
            rw [hstep, hok]; rfl
          · rw [show ((c : Int) + 1).toNat = c + 1 by omega, hpre]
            unfold esub
            rw [hok, if_neg (by simp), List.append_nil]
            exact q6
        | true =>
          have hin : inK K (l ++ [(c : Int)]) := inK_app hl fun z hz => by simp at hz; omega
          obtain ⟨Y, g3, g4⟩ := ih (l ++ [(c : Int)]) (i + 1) j s2 k (by simp; omega) hin hj1 (by simp; omega) (.inl ⟨by omega, hjn⟩) (by omega)
          have hsub : esub K.toNat (okF n K sizes) d l c = exts K.toNat (okF n K sizes) d (l ++ [(c : Int)]) := by unfold esub; rw [hok, if_pos rfl]
          have hr2 : runT cb (epre K.toNat (okF n K sizes) d l (c + 1)) s = runT cb (exts K.toNat (okF n K sizes) d (l ++ [(c : Int)])) s2 := by
            rw [hpre, runT_app, q6, hsub]; rfl
          cases hb : (runT cb (exts K.toNat (okF n K sizes) d (l ++ [(c : Int)])) s2).1 with
          | true =>
            left
            have hY := g4 hb
            subst hY
            refine ⟨(flC n K (l ++ [(c : Int)]), (runT cb (exts K.toNat (okF n K sizes) d (l ++ [(c : Int)])) s2).2), ?_, by omega, ⟨_, rfl, hin, fun e he => get_app_lt he, .inr ⟨c, rfl⟩⟩, ?_⟩
            · show impl_avoiding_on_firstAvoiding_c1_l0 k (impl_avoiding_on_firstAvoiding_c1 k) (flC n K l) sizes i j (k' + 1) c (flC n K l') s2 = _
              rw [hstep, hok, if_pos rfl, g3, hb]; rfl
            · rw [show ((c : Int) + 1).toNat = c + 1 by omega, hr2, ← hb]
          | false =>
            right
            refine ⟨.inr (false, Y, (runT cb (exts K.toNat (okF n K sizes) d (l ++ [(c : Int)])) s2).2), ?_, .inr ⟨Y, _, rfl, ?_⟩⟩
            · show impl_avoiding_on_firstAvoiding_c1_l0 k (impl_avoiding_on_firstAvoiding_c1 k) (flC n K l) sizes i j (k' + 1) c (flC n K l') s2 = _
              rw [hstep, hok, if_pos rfl, g3, hb]; rfl
            · rw [hB, runT_app, hr2, hb]; rfl
      · rintro k' t ⟨X, s2⟩ h0 h1 ⟨q1, ⟨l', q2, q3, q4, q5⟩, q6⟩
        dsimp only at q2 q6
        subst q2
        refine ⟨.inl (flC n K l', s2), ?_, .inl ⟨_, s2, rfl, ?_, ?_⟩⟩
        · show impl_avoiding_on_firstAvoiding_c1_l0 k (impl_avoiding_on_firstAvoiding_c1 k) (flC n K l) sizes i j (k' + 1) t (flC n K l') s2 = _
          rw [impl_avoiding_on_firstAvoiding_c1_l0, if_neg (by show ¬ decide (t < K) = true; simp; omega)]
        · rcases q5 with rfl | ⟨d, rfl⟩
          · exact .inl rfl
          · exact .inr ⟨d, rfl⟩
        · rw [show t.toNat = K.toNat by omega] at q6
          exact q6
    intro l i j s k hd hl hj1 hp hc hk
    rcases hc with ⟨h1, h2⟩ | ⟨rfl, rfl⟩
    · rcases Nat.lt_or_ge i j with q | q
      · exact P l i j s k hd hl hj1 hp q h2 (by omega)
      · obtain rfl : i = j := by omega
        obtain ⟨k, rfl⟩ : ∃ q, k = q + 1 := ⟨k - 1, by omega⟩
        have hjn : i + 1 < n := by
          rcases Nat.lt_or_ge (i + 1) n with q | q
          · exact q
          · have := tri_succ i
            rw [show i + 1 = n by omega] at this
            omega
        obtain ⟨X, e, hX⟩ := P l 0 (i + 1) s k hd hl (by omega) (by rw [tri_succ]; omega) (by omega) hjn (by omega)
        refine ⟨X, ?_, hX⟩
        have hw : w64 ((i : Int) + 1) = ((i + 1 : Nat) : Int) := by rw [w64_id (by omega)]; omega
        rw [impl_avoiding_on_firstAvoiding_c1, impl_avoiding_on_firstAvoiding_c1_body, if_neg (by show ¬ decide ((n : Int) ≤ (i : Int)) = true; simp; omega), if_pos (decide_eq_true rfl), hw]
        rw [show ((0 : Nat) : Int) = 0 from rfl] at e
        rw [e]; rfl
    · omega

/-! ### The walk for CountAvoiding_c1 -/
theorem nearV_CountAvoiding_c1 (x : Col) {i j : Nat} (hij : i < j) (hj : j < 17) (c k : Nat) (hk : 20 ≤ k) : impl_avoiding_on_CountAvoiding_c1_l1 i j c x k 0 [] = some (nearF x i j c) := by
  have := loopI (f := fun k' t (s : List Int) => impl_avoiding_on_CountAvoiding_c1_l1 i j c x k' t s) (i : Int) 0 (fun t s => t ≤ i ∧ s = (ir 0 t.toNat).filter fun p => aB x c p i && aB x c p j) (fun s => s = nearF x i j c) ?_ ?_ k 0 [] (by omega) (by omega) ⟨by omega, rfl⟩
  · obtain ⟨s, e, rfl⟩ := this
    exact e
  · rintro k' t s h0 h1 ⟨q1, rfl⟩
    left
    refine ⟨_, ?_, by omega, rfl⟩
    show impl_avoiding_on_CountAvoiding_c1_l1 i j c x (k' + 1) t _ = _
    obtain ⟨a, rfl⟩ : ∃ a : Nat, t = a := ⟨t.toNat, by omega⟩
    rw [impl_avoiding_on_CountAvoiding_c1_l1, if_pos (decide_eq_true h1), joins_val x _ _ _ (by omega) (by omega), joins_val x _ _ _ (by omega) (by omega), w64_succ h0 h1 (by omega), Int.toNat_natCast, show ((a : Int) + 1).toNat = a + 1 by omega]
    have hsp : ir 0 (a + 1) = ir 0 a ++ [(a : Int)] := by
      rw [ir_split (show a ≤ a + 1 by omega)]
      congr 1
      rw [ir_next (show a < a + 1 by omega), ir_end (Nat.le_refl _)]
    rw [hsp, List.filter_append]
    have hll : ((ir 0 a).filter fun p => aB x c p i && aB x c p j).length ≤ 17 := Nat.le_trans (List.length_filter_le _ _) (by rw [ir_length]; omega)
    have key : ∀ b : Bool, (aB x c a i && aB x c a j) = b → [(a : Int)].filter (fun p => aB x c p i && aB x c p j) = if b then [(a : Int)] else [] := fun b hb => by
      rw [List.filter_cons, hb]
      cases b <;> rfl
    cases ha : aB x c a i with
    | true =>
      cases hb : aB x c a j with
      | true =>
        rw [key true (by rw [ha, hb]; rfl), Option.bind_some, if_pos rfl, Option.bind_some, Option.bind_some, if_pos rfl, if_pos (by simp only [List.length_singleton]; omega)]; rfl
      | false =>
        rw [key false (by rw [ha, hb]; rfl), Option.bind_some, if_pos rfl, Option.bind_some, Option.bind_some, if_neg (by simp)]
        simp
    | false =>
      rw [key false (by rw [ha]; rfl), Option.bind_some, if_neg (by simp), Option.bind_some, if_neg (by simp)]
      simp
  · rintro k' t s h0 h1 ⟨q1, rfl⟩
    refine ⟨nearF x i j c, ?_, rfl⟩
    show impl_avoiding_on_CountAvoiding_c1_l1 i j c x (k' + 1) t _ = _
    rw [impl_avoiding_on_CountAvoiding_c1_l1, if_neg (by simp only [decide_eq_true_eq]; omega)]
    unfold nearF
    rw [show t.toNat = i by omega]

theorem runV_CountAvoiding_c1 {n : Nat} (hn1 : 1 ≤ n) (hn : n ≤ 17) {K : Int} (hK : 1 ≤ K ∧ K ≤ 4) {sizes : List Int} (hz : zOK K sizes) :
    ∀ (d : Nat) (l : List Int) (i j : Nat) (s : Int) (k : Nat), l.length + d = tri n → inK K l → 1 ≤ j → tri j + i = l.length → ((i ≤ j ∧ j < n) ∨ (j = n ∧ i = 0)) → 3 * d + 200 ≤ k →
      ∃ X, impl_avoiding_on_CountAvoiding_c1 k (flC n K l) sizes i j s = some ((runT (fun l s => impl_CountAvoiding_c1 (flC n K l) s) (exts K.toNat (okF n K sizes) d l) s).1, X, (runT (fun l s => impl_CountAvoiding_c1 (flC n K l) s) (exts K.toNat (okF n K sizes) d l) s).2) ∧
        ((runT (fun l s => impl_CountAvoiding_c1 (flC n K l) s) (exts K.toNat (okF n K sizes) d l) s).1 = true → X = flC n K l) := by
  intro d
  induction d with
  | zero =>
    intro l i j s k hd hl hj1 hp hc hk
    obtain ⟨k, rfl⟩ : ∃ q, k = q + 1 := ⟨k - 1, by omega⟩
    rw [exts_zero, runT_one]
    have last : ∀ k, impl_avoiding_on_CountAvoiding_c1 (k + 1) (flC n K l) sizes 0 n s = some ((impl_CountAvoiding_c1 (flC n K l) s).1, flC n K l, (impl_CountAvoiding_c1 (flC n K l) s).2) := fun k => by
      rw [impl_avoiding_on_CountAvoiding_c1, impl_avoiding_on_CountAvoiding_c1_body, if_pos (show decide ((flC n K l).p ≤ (n : Int)) = true from decide_eq_true (show (n : Int) ≤ (n : Int) by omega))]
    rcases hc with ⟨h1, h2⟩ | ⟨rfl, rfl⟩
    · have hle := tri_mono (show j + 1 ≤ n by omega)
      rw [tri_succ] at hle
      obtain rfl : i = j := by omega
      have hjn : i + 1 = n := by
        rcases Nat.lt_or_ge (i + 1) n with q | q
        · have := tri_lt (by omega) q
          rw [tri_succ] at this
          omega
        · omega
      obtain ⟨k, rfl⟩ : ∃ q, k = q + 1 := ⟨k - 1, by omega⟩
      refine ⟨flC n K l, ?_, fun _ => rfl⟩
      have hw : w64 ((i : Int) + 1) = (n : Int) := by rw [w64_id (by omega)]; omega
      rw [impl_avoiding_on_CountAvoiding_c1, impl_avoiding_on_CountAvoiding_c1_body, if_neg (by show ¬ decide ((n : Int) ≤ (i : Int)) = true; simp; omega), if_pos (decide_eq_true rfl), hw, last k]
      rfl
    · exact ⟨flC j K l, last k, fun _ => rfl⟩
  | succ d ih =>
    have P : ∀ (l : List Int) (i j : Nat) (s : Int) (k : Nat), l.length + (d + 1) = tri n → inK K l → 1 ≤ j → tri j + i = l.length → i < j → j < n → 3 * d + 201 ≤ k →
      ∃ X, impl_avoiding_on_CountAvoiding_c1 k (flC n K l) sizes i j s = some ((runT (fun l s => impl_CountAvoiding_c1 (flC n K l) s) (exts K.toNat (okF n K sizes) (d + 1) l) s).1, X, (runT (fun l s => impl_CountAvoiding_c1 (flC n K l) s) (exts K.toNat (okF n K sizes) (d + 1) l) s).2) ∧
        ((runT (fun l s => impl_CountAvoiding_c1 (flC n K l) s) (exts K.toNat (okF n K sizes) (d + 1) l) s).1 = true → X = flC n K l) := by
      intro l i j s k hd hl hj1 hp hij hjn hk
      obtain ⟨k, rfl⟩ : ∃ q, k = q + 1 := ⟨k - 1, by omega⟩
      have hlen : l.length = eN i j := by rw [eN_tri hij, hp]
      have hl136 : l.length < 136 := by rw [hlen]; exact eN_136 (by omega) (by omega) (by omega)
      rw [exts_succ]
      generalize hcb : (fun (l : List Int) (s : Int) => impl_CountAvoiding_c1 (flC n K l) s) = cb at *
      have hKn : ((K.toNat : Nat) : Int) = K := by omega
      have := loopI (f := fun k' c (st : Col × Int) => impl_avoiding_on_CountAvoiding_c1_l0 k (impl_avoiding_on_CountAvoiding_c1 k) (flC n K l) sizes i j k' c st.1 st.2) K 0
        (fun c st => c ≤ K ∧ (∃ l', st.1 = flC n K l' ∧ inK K l' ∧ Beg l l' ∧ (l' = l ∨ ∃ d : Int, l' = l ++ [d])) ∧ runT cb (epre K.toNat (okF n K sizes) d l c.toNat) s = (true, st.2))
        (fun r => (∃ X s', r = .inl (X, s') ∧ (X = flC n K l ∨ ∃ d : Int, X = flC n K (l ++ [d])) ∧ runT cb (epre K.toNat (okF n K sizes) d l K.toNat) s = (true, s')) ∨ (∃ X s', r = .inr (false, X, s') ∧ runT cb (epre K.toNat (okF n K sizes) d l K.toNat) s = (false, s'))) ?_ ?_ k 0 (flC n K l, s) (by omega) (by omega) ⟨by omega, ⟨l, rfl, hl, fun _ _ => rfl, .inl rfl⟩, rfl⟩
      · obtain ⟨r, e, h3⟩ := this
        rw [impl_avoiding_on_CountAvoiding_c1, impl_avoiding_on_CountAvoiding_c1_body, if_neg (by show ¬ decide ((n : Int) ≤ (j : Int)) = true; simp; omega), if_neg (by simp only [decide_eq_true_eq]; omega), e]
        rcases h3 with ⟨X, s', rfl, hX, h4⟩ | ⟨X, s', rfl, h4⟩
        · refine ⟨flC n K l, ?_, fun _ => rfl⟩
          rw [h4, Option.bind_some]
          dsimp only
          rw [put_at X 0 hij (by omega), ← hlen, flC_set n K l 0 X hl136 hX, flC_zero]
          rfl
        · exact ⟨X, by rw [h4]; rfl, by rw [h4]; intro h; cases h⟩
      · rintro k' t ⟨X, s2⟩ h0 h1 ⟨q1, ⟨l', q2, q3, q4, q5⟩, q6⟩
        dsimp only at q2 q6
        subst q2
        obtain ⟨c, rfl⟩ : ∃ c : Nat, t = c := ⟨t.toNat, by omega⟩
        rw [Int.toNat_natCast] at q6
        obtain ⟨z1, z2, z3⟩ := z_get hz h1
        have hnear := nearV_CountAvoiding_c1 (flC n K l') hij (by omega) c k (by omega)
        have hhas := has_okF hn hK hz hij hjn hl q3 q4 hp.symm h1 k (by omega)
        obtain ⟨B, hB⟩ := epre_more (K := K.toNat) (ok := okF n K sizes) (n := d) (l := l) (c + 1) (K.toNat - (c + 1))
        rw [show c + 1 + (K.toNat - (c + 1)) = K.toNat by omega] at hB
        have hpre := epre_succ (K := K.toNat) (ok := okF n K sizes) (n := d) (l := l) c
        have hset : (flC n K l').set (eN i j) (toByte (c : Int)) = flC n K (l ++ [(c : Int)]) := by
          rw [← hlen]
          refine flC_set n K l c _ hl136 ?_
          rcases q5 with rfl | ⟨d, rfl⟩
          · exact .inl rfl
          · exact .inr ⟨d, rfl⟩
        have hw : w64 ((i : Int) + 1) = ((i + 1 : Nat) : Int) := by rw [w64_id (by omega)]; omega
        have hstep : impl_avoiding_on_CountAvoiding_c1_l0 k (impl_avoiding_on_CountAvoiding_c1 k) (flC n K l) sizes i j (k' + 1) c (flC n K l') s2 = if okF n K sizes l c then (impl_avoiding_on_CountAvoiding_c1 k (flC n K (l ++ [(c : Int)])) sizes ((i + 1 : Nat) : Int) j s2).bind fun r => (if r.1 then impl_avoiding_on_CountAvoiding_c1_l0 k (impl_avoiding_on_CountAvoiding_c1 k) (flC n K l) sizes i j k' ((c : Int) + 1) r.2.1 r.2.2 else some (.inr (false, r.2.1, r.2.2))) else impl_avoiding_on_CountAvoiding_c1_l0 k (impl_avoiding_on_CountAvoiding_c1 k) (flC n K l) sizes i j k' ((c : Int) + 1) (flC n K l') s2 := by
          rw [impl_avoiding_on_CountAvoiding_c1_l0, if_pos (show decide ((c : Int) < (flC n K l).k) = true from decide_eq_true h1), hnear, Option.bind_some, if_pos ⟨h0, by omega⟩, Int.toNat_natCast, hhas, Option.bind_some, w64_succ h0 h1 (by omega), put_at _ _ hij (by omega), Option.bind_some, hset, hw]
          cases okF n K sizes l c with
          | false => rfl
          | true =>
            simp only [Bool.not_true, Bool.false_eq_true, if_false, if_true]
            cases impl_avoiding_on_CountAvoiding_c1 k (flC n K (l ++ [(c : Int)])) sizes ((i + 1 : Nat) : Int) j s2 with
            | none => rfl
            | some r => cases hr : r.1 <;> simp [hr]
        cases hok : okF n K sizes l c with
        | false =>
          left
          refine ⟨(flC n K l', s2), ?_, by omega, ⟨l', rfl, q3, q4, q5⟩, ?_⟩
          · show impl_avoiding_on_CountAvoiding_c1_l0 k (impl_avoiding_on_CountAvoiding_c1 k) (flC n K l) sizes i j (k' + 1) c (flC n K l') s2 = _
            rw [hstep, hok]; rfl
          · rw [show ((c : Int) + 1).toNat = c + 1 by omega, hpre]
            unfold esub
            rw [hok, if_neg (by simp), List.append_nil]
            exact q6
        | true =>
          have hin : inK K (l ++ [(c : Int)]) := inK_app hl fun z hz => by simp at hz; omega
          obtain ⟨Y, g3, g4⟩ := ih (l ++ [(c : Int)]) (i + 1) j s2 k (by simp; omega) hin hj1 (by simp; omega) (.inl ⟨by omega, hjn⟩) (by omega)
          have hsub : esub K.toNat (okF n K sizes) d l c = exts K.toNat (okF n K sizes) d (l ++ [(c : Int)]) := by unfold esub; rw [hok, if_pos rfl]
          have hr2 : runT cb (epre K.toNat (okF n K sizes) d l (c + 1)) s = runT cb (exts K.toNat (okF n K sizes) d (l ++ [(c : Int)])) s2 := by
            rw [hpre, runT_app, q6, hsub]; rfl
          cases hb : (runT cb (exts K.toNat (okF n K sizes) d (l ++ [(c : Int)])) s2).1 with
          | true =>
            left
            have hY := g4 hb
            subst hY
            refine ⟨(flC n K (l ++ [(c : Int)]), (runT cb (exts K.toNat (okF n K sizes) d (l ++ [(c : Int)])) s2).2), ?_, by omega, ⟨_, rfl, hin, fun e he => get_app_lt he, .inr ⟨c, rfl⟩⟩, ?_⟩
            · show impl_avoiding_on_CountAvoiding_c1_l0 k (impl_avoiding_on_CountAvoiding_c1 k) (flC n K l) sizes i j (k' + 1) c (flC n K l') s2 = _
              rw [hstep, hok, if_pos rfl, g3, hb]; rfl
            · rw [show ((c : Int) + 1).toNat = c + 1 by omega, hr2, ← hb]
          | false =>
            right
            refine ⟨.inr (false, Y, (runT cb (exts K.toNat (okF n K sizes) d (l ++ [(c : Int)])) s2).2), ?_, .inr ⟨Y, _, rfl, ?_⟩⟩
            · show impl_avoiding_on_CountAvoiding_c1_l0 k (impl_avoiding_on_CountAvoiding_c1 k) (flC n K l) sizes i j (k' + 1) c (flC n K l') s2 = _
              rw [hstep, hok, if_pos rfl, g3, hb]; rfl
            · rw [hB, runT_app, hr2, hb]; rfl
      · rintro k' t ⟨X, s2⟩ h0 h1 ⟨q1, ⟨l', q2, q3, q4, q5⟩, q6⟩
        dsimp only at q2 q6
        subst q2
        refine ⟨.inl (flC n K l', s2), ?_, .inl ⟨_, s2, rfl, ?_, ?_⟩⟩
        · show impl_avoiding_on_CountAvoiding_c1_l0 k (impl_avoiding_on_CountAvoiding_c1 k) (flC n K l) sizes i j (k' + 1) t (flC n K l') s2 = _
          rw [impl_avoiding_on_CountAvoiding_c1_l0, if_neg (by show ¬ decide (t < K) = true; simp; omega)]
        · rcases q5 with rfl | ⟨d, rfl⟩
          · exact .inl rfl
          · exact .inr ⟨d, rfl⟩
        · rw [show t.toNat = K.toNat by omega] at q6
          exact q6
    intro l i j s k hd hl hj1 hp hc hk
    rcases hc with ⟨h1, h2⟩ | ⟨rfl, rfl⟩
    · rcases Nat.lt_or_ge i j with q | q
      · exact P l i j s k hd hl hj1 hp q h2 (by omega)
      · obtain rfl : i = j := by omega
        obtain ⟨k, rfl⟩ : ∃ q, k = q + 1 := ⟨k - 1, by omega⟩
        have hjn : i + 1 < n := by
          rcases Nat.lt_or_ge (i + 1) n with q | q
          · exact q
          · have := tri_succ i
            rw [show i + 1 = n by omega] at this
            omega
        obtain ⟨X, e, hX⟩ := P l 0 (i + 1) s k hd hl (by omega) (by rw [tri_succ]; omega) (by omega) hjn (by omega)
        refine ⟨X, ?_, hX⟩
        have hw : w64 ((i : Int) + 1) = ((i + 1 : Nat) : Int) := by rw [w64_id (by omega)]; omega
        rw [impl_avoiding_on_CountAvoiding_c1, impl_avoiding_on_CountAvoiding_c1_body, if_neg (by show ¬ decide ((n : Int) ≤ (i : Int)) = true; simp; omega), if_pos (decide_eq_true rfl), hw]
        rw [show ((0 : Nat) : Int) = 0 from rfl] at e
        rw [e]; rfl
    · omega

end Go.Proofs.Ytfnbhfobgimnjaa
