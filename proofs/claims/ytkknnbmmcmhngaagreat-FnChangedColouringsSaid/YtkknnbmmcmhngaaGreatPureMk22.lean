/- Plain laws: values of the functions that make colourings. No conditions beyond those that each lemma states. -/
import Derived.Test.YtkknnbmmcmhngaaGreatPureCore22
set_option linter.unusedVariables false
set_option linter.unusedSimpArgs false
namespace Go.Proofs.YtkknnbmmcmhngaaGreat
open Go Go.RowKit Ab

theorem tb (u : UInt8) : toByte (u.toNat : Int) = u := by
  have := u.toNat_lt
  unfold toByte
  rw [Int.emod_eq_of_lt (by omega) (by omega), Int.toNat_natCast]
  exact UInt8.ofNat_toNat
theorem tb_id {n : Int} (h : 0 ≤ n ∧ n < 256) : ((toByte n).toNat : Int) = n := by
  unfold toByte
  rw [Int.emod_eq_of_lt h.1 h.2]
  simp
  omega
theorem cc_nat (x : Col) (a b : Nat) : x.cc a b = ((x.e.get (eN a b)).toNat : Int) := by
  unfold Col.cc; simp only [Int.toNat_natCast]

/-- A colouring is told by its colours. -/
theorem is_mk {x : Col} (h : x.is) : x = mkC x.p.toNat x.k (fun a b => x.cc a b) := by
  have hp := h.1
  have hz : ((x.p.toNat : Nat) : Int) = x.p := by omega
  refine Made.to (g' := fun a b => x.e.get (eN a b)) (by omega) ⟨hz.symm, rfl, fun a b _ _ => rfl, fun e he h1 => is_zero h (by rw [Int.toNat_natCast] at he; exact he) h1⟩ fun a b _ _ => ?_
  rw [cc_nat, tb]
theorem mkC_cc {n : Nat} (hn : n ≤ 17) (k : Int) (g : Nat → Nat → Int) {a b : Nat} (hab : a < b) (hb : b < n) (hg : 0 ≤ g a b ∧ g a b < 256) : (mkC n k g).cc a b = g a b := by
  rw [cc_nat, mkC_get hn k g hab hb, tb_id hg]
theorem mkC_is {n : Nat} (h1 : 1 ≤ n) (hn : n ≤ 17) {k : Int} (hk : 1 ≤ k ∧ k ≤ 4) (g : Nat → Nat → Int) (hg : ∀ a b : Nat, a < b → b < n → 0 ≤ g a b ∧ g a b < k) : (mkC n k g).is := by
  have hm := mkC_made hn k g
  refine ⟨by show 1 ≤ (n : Int) ∧ (n : Int) ≤ 17; omega, hk, fun j h0 h136 => ?_⟩
  obtain ⟨e, rfl⟩ := nat_of h0
  have ht : tE (mkC n k g) = (tri n : Int) := by
    rw [tE_tri _ (by show 1 ≤ (n : Int) ∧ (n : Int) ≤ 17; omega)]
    rfl
  refine ⟨fun h => ?_, fun h => ?_⟩
  · rw [ht] at h
    obtain ⟨j, hj, i, hi, rfl⟩ := eN_surj hn (show e < tri n by omega)
    show (((mkC n k g).e.get ((eN i j : Nat) : Int).toNat).toNat : Int) < k
    rw [Int.toNat_natCast, mkC_get hn k g hi hj, tb_id (by have := hg i j hi hj; omega)]
    exact (hg i j hi hj).2
  · rw [ht] at h
    have := hm.z e (by simpa using (show tri n ≤ e by omega)) (by omega)
    show (((mkC n k g).e.get ((e : Nat) : Int).toNat).toNat : Int) = 0
    rw [Int.toNat_natCast, this]; rfl
theorem is_cc {x : Col} (h : x.is) {a b : Nat} (ha : (a : Int) < x.p) (hb : (b : Int) < x.p) (hab : a ≠ b) : 0 ≤ x.cc a b ∧ x.cc a b < x.k := by
  have hp := h.1
  rw [cc_nat]
  refine ⟨by omega, is_lt h ?_⟩
  rcases Nat.lt_or_ge a b with q | q
  · exact eN_lt q (by omega) (by omega)
  · rw [eN_comm]; exact eN_lt (by omega) (by omega) (by omega)
theorem toN {x : Col} (h : 1 ≤ x.p ∧ x.p ≤ 17) : ((x.p.toNat : Nat) : Int) = x.p := by omega

theorem made_val {k n : Nat} {c : Int} {f : Int → Int → Option Int} {g : Nat → Nat → Int} (hn : n ≤ 17) (hk : 19 ≤ k) (hf : ∀ i j : Nat, i < j → j < n → f i j = some (g i j)) : impl_made k n c f = some (mkC n c g) := by
  obtain ⟨y, e, m⟩ := made_eq f n (by omega) (by omega) g (fun i j hij hj => hf i j hij (by omega)) c k hk
  rw [e]
  exact congrArg some (Made.to hn m fun _ _ _ _ => rfl)

/-! ### Parts -/
def okL (x : Col) (l : List Int) : Prop := l.length ≤ 17 ∧ (∀ a : Nat, a < l.length → 0 ≤ l.getD a 0 ∧ l.getD a 0 < x.p) ∧ ∀ a b : Nat, a < b → b < l.length → l.getD a 0 ≠ l.getD b 0
def partC (x : Col) (l : List Int) : Col := mkC l.length x.k (fun a b => x.cc (l.getD a 0) (l.getD b 0))
theorem part_val {k : Nat} {x : Col} (hp : 1 ≤ x.p ∧ x.p ≤ 17) {l : List Int} (h : okL x l) (hk : 19 ≤ k) : impl_Colouring_part k x l = some (partC x l) := by
  unfold impl_Colouring_part impl_size
  rw [made_val (g := fun a b => x.cc (l.getD a 0) (l.getD b 0)) h.1 hk fun i j hij hj => by
    have h1 := h.2.1 i (by omega)
    have h2 := h.2.1 j (by omega)
    have h3 := h.2.2 i j hij hj
    unfold impl_Colouring_part_c1
    rw [if_pos (by omega), if_pos (by omega)]
    simp only [Int.toNat_natCast]
    rw [implAt_ne x _ _ h1.1 (by omega) h2.1 (by omega) h3]
    rfl]
  rfl
theorem specPart_val {k : Nat} {x : Col} (hp : 1 ≤ x.p ∧ x.p ≤ 17) {l : List Int} (h : okL x l) (h0 : 1 ≤ l.length) (hk : 19 ≤ k) : spec_l01Part k x l = some (partC x l) := by
  unfold spec_l01Part
  have := nest (fun k' j s => spec_l01Part_l0 k x l k' j s) l.length h.1 (fun a b => x.cc (l.getD a 0) (l.getD b 0)) x.k
    (fun k' j s hj q1 q2 q3 => by
      obtain ⟨y, e, r⟩ := nest1 (fun K i s => spec_l01Part_l1 x l j K i s) l.length h.1 (fun a b => x.cc (l.getD a 0) (l.getD b 0)) j hj x.k
        (fun k' i s hi _ _ => by
          have h1 := h.2.1 i (by omega)
          have h2 := h.2.1 j (by omega)
          have h3 := h.2.2 i j hi hj
          have hl := h.1
          have he := edge_eq (i : Int) (j : Int) (by omega) (by omega)
          simp only [Int.toNat_natCast] at he
          have h136 := eN_136 (i := i) (j := j) (by omega) (by omega) (by omega)
          have c1 : (i : Int) < (j : Int) := by omega
          have c2 : (i : Int) < (l.length : Int) := by omega
          have c3 : (j : Int) < (l.length : Int) := by omega
          have c4 : ((eN i j : Nat) : Int) < 136 := by omega
          show spec_l01Part_l1 x l j (k' + 1) i s = spec_l01Part_l1 x l j k' ((i + 1 : Nat) : Int) _
          rw [spec_l01Part_l1, he, w64_id (n := (i : Int) + 1) (by omega)]
          simp only [Int.toNat_natCast]
          rw [specAt_ne x _ _ h1.1 (by omega) h2.1 (by omega) h3]
          simp only [c1, c2, c3, c4, decide_true, if_true, Int.natCast_nonneg, and_self, Option.bind_some]
          rfl)
        (fun k' s => by
          show spec_l01Part_l1 x l j (k' + 1) j s = _
          rw [spec_l01Part_l1]; simp) j 0 k s (by omega) (by have := h.1; omega) q1 q2 q3
      refine ⟨y, r, ?_⟩
      have c1 : (j : Int) < (l.length : Int) := by omega
      show spec_l01Part_l0 k x l (k' + 1) j s = spec_l01Part_l0 k x l k' ((j + 1 : Nat) : Int) y
      have e' : spec_l01Part_l1 x l j k 0 s = some y := e
      rw [spec_l01Part_l0, q1, e', w64_id (n := (j : Int) + 1) (by have := h.1; omega)]
      simp only [c1, decide_true, if_true, Option.bind_some]
      rfl)
    (fun k' s q1 => by
      show spec_l01Part_l0 k x l (k' + 1) (l.length : Int) s = _
      rw [spec_l01Part_l0, q1]; simp) k 1 (by omega) h0 (by have := h.1; omega)
  have e' : spec_l01Part_l0 k x l k 1 ⟨(l.length : Int), x.k, B136.zero⟩ = some (partC x l) := this
  rw [e']; rfl

/-! ### Colours told anew -/
theorem recol_val {k : Nat} {x : Col} (h : x.is) (k' : Int) (f : Int → Option Int) (φ : Int → Int) (hf : ∀ c, 0 ≤ c → c < x.k → f c = some (φ c)) (hk : 19 ≤ k) : impl_Colouring_recoloured k x k' f = some (mkC x.p.toNat k' (fun a b => φ (x.cc a b))) := by
  have hp := h.1
  unfold impl_Colouring_recoloured
  have := made_val (k := k) (n := x.p.toNat) (c := k') (f := fun a0 a1 => impl_Colouring_recoloured_c1 a0 a1 f x) (g := fun a b => φ (x.cc a b)) (by omega) hk fun i j hij hj => by
    have hc := is_cc h (a := i) (b := j) (by omega) (by omega) (by omega)
    unfold impl_Colouring_recoloured_c1
    rw [implAt_ne x _ _ (by omega) (by omega) (by omega) (by omega) (by omega)]
    simp only [Option.bind_some]
    rw [hf _ hc.1 hc.2]; rfl
  rw [toN hp] at this
  rw [this]; rfl
theorem turned_val {k : Nat} {x : Col} (h : x.is) (q : List Int) (hq : (q.length : Int) = x.k) (hk : 140 ≤ k) : spec_l01Turned k x q = some (mkC x.p.toNat x.k (fun a b => q.getD (x.cc a b).toNat 0)) := by
  have hp := h.1
  obtain ⟨y, e, m⟩ := specTurned_eq x h q hq k hk
  rw [e]
  rw [← toN hp] at m
  refine congrArg some (Made.to (by omega) m fun a b _ _ => ?_)
  rw [cc_nat, Int.toNat_natCast]

/-! ### One point more -/
def putC (x : Col) (l : List Int) : Col := mkC (x.p.toNat + 1) x.k (fun a b => if (b : Int) = x.p then l.getD a 0 else x.cc a b)
def PInv (x : Col) (l : List Int) (m : Nat) (s : Col) : Prop :=
  s.p = x.p + 1 ∧ s.k = x.k ∧ (∀ a b : Nat, a < b → (b : Int) ≤ x.p → s.e.get (eN a b) = if (b : Int) = x.p ∧ a < m then toByte (l.getD a 0) else x.e.get (eN a b)) ∧ ∀ e, tri (x.p.toNat + 1) ≤ e → e < 136 → s.e.get e = 0
theorem PInv.step {x : Col} (h : x.is) (hp : x.p < 17) {l : List Int} {m : Nat} {s : Col} (q : PInv x l m s) (hm : (m : Int) < x.p) : PInv x l (m + 1) (s.set (eN m x.p.toNat) (toByte (l.getD m 0))) := by
  have hp1 := h.1
  have h136 := eN_136 (i := m) (j := x.p.toNat) (by omega) (by omega) (by omega)
  refine ⟨q.1, q.2.1, fun a b hab hb => ?_, fun e he h1 => ?_⟩
  · rw [show (s.set (eN m x.p.toNat) (toByte (l.getD m 0))).e.get (eN a b) = _ from B136.get_set s.e _ _ _ h136]
    by_cases e : eN a b = eN m x.p.toNat
    · obtain ⟨rfl, e2⟩ := eN_inj hab (by omega) (show m < x.p.toNat by omega) (by omega) e
      rw [if_pos e, if_pos (by omega)]
    · rw [if_neg e, q.2.2.1 a b hab hb]
      by_cases hc : (b : Int) = x.p ∧ a < m
      · rw [if_pos hc, if_pos (by omega)]
      · have : ¬ (a = m ∧ b = x.p.toNat) := fun ⟨u, v⟩ => e (by rw [u, v])
        rw [if_neg hc, if_neg (by omega)]
  · have := eN_lt (i := m) (j := x.p.toNat) (n := x.p.toNat + 1) (by omega) (by omega) (by omega)
    rw [show (s.set (eN m x.p.toNat) (toByte (l.getD m 0))).e.get e = _ from B136.get_set s.e _ _ _ h136, if_neg (by omega)]
    exact q.2.2.2 e he h1
theorem PInv.start {x : Col} (h : x.is) (l : List Int) : PInv x l 0 ⟨x.p + 1, x.k, x.e⟩ := by
  refine ⟨rfl, rfl, fun a b _ _ => ?_, fun e he h1 => is_zero h ?_ h1⟩
  · rw [if_neg (by omega)]
  · have : ∀ n, n ≤ 17 → tri n ≤ tri (n + 1) := by decide +kernel
    have := this x.p.toNat (by have := h.1; omega)
    omega
theorem PInv.done {x : Col} (h : x.is) (hp : x.p < 17) {l : List Int} {s : Col} (q : PInv x l x.p.toNat s) : s = putC x l := by
  have hp1 := h.1
  refine Made.to (g' := fun a b => if (b : Int) = x.p then toByte (l.getD a 0) else x.e.get (eN a b)) (by omega) ⟨by rw [q.1]; omega, q.2.1, fun a b hab hb => ?_, fun e he h1 => q.2.2.2 e (by rw [Int.toNat_natCast] at he; exact he) h1⟩ fun a b hab hb => ?_
  · rw [q.2.2.1 a b hab (by omega)]
    by_cases hc : (b : Int) = x.p
    · rw [if_pos ⟨hc, by omega⟩, if_pos hc]
    · rw [if_neg (fun q => hc q.1), if_neg hc]
  · split
    · rfl
    · rw [cc_nat, tb]
theorem grown_val {k : Nat} {x : Col} (h : x.is) (hp : x.p < 17) {l : List Int} (hl : (l.length : Int) = x.p) (hk : 20 ≤ k) : impl_Colouring_grown k x l = some (putC x l) := by
  have hp1 := h.1
  unfold impl_Colouring_grown
  rw [w64_id (by omega)]
  have := loopI (f := fun k' i (s : Col) => impl_Colouring_grown_l0 x l k' i s) x.p 0 (fun i s => i ≤ x.p ∧ PInv x l i.toNat s) (fun r => r = putC x l) ?_ ?_ k 0 ⟨x.p + 1, x.k, x.e⟩ (by omega) (by omega) ⟨by omega, PInv.start h l⟩
  · obtain ⟨r, e, rfl⟩ := this
    rw [e]; rfl
  · intro k' i s h0 h1 ⟨_, q⟩
    left
    obtain ⟨m, rfl⟩ := nat_of h0
    refine ⟨s.set (eN m x.p.toNat) (toByte (l.getD m 0)), ?_, by omega, ?_⟩
    · show impl_Colouring_grown_l0 x l (k' + 1) m s = _
      have h136 := eN_136 (i := m) (j := x.p.toNat) (by omega) (by omega) (by omega)
      have c1 : (m : Int) < (l.length : Int) := by omega
      have c2 : ((eN m x.p.toNat : Nat) : Int) < 136 := by omega
      rw [impl_Colouring_grown_l0, w64_succ h0 h1 (by omega)]
      unfold impl_Colouring_put
      rw [number_eq (m : Int) x.p (by omega) (by omega)]
      simp only [c1, c2, Int.toNat_natCast, decide_true, if_true, Int.natCast_nonneg, and_self, Option.bind_some]
    · have e0 : ((m : Int) + 1).toNat = m + 1 := by omega
      rw [e0]
      simp only [Int.toNat_natCast] at q
      exact PInv.step h hp q h1
  · intro k' i s h0 h1 ⟨q1, q⟩
    have : i = x.p := by omega
    subst this
    refine ⟨s, ?_, PInv.done h hp q⟩
    show impl_Colouring_grown_l0 x l (k' + 1) x.p s = _
    rw [impl_Colouring_grown_l0]; simp [hl]
theorem specPut_val {k : Nat} {x : Col} (h : x.is) (hp : x.p < 17) {l : List Int} (hl : (l.length : Int) = x.p) (hk : 20 ≤ k) : spec_l01Put k x l = some (putC x l) := by
  have hp1 := h.1
  unfold spec_l01Put
  rw [w64_id (by omega)]
  have := loopI (f := fun k' i (s : Col) => spec_l01Put_l0 l k' i s) x.p 0 (fun i s => i ≤ x.p ∧ PInv x l i.toNat s) (fun r => r = putC x l) ?_ ?_ k 0 ⟨x.p + 1, x.k, x.e⟩ (by omega) (by omega) ⟨by omega, PInv.start h l⟩
  · obtain ⟨r, e, rfl⟩ := this
    rw [e]; rfl
  · intro k' i s h0 h1 ⟨_, q⟩
    left
    obtain ⟨m, rfl⟩ := nat_of h0
    refine ⟨s.set (eN m x.p.toNat) (toByte (l.getD m 0)), ?_, by omega, ?_⟩
    · show spec_l01Put_l0 l (k' + 1) m s = _
      have h136 := eN_136 (i := m) (j := x.p.toNat) (by omega) (by omega) (by omega)
      have c1 : (m : Int) < (l.length : Int) := by omega
      have c2 : ((eN m x.p.toNat : Nat) : Int) < 136 := by omega
      have ew : w64 (s.p - 1) = x.p := by rw [q.1, w64_id (by omega)]; omega
      rw [spec_l01Put_l0, w64_succ h0 h1 (by omega), ew, edge_eq (m : Int) x.p (by omega) (by omega)]
      simp only [c1, c2, Int.toNat_natCast, decide_true, if_true, Int.natCast_nonneg, and_self, Option.bind_some]
    · have e0 : ((m : Int) + 1).toNat = m + 1 := by omega
      rw [e0]
      simp only [Int.toNat_natCast] at q
      exact PInv.step h hp q h1
  · intro k' i s h0 h1 ⟨q1, q⟩
    have : i = x.p := by omega
    subst this
    refine ⟨s, ?_, PInv.done h hp q⟩
    show spec_l01Put_l0 l (k' + 1) x.p s = _
    rw [spec_l01Put_l0]; simp [hl]

/-! ### Numbers of edges -/
def edL (x : Col) : List Int := (x.e.l.take (tri x.p.toNat)).map fun u => (u.toNat : Int)
def cnt (x : Col) (c : Int) : Nat := (edL x).countP fun u => decide (u = c)
theorem edges_eq {x : Col} (h : 1 ≤ x.p ∧ x.p ≤ 17) : impl_Colouring_edges x = (tri x.p.toNat : Int) := tE_tri x h
theorem counts_val {k : Nat} {x : Col} (h : x.is) (hk : 140 ≤ k) : impl_Colouring_counts k x = some (mapL x.k.toNat fun c => (cnt x c : Int)) := by
  have hp := h.1
  have hkk := h.2.1
  have htl := tri_le (n := x.p.toNat) (by omega)
  unfold impl_Colouring_counts
  rw [if_pos (by omega), edges_eq hp, if_pos (by omega)]
  have hlen : (x.e.l.take (tri x.p.toNat)).length = tri x.p.toNat := by rw [List.length_take, x.e.h]; omega
  have hget : ∀ i : Nat, i < tri x.p.toNat → (x.e.l.take (tri x.p.toNat)).getD i 0 = x.e.get i := fun i hi => by
    show _ = x.e.l.getD i 0
    rw [List.getD_eq_getElem?_getD, List.getD_eq_getElem?_getD, List.getElem?_take, if_pos hi]
  have := loopI (f := fun k' i (s : List Int) => impl_Colouring_counts_l0 x k' i s) (tri x.p.toNat : Int) 0
    (fun i s => i ≤ tri x.p.toNat ∧ s = mapL x.k.toNat fun c => ((((edL x).take i.toNat).countP fun u => decide (u = (c : Int)) : Nat) : Int)) (fun r => r = mapL x.k.toNat fun c => (cnt x c : Int)) ?_ ?_ k 0 (List.replicate x.k.toNat 0) (by omega) (by omega) ⟨by omega, ?_⟩
  · obtain ⟨r, e, rfl⟩ := this
    rw [e]; rfl
  · intro k' i s h0 h1 ⟨_, q⟩
    left
    obtain ⟨m, rfl⟩ := nat_of h0
    have hmt : m < tri x.p.toNat := by omega
    have hlt := is_lt h hmt
    have hsl : s.length = x.k.toNat := by rw [q, mapL_length]
    have e0 : ((m : Int) + 1).toNat = m + 1 := by omega
    refine ⟨s.set (x.e.get m).toNat (s.getD (x.e.get m).toNat 0 + 1), ?_, by omega, ?_⟩
    · show impl_Colouring_counts_l0 x (k' + 1) m s = _
      have hb : 0 ≤ s.getD (x.e.get m).toNat 0 ∧ s.getD (x.e.get m).toNat 0 ≤ 136 := by
        rw [q, mapL_get _ _ _ (by omega)]
        have := List.countP_le_length (p := fun u => decide (u = (((x.e.get m).toNat : Nat) : Int))) (l := (edL x).take (m : Int).toNat)
        have h2 : ((edL x).take (m : Int).toNat).length ≤ 136 := by
          rw [List.length_take]; unfold edL; rw [List.length_map, hlen]; omega
        omega
      have c1 : ((x.e.get m).toNat : Int) < (s.length : Int) := by omega
      rw [impl_Colouring_counts_l0, edges_eq hp]
      simp only [Int.toNat_natCast, hlen, hget m hmt]
      rw [w64_succ h0 h1 (by omega), w64_id (n := s.getD (x.e.get m).toNat 0 + 1) (by omega)]
      simp only [h1, c1, h0, decide_true, if_true, Int.natCast_nonneg, and_self]
    · rw [e0]
      simp only [Int.toNat_natCast] at q
      have het : (edL x).take (m + 1) = (edL x).take m ++ [((x.e.get m).toNat : Int)] := by
        have hm2 : m < (edL x).length := by unfold edL; rw [List.length_map, hlen]; exact hmt
        rw [List.take_add_one, List.getElem?_eq_getElem hm2]
        have : (edL x)[m] = ((x.e.get m).toNat : Int) := by
          have hm3 : m < (x.e.l.take (tri x.p.toNat)).length := by omega
          have := hget m hmt
          rw [List.getD_eq_getElem?_getD, List.getElem?_eq_getElem hm3, Option.getD_some] at this
          simp only [edL, List.getElem_map]
          rw [this]
        rw [this]; rfl
      refine List.ext_getElem (by rw [List.length_set, hsl, mapL_length]) fun c hc hc2 => ?_
      rw [List.length_set, hsl] at hc
      have g1 : ∀ c, c < x.k.toNat → ∀ (hh : c < s.length), s[c] = ((((edL x).take m).countP fun u => decide (u = (c : Int)) : Nat) : Int) := fun c hc hh => by
        have : s[c] = s.getD c 0 := by simp [List.getD, hh]
        rw [this, q, mapL_get _ _ _ hc]
      have g2 : (mapL x.k.toNat fun c => ((((edL x).take (m + 1)).countP fun u => decide (u = (c : Int)) : Nat) : Int))[c] = ((((edL x).take (m + 1)).countP fun u => decide (u = (c : Int)) : Nat) : Int) := by simp [mapL]
      rw [g2, het, List.countP_append, List.getElem_set]
      by_cases e : (x.e.get m).toNat = c
      · rw [if_pos e]
        subst e
        have : s.getD (x.e.get m).toNat 0 = s[(x.e.get m).toNat]'(by omega) := by simp [List.getD, hsl, hc]
        rw [this, g1 _ hc]
        simp
      · rw [if_neg e, g1 c hc]
        have : ¬ (((x.e.get m).toNat : Nat) : Int) = (c : Int) := by omega
        simp [this]
  · intro k' i s h0 h1 ⟨q1, q⟩
    have : i = tri x.p.toNat := by omega
    subst this
    refine ⟨s, ?_, ?_⟩
    · show impl_Colouring_counts_l0 x (k' + 1) (tri x.p.toNat : Nat) s = _
      rw [impl_Colouring_counts_l0, edges_eq hp]
      simp [hlen]
    · rw [q]
      have : (edL x).take ((tri x.p.toNat : Nat) : Int).toNat = edL x := by
        rw [Int.toNat_natCast]
        exact List.take_of_length_le (by unfold edL; rw [List.length_map, hlen]; omega)
      rw [this]; rfl
  · refine List.ext_getElem (by rw [List.length_replicate, mapL_length]) fun c hc hc2 => ?_
    simp [mapL]
theorem edL_length {x : Col} (h : 1 ≤ x.p ∧ x.p ≤ 17) : (edL x).length = tri x.p.toNat := by
  have htl := tri_le (n := x.p.toNat) (by omega)
  unfold edL
  rw [List.length_map, List.length_take, x.e.h]; omega
theorem edL_get {x : Col} (h : 1 ≤ x.p ∧ x.p ≤ 17) (e : Nat) (he : e < (edL x).length) : (edL x)[e] = ((x.e.get e).toNat : Int) := by
  have hl := edL_length h
  have htl := tri_le (n := x.p.toNat) (by omega)
  have h2 : e < x.e.l.length := by rw [x.e.h]; omega
  simp only [edL, List.getElem_map, List.getElem_take]
  unfold B136.get
  rw [List.getD_eq_getElem?_getD, List.getElem?_eq_getElem h2, Option.getD_some]
theorem edL_lt {x : Col} (h : x.is) {c : Int} (hc : c ∈ edL x) : 0 ≤ c ∧ c < x.k := by
  obtain ⟨e, he, rfl⟩ := List.getElem_of_mem hc
  have := edL_length h.1
  rw [edL_get h.1]
  exact ⟨by omega, is_lt h (by omega)⟩
theorem edL_map {x : Col} (h : x.is) (k' : Int) (φ : Int → Int) (hφ : ∀ c, 0 ≤ c → c < x.k → 0 ≤ φ c ∧ φ c < 256) : edL (mkC x.p.toNat k' (fun a b => φ (x.cc a b))) = (edL x).map φ := by
  have hp := h.1
  have hp' : 1 ≤ (mkC x.p.toNat k' (fun a b => φ (x.cc a b))).p ∧ (mkC x.p.toNat k' (fun a b => φ (x.cc a b))).p ≤ 17 := by
    show 1 ≤ (x.p.toNat : Int) ∧ (x.p.toNat : Int) ≤ 17
    omega
  have hl : (edL (mkC x.p.toNat k' (fun a b => φ (x.cc a b)))).length = tri x.p.toNat := by
    rw [edL_length hp']; rfl
  refine List.ext_getElem (by rw [hl, List.length_map, edL_length hp]) fun e h1 h2 => ?_
  rw [edL_get hp', List.getElem_map, edL_get hp]
  rw [hl] at h1
  obtain ⟨j, hj, i, hi, rfl⟩ := eN_surj (n := x.p.toNat) (by omega) h1
  have := is_cc h (a := i) (b := j) (by omega) (by omega) (by omega)
  rw [mkC_get (by omega) _ _ hi hj, tb_id (hφ _ this.1 this.2), cc_nat]
end Go.Proofs.YtkknnbmmcmhngaaGreat
