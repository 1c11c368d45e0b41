/- Plain laws: degrees of points, the table of points that may go to each other, renumberings in order. No conditions beyond those that each lemma states. -/
import Derived.Test.YtjcgphgipleccaaPureTopB
set_option linter.unusedVariables false
set_option linter.unusedSimpArgs false
namespace Go.Proofs.Ytjcgphgipleccaa
open Go Go.RowKit Ab

/-! ### Lists that are set -/
theorem mapL_set {m c : Nat} {f g : Nat → Int} {v : Int} (hv : g c = v) (ho : ∀ a, a ≠ c → g a = f a) : (mapL m f).set c v = mapL m g := by
  refine List.ext_getElem (by rw [List.length_set, mapL_length, mapL_length]) fun i h1 h2 => ?_
  rw [List.getElem_set]
  simp only [mapL, List.getElem_map, List.getElem_range]
  by_cases e : c = i
  · rw [if_pos e, ← e, hv]
  · rw [if_neg e, ho i fun q => e q.symm]
theorem mapL_ext {m : Nat} {f g : Nat → Int} (h : ∀ a, a < m → f a = g a) : mapL m f = mapL m g := by
  unfold mapL
  exact List.map_congr_left fun a ha => h a (List.mem_range.1 ha)

/-! ### Degrees -/
def dgC (x : Col) (i c m : Nat) : Nat := (List.range m).countP fun q => decide (q ≠ i) && decide (x.cc i q = (c : Int))
def dgs (x : Col) (i : Nat) : List Int := mapL x.k.toNat fun c => (dgC x i c x.p.toNat : Int)
theorem dgC_succ (x : Col) (i c m : Nat) : dgC x i c (m + 1) = dgC x i c m + if m ≠ i ∧ x.cc i m = (c : Int) then 1 else 0 := by
  unfold dgC
  rw [List.range_succ, List.countP_append]
  congr 1
  simp only [List.countP_cons, List.countP_nil, Nat.zero_add, Bool.and_eq_true, decide_eq_true_eq]
theorem dgC_le (x : Col) (i c m : Nat) : dgC x i c m ≤ m := by
  unfold dgC
  exact Nat.le_trans List.countP_le_length (by simp)
theorem degAt_val {x : Col} (hx : x.is) {i : Nat} (hi : (i : Int) < x.p) (k : Nat) (hk : 20 ≤ k) : impl_Colouring_degreesAt k x i = some (dgs x i) := by
  have hp := hx.1
  have hkk := hx.2.1
  unfold impl_Colouring_degreesAt
  rw [if_pos ⟨by omega, by omega, by omega⟩]
  have := loopI (f := fun k' j (s : List Int) => impl_Colouring_degreesAt_l0 x i k' j s) x.p 0
    (fun j s => j ≤ x.p ∧ s = mapL x.k.toNat fun c => (dgC x i c j.toNat : Int)) (fun s => s = dgs x i) ?_ ?_ k 0 (List.replicate x.k.toNat (0 : Int)) (by omega) (by omega) ⟨by omega, ?_⟩
  · obtain ⟨s, e, rfl⟩ := this
    rw [e]; rfl
  · rintro k' j s h0 h1 ⟨q1, rfl⟩
    obtain ⟨q, rfl⟩ : ∃ q : Nat, j = q := ⟨j.toNat, by omega⟩
    left
    refine ⟨mapL x.k.toNat fun c => (dgC x i c (q + 1) : Int), ?_, by omega, by rw [show ((q : Int) + 1).toNat = q + 1 by omega]⟩
    show impl_Colouring_degreesAt_l0 x i (k' + 1) q _ = _
    rw [impl_Colouring_degreesAt_l0, if_pos (decide_eq_true h1), w64_succ h0 h1 (by omega), Int.toNat_natCast]
    by_cases e : (q : Int) = i
    · have e' : q = i := by omega
      rw [decide_eq_true e, if_neg (by simp), Option.bind_some]
      congr 1
      refine mapL_ext fun c _ => ?_
      rw [dgC_succ, if_neg (fun h => h.1 e')]
      omega
    · have hne : i ≠ q := fun h => e (by rw [h])
      obtain ⟨c1, c2⟩ := is_cc hx hi h1 hne
      obtain ⟨c, hc⟩ : ∃ c : Nat, x.cc i q = c := ⟨(x.cc i q).toNat, by omega⟩
      rw [decide_eq_false e, Bool.not_false, if_pos rfl, implAt_ne _ _ _ (by omega) (by omega) (by omega) (by omega) (by omega), Option.bind_some, if_pos ⟨by omega, by rw [mapL_length]; omega⟩, if_pos ⟨by omega, by rw [mapL_length]; omega⟩, Option.bind_some, hc, Int.toNat_natCast, mapL_get _ _ _ (by omega)]
      have hle := dgC_le x i c q
      rw [w64_id (by omega)]
      congr 1
      refine mapL_set ?_ fun a ha => ?_
      · rw [dgC_succ, if_pos ⟨fun h => hne h.symm, hc⟩]; omega
      · rw [dgC_succ, if_neg (fun h => ha (by have := h.2; omega))]; omega
  · rintro k' j s h0 h1 ⟨q1, rfl⟩
    refine ⟨dgs x i, ?_, rfl⟩
    show impl_Colouring_degreesAt_l0 x i (k' + 1) j _ = _
    rw [impl_Colouring_degreesAt_l0, if_neg (by simp only [decide_eq_true_eq]; omega), show j.toNat = x.p.toNat by omega]
    rfl
  · refine List.ext_getElem (by simp [mapL_length]) fun a h1 h2 => ?_
    simp [mapL, dgC]

theorem slicesEq_val (a b : List Int) (ha : a.length ≤ 1000) (k : Nat) (hk : 1100 ≤ k) : slices_Equal k a b = some (decide (a = b)) := by
  unfold slices_Equal
  by_cases hl : a.length = b.length
  · rw [decide_eq_true (by omega), if_neg (by simp)]
    have := loopAll (fun k' i => slices_Equal_l0 a b k' i) (a.length : Int) false (fun i => a.getD i.toNat 0 = b.getD i.toNat 0) 0
      (fun k' i h0 h1 hq => by
        show slices_Equal_l0 a b (k' + 1) i = _
        rw [slices_Equal_l0, if_pos (decide_eq_true h1), if_pos ⟨h0, h1⟩, if_pos ⟨h0, by omega⟩, if_neg (by rw [decide_eq_true hq]; simp), w64_succ h0 h1 (by omega)])
      (fun k' i h0 h1 hq => by
        show slices_Equal_l0 a b (k' + 1) i = _
        rw [slices_Equal_l0, if_pos (decide_eq_true h1), if_pos ⟨h0, h1⟩, if_pos ⟨h0, by omega⟩, if_pos (by rw [decide_eq_false hq]; rfl)])
      (fun k' i h => by
        show slices_Equal_l0 a b (k' + 1) i = _
        rw [slices_Equal_l0, if_neg (by simp only [decide_eq_true_eq]; omega)]) k 0 (by omega) (by omega)
    rw [this, Option.bind_some]
    by_cases e : a = b
    · rw [if_pos (fun j _ _ => by rw [e]), decide_eq_true e]
    · rw [if_neg, decide_eq_false e]
      intro h
      apply e
      refine List.ext_getElem hl fun i h1 h2 => ?_
      have := h i (by omega) (by omega)
      rw [Int.toNat_natCast] at this
      simpa [List.getD, h1, h2] using this
  · rw [decide_eq_false (by omega), Bool.not_false, if_pos rfl, decide_eq_false (fun e => hl (by rw [e]))]

/-! ### The table -/
theorem S17_same (s : S17) (i : Nat) (v : Bool) (h : i < 289) : (s.set i v).get i = v := by
  unfold S17.set S17.get
  simp [List.getD, s.h, h]
theorem S17_other (s : S17) {i j : Nat} (v : Bool) (h : i ≠ j) : (s.set i v).get j = s.get j := by
  unfold S17.set S17.get
  simp [List.getD, List.getElem?_set, h]
structure TI (x y : Col) (o : List Int) (i j : Nat) (t : Tra) : Prop where
  hx : t.x = x
  hy : t.y = y
  ho : t.o = o
  g : ∀ a b : Nat, a < x.p.toNat → b < y.p.toNat → (a < i ∨ a = i ∧ b < j) → t.get (a * 17 + b) = decide (dgs x a = dgs y b)
theorem dgs_len {x : Col} (hx : x.is) (i : Nat) : (dgs x i).length ≤ 4 := by
  have := hx.2.1
  unfold dgs
  rw [mapL_length]
  omega
theorem tab_row {x y : Col} (hx : x.is) (hy : y.is) (o : List Int) {i : Nat} (hi : (i : Int) < x.p) (t : Tra) (ht : TI x y o i 0 t) (k : Nat) (hk : 1200 ≤ k) : ∃ t', impl_newTracer_l1 k x y i k 0 t = some t' ∧ TI x y o (i + 1) 0 t' := by
  have hp := hx.1
  have hp' := hy.1
  refine loopI (f := fun k' j (s : Tra) => impl_newTracer_l1 k x y i k' j s) y.p 0 (fun j s => j ≤ y.p ∧ TI x y o i j.toNat s) (fun s => TI x y o (i + 1) 0 s) ?_ ?_ k 0 t (by omega) (by omega) ⟨by omega, ht⟩
  · rintro k' j s h0 h1 ⟨q1, q2⟩
    obtain ⟨q, rfl⟩ : ∃ q : Nat, j = q := ⟨j.toNat, by omega⟩
    rw [Int.toNat_natCast] at q2
    left
    refine ⟨s.set (i * 17 + q) (decide (dgs x i = dgs y q)), ?_, by omega, ?_⟩
    · show impl_newTracer_l1 k x y i (k' + 1) q s = _
      rw [impl_newTracer_l1, if_pos (decide_eq_true h1), if_pos ⟨by omega, by omega⟩, degAt_val hx hi k (by omega), Option.bind_some, degAt_val hy h1 k (by omega), Option.bind_some, slicesEq_val _ _ (by have := dgs_len hx i; omega) k (by omega), Option.bind_some, if_pos ⟨h0, by omega⟩, w64_succ h0 h1 (by omega), Int.toNat_natCast, Int.toNat_natCast]
    · rw [show ((q : Int) + 1).toNat = q + 1 by omega]
      refine ⟨q2.hx, q2.hy, q2.ho, fun a b ha hb h => ?_⟩
      by_cases e : a = i ∧ b = q
      · obtain ⟨rfl, rfl⟩ := e
        exact S17_same _ _ _ (by omega)
      · refine (S17_other _ _ (by omega)).trans (q2.g a b ha hb ?_)
        omega
  · rintro k' j s h0 h1 ⟨q1, q2⟩
    refine ⟨s, ?_, q2.hx, q2.hy, q2.ho, fun a b ha hb h => q2.g a b ha hb (by omega)⟩
    show impl_newTracer_l1 k x y i (k' + 1) j s = _
    rw [impl_newTracer_l1, if_neg (by simp only [decide_eq_true_eq]; omega)]
theorem tracer_val {x y : Col} (hx : x.is) (hy : y.is) (o : List Int) (k : Nat) (hk : 1200 ≤ k) (h1 : x.p = y.p) (h2 : x.k = y.k) : ∃ t, impl_newTracer k x y o = some (some t) ∧ TI x y o x.p.toNat 0 t := by
  have hp := hx.1
  have := loopI (f := fun k' j (s : Tra) => impl_newTracer_l0 k x y k' j s) x.p 0 (fun j s => j ≤ x.p ∧ TI x y o j.toNat 0 s) (fun s => TI x y o x.p.toNat 0 s) ?_ ?_ k 0 (⟨x, y, o, S17.zero⟩ : Tra) (by omega) (by omega) ⟨by omega, ⟨rfl, rfl, rfl, fun a b _ _ h => ?_⟩⟩
  · obtain ⟨t, e, ht⟩ := this
    refine ⟨t, ?_, ht⟩
    unfold impl_newTracer letO
    rw [decide_eq_true h1, decide_eq_true h2]
    simp only [Bool.not_true, Bool.false_eq_true, if_false, Option.bind_some, e]
  · rintro k' j s h0 h1 ⟨q1, q2⟩
    obtain ⟨q, rfl⟩ : ∃ q : Nat, j = q := ⟨j.toNat, by omega⟩
    rw [Int.toNat_natCast] at q2
    obtain ⟨t', e, ht'⟩ := tab_row hx hy o h1 s q2 k hk
    left
    refine ⟨t', ?_, by omega, by rw [show ((q : Int) + 1).toNat = q + 1 by omega]; exact ht'⟩
    show impl_newTracer_l0 k x y (k' + 1) q s = _
    rw [impl_newTracer_l0, if_pos (decide_eq_true h1), e, Option.bind_some, w64_succ h0 h1 (by omega)]
  · rintro k' j s h0 h1 ⟨q1, q2⟩
    refine ⟨s, ?_, by rw [show x.p.toNat = j.toNat by omega]; exact q2⟩
    show impl_newTracer_l0 k x y (k' + 1) j s = _
    rw [impl_newTracer_l0, if_neg (by simp only [decide_eq_true_eq]; omega)]
  · omega
/-! ### Renumberings in order -/
def ordOK (o : List Int) : Prop := (∀ i, i < o.length → 0 ≤ o.getD i 0 ∧ o.getD i 0 < 17) ∧ o.Nodup
theorem ordOK_two {o : List Int} (h : ordOK o) {i n : Nat} (hi : i < n) (hn : n < o.length) : (0 ≤ o.getD i 0 ∧ o.getD i 0 < 17) ∧ (0 ≤ o.getD n 0 ∧ o.getD n 0 < 17) ∧ o.getD i 0 ≠ o.getD n 0 := by
  refine ⟨h.1 i (by omega), h.1 n hn, ?_⟩
  have := (List.pairwise_iff_getElem.1 h.2) i n (by omega) hn hi
  simpa [List.getD, hn, show i < o.length by omega] using this
theorem ordOK_le {o : List Int} (h : ordOK o) : o.length ≤ 17 := by
  have := sub_len o (ir 0 17) h.2 fun a ha => by
    obtain ⟨i, hi, rfl⟩ := mem_getD.1 ha
    have := h.1 i hi
    exact mem_ir.2 (by omega)
  rwa [ir_length] at this
def nearP (t : Tra) (l : List Int) (c i : Nat) : Prop := l.getD i 0 ≠ (c : Int) ∧ t.x.cc (t.o.getD i 0) (t.o.getD l.length 0) = t.y.cc (l.getD i 0) c
instance (t : Tra) (l : List Int) (c i : Nat) : Decidable (nearP t l c i) := by unfold nearP; infer_instance
def nearT (t : Tra) (l : List Int) (c : Nat) : Prop := ∀ i, i < l.length → nearP t l c i
instance (t : Tra) (l : List Int) (c : Nat) : Decidable (nearT t l c) := by unfold nearT; infer_instance
def okT (t : Tra) (l : List Int) (c : Nat) : Bool := t.get ((t.o.getD l.length 0).toNat * 17 + c) && decide (nearT t l c)
def isRen (t : Tra) (e : List Int) : Prop := ∀ i, i < e.length → ∃ c : Nat, c < t.y.p.toNat ∧ e.getD i 0 = (c : Int) ∧ okT t (e.take i) c = true
theorem isRen_nil (t : Tra) : isRen t [] := fun i h => by simp at h
theorem isRen_range {t : Tra} {e : List Int} (h : isRen t e) : ∀ z ∈ e, 0 ≤ z ∧ z < t.y.p := fun z hz => by
  obtain ⟨i, hi, rfl⟩ := mem_getD.1 hz
  obtain ⟨c, h1, h2, _⟩ := h i hi
  omega
theorem isRen_snoc {t : Tra} {e : List Int} (h : isRen t e) {c : Nat} (hc : c < t.y.p.toNat) (ho : okT t e c = true) : isRen t (e ++ [(c : Int)]) := by
  intro i hi
  rw [List.length_append, List.length_singleton] at hi
  rcases Nat.lt_or_ge i e.length with w | w
  · obtain ⟨b, h1, h2, h3⟩ := h i w
    refine ⟨b, h1, ?_, ?_⟩
    · simp [List.getD, List.getElem?_append, w] at h2 ⊢
      exact h2
    · rw [List.take_append_of_le_length (by omega)]
      exact h3
  · have : i = e.length := by omega
    subst this
    refine ⟨c, hc, by simp [List.getD], ?_⟩
    rw [List.take_append_of_le_length (Nat.le_refl _), List.take_length]
    exact ho
theorem isRen_mem {t : Tra} {e : List Int} : e ∈ exts t.y.p.toNat (okT t) e.length [] ↔ isRen t e := by
  constructor
  · intro h i hi
    obtain ⟨c, h1, h2, h3⟩ := (exts_ok _ _ e h).2 i (by simp) hi
    exact ⟨c, h1, h2, h3⟩
  · intro h
    exact mem_exts _ _ e (by simp) (by simp) fun i _ hi => h i hi
/-! ### The walk for renumbering_c1 -/
theorem same_renumbering_c1 (t : Tra) (ho : ordOK t.o) (hp : t.y.p ≤ 17) (cs : List Int) (n c : Nat) (hn : n < t.o.length) (hcs : n ≤ cs.length) (hl : ∀ z ∈ cs.take n, 0 ≤ z ∧ z < t.y.p) (hc : (c : Int) < t.y.p) (k : Nat) (hk : 20 ≤ k) :
    impl_tracer_all_on_renumbering_c1_l1 t n c cs k true 0 = some (decide (nearT t (cs.take n) c)) := by
  have hn17 := ordOK_le ho
  have hlen : (cs.take n).length = n := by simp; omega
  have := loopI (f := fun k' j (_ : Unit) => impl_tracer_all_on_renumbering_c1_l1 t n c cs k' true j) (n : Int) 0
    (fun j _ => j ≤ n ∧ ∀ i : Nat, (i : Int) < j → nearP t (cs.take n) c i) (fun s => s = decide (nearT t (cs.take n) c)) ?_ ?_ k 0 () (by omega) (by omega) ⟨by omega, fun i hi => by omega⟩
  · obtain ⟨s, e, rfl⟩ := this
    exact e
  · rintro k' j _ h0 h1 ⟨q1, q2⟩
    obtain ⟨i, rfl⟩ : ∃ i : Nat, j = i := ⟨j.toNat, by omega⟩
    have hi : i < n := by omega
    have hg : cs.getD (0 + i) 0 = (cs.take n).getD i 0 := by simp [List.getD, List.getElem?_take, hi]
    have hz := hl _ (mem_getD.2 ⟨i, by omega, rfl⟩)
    obtain ⟨o1, o2, o3⟩ := ordOK_two ho (show i < n from hi) hn
    have hstep : impl_tracer_all_on_renumbering_c1_l1 t n c cs (k' + 1) true i = if nearP t (cs.take n) c i then impl_tracer_all_on_renumbering_c1_l1 t n c cs k' true ((i : Int) + 1) else some false := by
      rw [impl_tracer_all_on_renumbering_c1_l1, if_pos (decide_eq_true h1), if_pos ⟨h0, h1, by omega⟩, Int.toNat_natCast, hg, Int.toNat_natCast, w64_succ h0 h1 (by omega)]
      by_cases e : (cs.take n).getD i 0 = (c : Int)
      · rw [if_pos (decide_eq_true e), if_neg (fun q : nearP t (cs.take n) c i => q.1 e)]; rfl
      · rw [if_neg (by simpa using e), if_pos ⟨h0, by omega⟩, implAt_ne _ _ _ (by omega) (by omega) (by omega) (by omega) o3, Option.bind_some, implAt_ne _ _ _ (by omega) (by omega) (by omega) (by omega) e, Option.bind_some, Option.bind_some]
        have hnp : nearP t (cs.take n) c i ↔ (cs.take n).getD i 0 ≠ (c : Int) ∧ t.x.cc (t.o.getD i 0) (t.o.getD n 0) = t.y.cc ((cs.take n).getD i 0) c := by
          unfold nearP
          rw [hlen]
        by_cases e2 : t.x.cc (t.o.getD i 0) (t.o.getD n 0) = t.y.cc ((cs.take n).getD i 0) c
        · rw [if_pos (hnp.2 ⟨e, e2⟩), decide_eq_true e2]; rfl
        · rw [if_neg (fun q => e2 (hnp.1 q).2), decide_eq_false e2]; rfl
    by_cases h : nearP t (cs.take n) c i
    · left
      refine ⟨(), ?_, by omega, fun a ha => ?_⟩
      · show impl_tracer_all_on_renumbering_c1_l1 t n c cs (k' + 1) true i = _
        rw [hstep, if_pos h]
      · rcases Nat.lt_or_ge a i with w | w
        · exact q2 a (by omega)
        · rw [show a = i by omega]; exact h
    · right
      refine ⟨false, ?_, ?_⟩
      · show impl_tracer_all_on_renumbering_c1_l1 t n c cs (k' + 1) true i = _
        rw [hstep, if_neg h]
      · exact (decide_eq_false fun q => h (q i (by omega))).symm
  · rintro k' j _ h0 h1 ⟨q1, q2⟩
    refine ⟨true, ?_, ?_⟩
    · show impl_tracer_all_on_renumbering_c1_l1 t n c cs (k' + 1) true j = _
      rw [impl_tracer_all_on_renumbering_c1_l1, if_neg (by simp only [decide_eq_true_eq]; omega)]
    · exact (decide_eq_true fun i hi => q2 i (by omega)).symm

theorem run_renumbering_c1 (t : Tra) (ho : ordOK t.o) (hp : 1 ≤ t.y.p ∧ t.y.p ≤ 17) (cb : List Int → List Int → Bool × List Int) (Inv : List Int → Prop)
    (hcb : ∀ (k : Nat) (cs : List Int) (s : List Int), 100 ≤ k → cs.length = 17 → isRen t (cs.take t.o.length) → Inv s → impl_Colouring_renumbering_c1 cs t.o.length s = some ((cb (cs.take t.o.length) s).1, cs, (cb (cs.take t.o.length) s).2) ∧ ((cb (cs.take t.o.length) s).1 = true → Inv (cb (cs.take t.o.length) s).2)) :
    ∀ (d : Nat) (cs : List Int) (n : Nat) (s : List Int) (k : Nat), n + d = t.o.length → cs.length = 17 → isRen t (cs.take n) → Inv s → d + 200 ≤ k →
      ∃ cs', cs'.length = 17 ∧ cs'.take n = cs.take n ∧ impl_tracer_all_on_renumbering_c1 k t cs n s = some ((runT cb (exts t.y.p.toNat (okT t) d (cs.take n)) s).1, cs', (runT cb (exts t.y.p.toNat (okT t) d (cs.take n)) s).2) ∧
        ((runT cb (exts t.y.p.toNat (okT t) d (cs.take n)) s).1 = true → Inv (runT cb (exts t.y.p.toNat (okT t) d (cs.take n)) s).2) := by
  have hn17 := ordOK_le ho
  intro d
  induction d with
  | zero =>
    intro cs n s k hn hcs hr hi hk
    obtain ⟨k, rfl⟩ : ∃ q, k = q + 1 := ⟨k - 1, by omega⟩
    rw [exts_zero, runT_one]
    have hnn : n = t.o.length := by omega
    subst hnn
    obtain ⟨c1, c2⟩ := hcb k cs s (by omega) hcs hr hi
    refine ⟨cs, hcs, rfl, ?_, c2⟩
    rw [impl_tracer_all_on_renumbering_c1, impl_tracer_all_on_renumbering_c1_body, if_pos (decide_eq_true rfl), c1]
    rfl
  | succ d ih =>
    intro cs n s k hn hcs hr hi hk
    obtain ⟨k, rfl⟩ : ∃ q, k = q + 1 := ⟨k - 1, by omega⟩
    rw [exts_succ]
    obtain ⟨l, hl⟩ : ∃ l, l = cs.take n := ⟨_, rfl⟩
    have hll : l.length = n := by rw [hl]; simp; omega
    rw [← hl] at hr
    rw [← hl]
    have hlr := isRen_range hr
    have hK : ((t.y.p.toNat : Nat) : Int) = t.y.p := by omega
    obtain ⟨on1, on2⟩ := ho.1 n (by omega)
    have := loopI (f := fun k' c (st : List Int × List Int) => impl_tracer_all_on_renumbering_c1_l0 k (impl_tracer_all_on_renumbering_c1 k) t n k' c st.1 st.2) t.y.p 0
      (fun c st => c ≤ t.y.p ∧ st.1.length = 17 ∧ st.1.take n = l ∧ runT cb (epre t.y.p.toNat (okT t) d l c.toNat) s = (true, st.2) ∧ Inv st.2)
      (fun r => ∃ cs', cs'.length = 17 ∧ cs'.take n = l ∧ ((∃ s', r = .inl (cs', s') ∧ runT cb (epre t.y.p.toNat (okT t) d l t.y.p.toNat) s = (true, s') ∧ Inv s') ∨ (∃ s', r = .inr (false, cs', s') ∧ runT cb (epre t.y.p.toNat (okT t) d l t.y.p.toNat) s = (false, s')))) ?_ ?_ k 0 (cs, s) (by omega) (by omega) ⟨by omega, hcs, hl.symm, rfl, hi⟩
    · obtain ⟨r, e, cs', h1, h2, h3⟩ := this
      refine ⟨cs', h1, h2, ?_, ?_⟩
      · rw [impl_tracer_all_on_renumbering_c1, impl_tracer_all_on_renumbering_c1_body, if_neg (by simp only [decide_eq_true_eq]; omega), if_pos ⟨by omega, by omega⟩, e]
        rcases h3 with ⟨s', rfl, h4, _⟩ | ⟨s', rfl, h4⟩ <;> rw [h4] <;> rfl
      · rcases h3 with ⟨s', rfl, h4, h5⟩ | ⟨s', rfl, h4⟩
        · rw [h4]; intro _; exact h5
        · rw [h4]; intro h; cases h
    · rintro k' j ⟨ds, u⟩ h0 h1 ⟨q1, q2, q3, q4, q5⟩
      dsimp only at q2 q3 q4 q5
      obtain ⟨c, rfl⟩ : ∃ c : Nat, j = c := ⟨j.toNat, by omega⟩
      rw [Int.toNat_natCast] at q4
      have hnear := same_renumbering_c1 t ho (by omega) ds n c (by omega) (by omega) (by rw [q3]; exact hlr) h1 k (by omega)
      rw [q3] at hnear
      obtain ⟨B, hB⟩ := epre_more (K := t.y.p.toNat) (ok := okT t) (n := d) (l := l) (c + 1) (t.y.p.toNat - (c + 1))
      rw [show c + 1 + (t.y.p.toNat - (c + 1)) = t.y.p.toNat by omega] at hB
      have hpre := epre_succ (K := t.y.p.toNat) (ok := okT t) (n := d) (l := l) c
      have hstep : impl_tracer_all_on_renumbering_c1_l0 k (impl_tracer_all_on_renumbering_c1 k) t n (k' + 1) c ds u = ((if okT t l c then (impl_tracer_all_on_renumbering_c1 k t (splicedL ds (0 + n) ([(c : Int)].length) [(c : Int)]) (n + [(c : Int)].length) u).bind fun r23 => some (!r23.1, r23.2.1, r23.2.2) else some (false, ds, u)) : Option (Bool × List Int × List Int)).bind fun s24 => if s24.1 then some (.inr (false, s24.2.1, s24.2.2)) else impl_tracer_all_on_renumbering_c1_l0 k (impl_tracer_all_on_renumbering_c1 k) t n k' ((c : Int) + 1) s24.2.1 s24.2.2 := by
        rw [impl_tracer_all_on_renumbering_c1_l0, if_pos (decide_eq_true h1), Int.toNat_natCast, if_pos ⟨on1, on2⟩, if_pos ⟨h0, by omega⟩, Int.toNat_natCast, hnear, Option.bind_some, w64_succ h0 h1 (by omega)]
        unfold okT
        rw [hll]
        cases t.get ((t.o.getD n 0).toNat * 17 + c) with
        | false => rfl
        | true =>
          simp only [Bool.not_true, Bool.false_eq_true, if_false, Bool.true_and]
          by_cases hq : nearT t l c
          · rw [decide_eq_true hq, if_pos rfl, if_pos rfl, if_pos ⟨by simp only [List.length_singleton]; omega, by simp⟩]
            cases impl_tracer_all_on_renumbering_c1 k t (splicedL ds (0 + n) ([(c : Int)].length) [(c : Int)]) (n + [(c : Int)].length) u with
            | none => rfl
            | some r => cases hr : r.1 <;> simp [hr]
          · rw [decide_eq_false hq]; rfl
      cases hok : okT t l c with
      | false =>
        left
        refine ⟨(ds, u), ?_, by omega, q2, q3, ?_, q5⟩
        · show impl_tracer_all_on_renumbering_c1_l0 k (impl_tracer_all_on_renumbering_c1 k) t n (k' + 1) c ds u = _
          rw [hstep, hok]; rfl
        · rw [show ((c : Int) + 1).toNat = c + 1 by omega, hpre]
          unfold esub
          rw [hok, if_neg (by simp), List.append_nil]
          exact q4
      | true =>
        obtain ⟨p1, p2⟩ := spl_one ds n c (by omega)
        rw [q3] at p2
        obtain ⟨es, g1, g2, g3, g4⟩ := ih (splicedL ds (0 + n) ([(c : Int)].length) [(c : Int)]) (n + 1) u k (by omega) (by rw [p1, q2]) (by rw [p2]; exact isRen_snoc hr (by omega) hok) q5 (by omega)
        rw [p2] at g2 g3 g4
        have g2' : es.take n = l := by
          have : (es.take (n + 1)).take n = (l ++ [(c : Int)]).take n := by rw [g2]
          have e2 : (l ++ [(c : Int)]).take n = l := by rw [List.take_append_of_le_length (by omega), List.take_of_length_le (by omega)]
          rw [List.take_take, show min n (n + 1) = n by omega, e2] at this
          exact this
        have hsub : esub t.y.p.toNat (okT t) d l c = exts t.y.p.toNat (okT t) d (l ++ [(c : Int)]) := by unfold esub; rw [hok, if_pos rfl]
        have hr2 : runT cb (epre t.y.p.toNat (okT t) d l (c + 1)) s = runT cb (exts t.y.p.toNat (okT t) d (l ++ [(c : Int)])) u := by
          rw [hpre, runT_app, q4, hsub]; rfl
        rw [show n + [(c : Int)].length = n + 1 from rfl] at hstep
        cases hb : (runT cb (exts t.y.p.toNat (okT t) d (l ++ [(c : Int)])) u).1 with
        | true =>
          left
          refine ⟨(es, (runT cb (exts t.y.p.toNat (okT t) d (l ++ [(c : Int)])) u).2), ?_, by omega, g1, g2', ?_, g4 hb⟩
          · show impl_tracer_all_on_renumbering_c1_l0 k (impl_tracer_all_on_renumbering_c1 k) t n (k' + 1) c ds u = _
            rw [hstep, hok, if_pos rfl, g3, hb]; rfl
          · rw [show ((c : Int) + 1).toNat = c + 1 by omega, hr2, ← hb]
        | false =>
          right
          refine ⟨.inr (false, es, (runT cb (exts t.y.p.toNat (okT t) d (l ++ [(c : Int)])) u).2), ?_, es, g1, g2', .inr ⟨_, rfl, ?_⟩⟩
          · show impl_tracer_all_on_renumbering_c1_l0 k (impl_tracer_all_on_renumbering_c1 k) t n (k' + 1) c ds u = _
            rw [hstep, hok, if_pos rfl, g3, hb]; rfl
          · rw [hB, runT_app, hr2, hb]; rfl
    · rintro k' j ⟨ds, u⟩ h0 h1 ⟨q1, q2, q3, q4, q5⟩
      dsimp only at q2 q3 q4 q5
      refine ⟨.inl (ds, u), ?_, ds, q2, q3, .inl ⟨u, rfl, ?_, q5⟩⟩
      · show impl_tracer_all_on_renumbering_c1_l0 k (impl_tracer_all_on_renumbering_c1 k) t n (k' + 1) j ds u = _
        rw [impl_tracer_all_on_renumbering_c1_l0, if_neg (by simp only [decide_eq_true_eq]; omega)]
      · rw [show j.toNat = t.y.p.toNat by omega] at q4
        exact q4

/-! ### The one that is found -/
def cbR (e : List Int) (s : List Int) : Bool × List Int := (false, e)
theorem pts_ord {x : Col} (hp : 1 ≤ x.p ∧ x.p ≤ 17) : ordOK (pts x) ∧ (pts x).length = x.p.toNat ∧ ∀ i, i < x.p.toNat → (pts x).getD i 0 = (i : Int) := by
  have hl : (pts x).length = x.p.toNat := by unfold pts; rw [ir_length]; omega
  have hg : ∀ i, i < x.p.toNat → (pts x).getD i 0 = (i : Int) := fun i hi => by
    unfold pts ir
    simp [List.getD, List.getElem?_map, List.getElem?_range', hi]
  exact ⟨⟨fun i hi => by rw [hg i (by omega)]; omega, ir_nodup 0 _⟩, hl, hg⟩
theorem points_val {k : Nat} (x : Col) (hp : 1 ≤ x.p ∧ x.p ≤ 17) (hk : 20 ≤ k) : impl_Colouring_points k x = some (pts x) := by
  unfold impl_Colouring_points impl_Colouring_points_c1
  rw [that_val x hp hk _ (fun _ => true) (fun a _ => rfl), Option.bind_some, List.filter_eq_self.2 (fun _ _ => rfl)]
  rfl
theorem iso_val {k : Nat} (hk : 5000 ≤ k) {x y : Col} (hx : x.is) (hy : y.is) (h1 : x.p = y.p) (h2 : x.k = y.k) : ∃ t, TI x y (pts x) x.p.toNat 0 t ∧ impl_AreIsomorphic k x y = some (decide (exts y.p.toNat (okT t) x.p.toNat [] ≠ []), 0) := by
  classical
  have hp := hx.1
  obtain ⟨o1, o2, o3⟩ := pts_ord hp
  obtain ⟨t, e, ht⟩ := tracer_val hx hy (pts x) k (by omega) h1 h2
  refine ⟨t, ht, ?_⟩
  have hto : t.o.length = x.p.toNat := by rw [ht.ho, o2]
  have hty : t.y.p = x.p := by rw [ht.hy, h1]
  obtain ⟨cs', _, _, r, _⟩ := run_renumbering_c1 t (by rw [ht.ho]; exact o1) (by omega) cbR (fun _ => True) (fun k cs s _ hcs _ _ => by
    refine ⟨?_, fun h => by cases h⟩
    have hne : ((cs.drop 0).take t.o.length).isEmpty = false := by
      rw [List.drop_zero]
      cases hc : cs.take t.o.length with
      | nil => have := congrArg List.length hc; rw [List.length_take, hcs, hto, List.length_nil] at this; omega
      | cons a b => rfl
    have hcl : (cs.take t.o.length).length ≤ 1099511627776 := Nat.le_trans (List.length_take_le _ _) (by rw [hto]; omega)
    unfold impl_Colouring_renumbering_c1 cloneA
    rw [hne, if_neg (by simp), List.drop_zero, if_pos hcl]
    rfl) x.p.toNat (List.replicate 17 0) 0 [] k (by omega) (by simp) (isRen_nil t) trivial (by omega)
  rw [List.take_zero, ht.hy] at r
  have hval : ∀ L : List (List Int), (runT cbR L []).1 = decide (L = []) := fun L => by
    cases L with
    | nil => rfl
    | cons a b => rfl
  unfold impl_AreIsomorphic impl_Colouring_renumbering impl_Colouring_leading_on_renumbering_c1
  rw [isColouring_eq k (by omega), isColouring_eq k (by omega), decide_eq_true hx, decide_eq_true hy, points_val x hp (by omega)]
  simp only [Option.bind_some, Bool.not_true, Bool.false_eq_true, if_false, e, r, hval, decide_not]
/-! ### Degrees of points that are renumbered -/
theorem dgC_ren {x : Col} (hx : x.is) {l : List Int} (ho : isOrd l x.p) {i : Nat} (hi : i < x.p.toNat) (c : Nat) : dgC (ren x l) (l.getD i 0).toNat c x.p.toNat = dgC x i c x.p.toNat := by
  have hp := hx.1
  have on := ord_nat hp ho
  have hperm : ((List.range x.p.toNat).map fun q => (l.getD q 0).toNat).Perm (List.range x.p.toNat) := by
    refine (List.perm_ext_iff_of_nodup (nodup_map_on _ _ List.nodup_range fun a ha b hb e => ?_) List.nodup_range).2 fun q => ?_
    · have ha := List.mem_range.1 ha
      have hb := List.mem_range.1 hb
      obtain ⟨a', e1, _⟩ := ord_at on ha
      obtain ⟨b', e2, _⟩ := ord_at on hb
      exact ord_ne on ha hb (by rw [e1, e2] at e ⊢; omega)
    · rw [List.mem_map, List.mem_range]
      constructor
      · rintro ⟨a, ha, rfl⟩
        obtain ⟨a', e1, h⟩ := ord_at on (List.mem_range.1 ha)
        omega
      · intro hq
        obtain ⟨a, ha, e⟩ := ord_surj on hq
        exact ⟨a, List.mem_range.2 ha, by omega⟩
  unfold dgC
  rw [← hperm.countP_eq, List.countP_map]
  refine List.countP_congr fun q hq => ?_
  have hq := List.mem_range.1 hq
  obtain ⟨a, e1, ha⟩ := ord_at on hq
  obtain ⟨b, e2, hb⟩ := ord_at on hi
  have hne : a ≠ b ↔ q ≠ i := ⟨fun h e => h (by subst e; omega), fun h e => h (ord_ne on hq hi (by omega))⟩
  simp only [Function.comp_apply, Bool.and_eq_true, decide_eq_true_eq]
  rw [e1, e2, Int.toNat_natCast, Int.toNat_natCast]
  constructor
  · rintro ⟨h1, h2⟩
    have h3 := hne.1 h1
    have := ren_cc hx ho (a := i) (b := q) (by omega) (by omega) (fun h => h3 h.symm)
    rw [e1, e2] at this
    exact ⟨h3, by rw [← this, h2]⟩
  · rintro ⟨h1, h2⟩
    have := ren_cc hx ho (a := i) (b := q) (by omega) (by omega) (fun h => h1 h.symm)
    rw [e1, e2] at this
    exact ⟨hne.2 h1, by rw [this, h2]⟩
theorem dgs_ren {x : Col} (hx : x.is) {l : List Int} (ho : isOrd l x.p) {i : Nat} (hi : i < x.p.toNat) : dgs (ren x l) (l.getD i 0).toNat = dgs x i := by
  unfold dgs
  rw [ren_p x hx ho, ren_k x hx ho]
  exact mapL_ext fun c _ => by rw [dgC_ren hx ho hi]
theorem ren_isRen {x : Col} (hx : x.is) {l : List Int} (ho : isOrd l x.p) {t : Tra} (ht : TI x (ren x l) (pts x) x.p.toNat 0 t) : isRen t l := by
  have hp := hx.1
  have on := ord_nat hp ho
  have hl := ho.1
  obtain ⟨o1, o2, o3⟩ := pts_ord hp
  have hrp := ren_p x hx ho
  intro i hi
  obtain ⟨c, e1, hc⟩ := ord_at on (i := i) (by omega)
  refine ⟨c, by rw [ht.hy, hrp]; exact hc, e1, ?_⟩
  have hle : (l.take i).length = i := by simp; omega
  have hd := dgs_ren hx ho (i := i) (by omega)
  rw [e1, Int.toNat_natCast] at hd
  unfold okT
  rw [hle, ht.ho, o3 i (by omega), Int.toNat_natCast, ht.g i c (by omega) (by rw [hrp]; exact hc) (.inl (by omega)), decide_eq_true hd.symm, Bool.true_and, decide_eq_true_eq]
  intro j hj
  rw [hle] at hj
  have hg : (l.take i).getD j 0 = l.getD j 0 := by simp [List.getD, List.getElem?_take, hj]
  unfold nearP
  rw [hg, hle, ht.ho, ht.hx, ht.hy, o3 i (by omega), o3 j (by omega)]
  refine ⟨fun e => ?_, ?_⟩
  · have := ord_ne on (i := j) (j := i) (by omega) (by omega) (by rw [e, e1])
    omega
  · have := ren_cc hx ho (a := j) (b := i) (by omega) (by omega) (by omega)
    rw [e1] at this
    exact this.symm
theorem iso_ren {k : Nat} (hk : 5000 ≤ k) {x : Col} (hx : x.is) {l : List Int} (ho : isOrd l x.p) : impl_AreIsomorphic k x (ren x l) = some (true, 0) := by
  have hp := hx.1
  have hl := ho.1
  obtain ⟨t, ht, e⟩ := iso_val hk hx (ren_is hx ho) (ren_p x hx ho).symm (ren_k x hx ho).symm
  have := isRen_mem.2 (ren_isRen hx ho ht)
  rw [ht.hy, show l.length = x.p.toNat by omega] at this
  rw [e, decide_eq_true (List.ne_nil_of_mem this)]
end Go.Proofs.Ytjcgphgipleccaa
