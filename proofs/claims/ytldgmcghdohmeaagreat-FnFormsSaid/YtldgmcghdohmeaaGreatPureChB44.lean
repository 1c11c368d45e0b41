/- Plain laws: renumberings one after the other; points that automorphisms move; the number of automorphisms is a multiple of each orbit's length. No conditions beyond those that each lemma states. -/
import Derived.Test.YtldgmcghdohmeaaGreatPureChA44
import Derived.Test.YtldgmcghdohmeaaGreatMg14
import Derived.Test.YtldgmcghdohmeaaGreatMg38
set_option linter.unusedVariables false
set_option linter.unusedSimpArgs false
namespace Go.Proofs.YtldgmcghdohmeaaGreat
open Go Go.RowKit Ab

/-! ### One renumbering behind another -/
def cpL (l m : List Int) (n : Nat) : List Int := mapL n fun i => m.getD (l.getD i 0).toNat 0
theorem cp_get (l m : List Int) {n i : Nat} (h : i < n) : (cpL l m n).getD i 0 = m.getD (l.getD i 0).toNat 0 := mapL_get _ _ _ h
theorem cp_ord {l m : List Int} {n : Nat} (hl : isOrd l n) (hm : isOrd m n) : isOrd (cpL l m n) n := by
 have hlen : (cpL l m n).length = n := mapL_length _ _
 refine ⟨by rw [hlen], fun a ha => ?_, fun i j hij hj e => ?_⟩
 ·rw [hlen] at ha
  obtain ⟨b, e, hb⟩ := ord_at hl ha
  obtain ⟨c, e2, hc⟩ := ord_at hm hb
  rw [cp_get l m ha, e, Int.toNat_natCast, e2]
  omega
 ·rw [hlen] at hj
  obtain ⟨b, e1, hb⟩ := ord_at hl (show i < n by omega)
  obtain ⟨c, e2, hc⟩ := ord_at hl hj
  rw [cp_get l m (by omega), cp_get l m hj, e1, e2, Int.toNat_natCast, Int.toNat_natCast] at e
  have := ord_ne hm hb hc e
  have := ord_ne hl (show i < n by omega) hj (by rw [e1, e2, this])
  omega
theorem to_ord {x : Col} (hp : 1 ≤ x.p ∧ x.p ≤ 17) {l : List Int} (h : isOrd l (x.p.toNat : Int)) : isOrd l x.p := by
 rwa [show ((x.p.toNat : Nat) : Int) = x.p by omega] at h
/-- A renumbering is told by the colours that it leads to. -/
theorem ren_uniq {x y : Col} (hx : x.is) (hy : y.is) {l : List Int} (ho : isOrd l x.p) (h1 : x.p = y.p) (h2 : x.k = y.k) (h : ∀ a b : Nat, a < b → b < x.p.toNat → y.cc (l.getD a 0) (l.getD b 0) = x.cc a b) : ren x l = y := by
 have hp := hx.1
 have on := ord_nat hp ho
 have hrp := ren_p x hx ho
 have hrk := ren_k x hx ho
 refine col_ext (ren_is hx ho) hy (hrp.trans h1) (hrk.trans h2) fun a b hab hb => ?_
 rw [hrp] at hb
 obtain ⟨i, hi, ei⟩ := ord_surj on (v := a) (by omega)
 obtain ⟨j, hj, ej⟩ := ord_surj on (v := b) (by omega)
 have hij : i ≠ j := fun e => by subst e; omega
 have hc := ren_cc hx ho (a := i) (b := j) (by omega) (by omega) hij
 rw [ei, ej] at hc
 rw [hc]
 rcases Nat.lt_or_gt_of_ne hij with w | w
 ·have := h i j w hj
  rw [ei, ej] at this
  exact this.symm
 ·have := h j i w hi
  rw [ei, ej] at this
  rw [cc_comm, ← this, cc_comm]
theorem ren_cp {x : Col} (hx : x.is) {l m : List Int} (hl : isOrd l x.p) (hm : isOrd m x.p) : isOrd (cpL l m x.p.toNat) x.p ∧ ren x (cpL l m x.p.toNat) = ren (ren x l) m := by
 have hp := hx.1
 have ol := ord_nat hp hl
 have om := ord_nat hp hm
 have hr := ren_is hx hl
 have hrp := ren_p x hx hl
 have hm' : isOrd m (ren x l).p := by rw [hrp]; exact hm
 have ho := to_ord hp (cp_ord ol om)
 refine ⟨ho, ren_uniq hx (ren_is hr hm') ho (by rw [ren_p _ hr hm', hrp]) (by rw [ren_k _ hr hm', ren_k x hx hl]) fun a b hab hb => ?_⟩
 obtain ⟨c, e1, hc⟩ := ord_at ol (show a < x.p.toNat by omega)
 obtain ⟨d, e2, hd⟩ := ord_at ol hb
 have hcd : c ≠ d := fun e => by
  have := ord_ne ol (show a < x.p.toNat by omega) hb (by rw [e1, e2, e])
  omega
 rw [cp_get l m (by omega), cp_get l m hb, e1, e2, Int.toNat_natCast, Int.toNat_natCast]
 rw [ren_cc hr hm' (a := c) (b := d) (by omega) (by omega) hcd]
 have := ren_cc hx hl (a := a) (b := b) (by omega) (by omega) (by omega)
 rw [e1, e2] at this
 exact this
theorem mem_RN {x : Col} (hx : x.is) {l : List Int} : l ∈ RN x x ↔ isOrd l x.p ∧ ren x l = x :=
 ⟨fun h => ⟨(RN_ok hx hx h).2.2.1, (RN_ok hx hx h).2.2.2⟩, fun ⟨h1, h2⟩ => by
  have := RN_ren hx h1
  rwa [h2] at this⟩
theorem RN_nodup (x y : Col) : (RN x y).Nodup := by
 unfold RN
 split
 ·exact exts_nodup _ _
 ·simp
def idL (n : Nat) : List Int := mapL n fun i => (i : Int)
theorem idL_get {n i : Nat} (h : i < n) : (idL n).getD i 0 = (i : Int) := mapL_get _ _ _ h
theorem idL_ord (n : Nat) : isOrd (idL n) n := ordL_ok (ordL_id n)
theorem aut_id {x : Col} (hx : x.is) : idL x.p.toNat ∈ RN x x := by
 have hp := hx.1
 have ho := to_ord hp (idL_ord x.p.toNat)
 refine (mem_RN hx).2 ⟨ho, ren_uniq hx hx ho rfl rfl fun a b hab hb => ?_⟩
 rw [idL_get (by omega), idL_get hb]
theorem aut_cp {x : Col} (hx : x.is) {l m : List Int} (hl : l ∈ RN x x) (hm : m ∈ RN x x) : cpL l m x.p.toNat ∈ RN x x := by
 obtain ⟨l1, l2⟩ := (mem_RN hx).1 hl
 obtain ⟨m1, m2⟩ := (mem_RN hx).1 hm
 obtain ⟨h1, h2⟩ := ren_cp hx l1 m1
 exact (mem_RN hx).2 ⟨h1, by rw [h2, l2, m2]⟩
theorem aut_bk {x : Col} (hx : x.is) {l : List Int} (hl : l ∈ RN x x) : bkL l x.p.toNat ∈ RN x x := by
 obtain ⟨l1, l2⟩ := (mem_RN hx).1 hl
 obtain ⟨h1, h2⟩ := ren_ren hx l1
 rw [l2] at h1 h2
 exact (mem_RN hx).2 ⟨h1, h2⟩

/-! ### Points that are moved -/
def mv (x : Col) (p q : Nat) : Bool := (RN x x).any fun l => decide (l.getD p 0 = (q : Int))
theorem mv_iff {x : Col} {p q : Nat} : mv x p q = true ↔ ∃ l ∈ RN x x, l.getD p 0 = (q : Int) := by
 unfold mv
 rw [List.any_eq_true]
 simp only [decide_eq_true_eq]
theorem mv_refl {x : Col} (hx : x.is) {p : Nat} (hp : p < x.p.toNat) : mv x p p = true := mv_iff.2 ⟨_, aut_id hx, idL_get hp⟩
theorem mv_symm {x : Col} (hx : x.is) {p q : Nat} (hp : p < x.p.toNat) (h : mv x p q = true) : mv x q p = true := by
 obtain ⟨l, hl, e⟩ := mv_iff.1 h
 have on := ord_nat hx.1 ((mem_RN hx).1 hl).1
 refine mv_iff.2 ⟨_, aut_bk hx hl, ?_⟩
 have := bk_back on hp
 rwa [e, Int.toNat_natCast] at this
theorem mv_trans {x : Col} (hx : x.is) {p q r : Nat} (hp : p < x.p.toNat) (h1 : mv x p q = true) (h2 : mv x q r = true) : mv x p r = true := by
 obtain ⟨l, hl, e⟩ := mv_iff.1 h1
 obtain ⟨m, hm, e2⟩ := mv_iff.1 h2
 exact mv_iff.2 ⟨_, aut_cp hx hl hm, by rw [cp_get l m hp, e, Int.toNat_natCast, e2]⟩

/-! ### Orbits and stabilisers -/
def fixN (x : Col) (p q : Nat) : List (List Int) := (RN x x).filter fun l => decide (l.getD p 0 = (q : Int))
theorem mem_fix {x : Col} {p q : Nat} {l : List Int} : l ∈ fixN x p q ↔ l ∈ RN x x ∧ l.getD p 0 = (q : Int) := by
 unfold fixN
 rw [List.mem_filter, decide_eq_true_eq]
theorem fix_nodup (x : Col) (p q : Nat) : (fixN x p q).Nodup := (RN_nodup x x).sublist List.filter_sublist
theorem cp_inj {x : Col} (hx : x.is) {g : List Int} (hg : isOrd g x.p) {a b : List Int} (ha : isOrd a x.p) (hb : isOrd b x.p) (e : cpL a g x.p.toNat = cpL b g x.p.toNat) : a = b := by
 have hp := hx.1
 have oa := ord_nat hp ha
 have ob := ord_nat hp hb
 have og := ord_nat hp hg
 have la := oa.1
 have lb := ob.1
 refine List.ext_getElem (by omega) fun i h1 h2 => ?_
 have hi : i < x.p.toNat := by omega
 obtain ⟨c, e1, hc⟩ := ord_at oa hi
 obtain ⟨d, e2, hd⟩ := ord_at ob hi
 have := congrArg (fun l => l.getD i 0) e
 rw [cp_get a g hi, cp_get b g hi, e1, e2, Int.toNat_natCast, Int.toNat_natCast] at this
 have hcd := ord_ne og hc hd this
 have f1 : a.getD i 0 = a[i] := by simp [List.getD, h1]
 have f2 : b.getD i 0 = b[i] := by simp [List.getD, h2]
 rw [← f1, ← f2, e1, e2, hcd]
theorem fix_le {x : Col} (hx : x.is) {p q r : Nat} (hp : p < x.p.toNat) {g : List Int} (hg : g ∈ RN x x) (e : g.getD q 0 = (r : Int)) : (fixN x p q).length ≤ (fixN x p r).length := by
 have og := ((mem_RN hx).1 hg).1
 have h1 : ((fixN x p q).map fun l => cpL l g x.p.toNat).Nodup := nodup_map_on _ _ (fix_nodup x p q) fun a ha b hb e =>
  cp_inj hx og ((mem_RN hx).1 (mem_fix.1 ha).1).1 ((mem_RN hx).1 (mem_fix.1 hb).1).1 e
 have := sub_len _ (fixN x p r) h1 fun a ha => by
  obtain ⟨l, hl, rfl⟩ := List.mem_map.1 ha
  obtain ⟨h2, h3⟩ := mem_fix.1 hl
  exact mem_fix.2 ⟨aut_cp hx h2 hg, by rw [cp_get l g hp, h3, Int.toNat_natCast, e]⟩
 rwa [List.length_map] at this
theorem fix_same {x : Col} (hx : x.is) {p q : Nat} (hp : p < x.p.toNat) (h : mv x p q = true) : (fixN x p q).length = (fixN x p p).length := by
 obtain ⟨g, hg, e⟩ := mv_iff.1 h
 obtain ⟨g', hg', e'⟩ := mv_iff.1 (mv_symm hx hp h)
 exact Nat.le_antisymm (fix_le hx hp hg' e') (fix_le hx hp hg e)
theorem fix_none {x : Col} {p q : Nat} (h : mv x p q = false) : (fixN x p q).length = 0 := by
 cases hf : fixN x p q with
 | nil => rfl
 | cons a t =>
  have ha : a ∈ fixN x p q := by rw [hf]; simp
  have := mv_iff.2 ⟨a, (mem_fix.1 ha).1, (mem_fix.1 ha).2⟩
  rw [h] at this
  cases this
def orb (x : Col) (p m : Nat) : List Nat := (List.range m).filter (mv x p)
theorem below_count (A : List (List Int)) (p m : Nat) (h : ∀ l ∈ A, 0 ≤ l.getD p 0) : (A.filter fun l => decide (l.getD p 0 < ((m + 1 : Nat) : Int))).length = (A.filter fun l => decide (l.getD p 0 < (m : Int))).length + (A.filter fun l => decide (l.getD p 0 = (m : Int))).length := by
 induction A with
 | nil => rfl
 | cons a t ih =>
  have ih := ih fun l hl => h l (List.mem_cons_of_mem _ hl)
  have h0 := h a (List.mem_cons_self ..)
  rw [List.filter_cons, List.filter_cons, List.filter_cons]
  by_cases h1 : a.getD p 0 < (m : Int)
  ·rw [decide_eq_true h1, decide_eq_true (show a.getD p 0 < ((m + 1 : Nat) : Int) by omega), decide_eq_false (show ¬ a.getD p 0 = (m : Int) by omega)]
   simp only [if_true, Bool.false_eq_true, if_false, List.length_cons]
   omega
  ·by_cases h2 : a.getD p 0 = (m : Int)
   ·rw [decide_eq_false h1, decide_eq_true (show a.getD p 0 < ((m + 1 : Nat) : Int) by omega), decide_eq_true h2]
    simp only [if_true, Bool.false_eq_true, if_false, List.length_cons]
    omega
   ·rw [decide_eq_false h1, decide_eq_false (show ¬ a.getD p 0 < ((m + 1 : Nat) : Int) by omega), decide_eq_false h2]
    simp only [Bool.false_eq_true, if_false]
    omega
theorem orb_count {x : Col} (hx : x.is) {p : Nat} (hp : p < x.p.toNat) : ∀ m, m ≤ x.p.toNat → ((RN x x).filter fun l => decide (l.getD p 0 < (m : Int))).length = (orb x p m).length * (fixN x p p).length
 | 0, _ => by
  have : (RN x x).filter (fun l => decide (l.getD p 0 < ((0 : Nat) : Int))) = [] := List.filter_eq_nil_iff.2 fun l hl => by
   obtain ⟨c, e, _⟩ := ord_at (ord_nat hx.1 ((mem_RN hx).1 hl).1) hp
   rw [e, decide_eq_true_eq]
   omega
  rw [this]
  simp [orb]
 | m + 1, hm => by
  rw [below_count _ _ _ (fun l hl => by
   obtain ⟨c, e, _⟩ := ord_at (ord_nat hx.1 ((mem_RN hx).1 hl).1) hp
   rw [e]; omega), orb_count hx hp m (by omega)]
  have e1 : orb x p (m + 1) = orb x p m ++ (if mv x p m then [m] else []) := by
   unfold orb
   rw [List.range_succ, List.filter_append, List.filter_cons, List.filter_nil]
  rw [e1, List.length_append, Nat.add_mul]
  congr 1
  show (fixN x p m).length = _
  cases h : mv x p m with
  | true => rw [if_pos rfl, fix_same hx hp h]; simp
  | false => rw [if_neg (by simp), fix_none h]; simp
/-- The number of automorphisms is a multiple of each orbit's length. -/
theorem orb_dvd {x : Col} (hx : x.is) {p : Nat} (hp : p < x.p.toNat) : (RN x x).length = (orb x p x.p.toNat).length * (fixN x p p).length := by
 rw [← orb_count hx hp x.p.toNat (Nat.le_refl _)]
 congr 1
 refine (List.filter_eq_self.2 fun l hl => ?_).symm
 obtain ⟨c, e, hc⟩ := ord_at (ord_nat hx.1 ((mem_RN hx).1 hl).1) hp
 rw [e, decide_eq_true_eq]
 omega

/-! ### The program's search -/
def oL (x : Col) (i : Nat) : List Int := [(i : Int)] ++ (pts x).filter fun a => !decide (a = (i : Int))
theorem oL_ord {x : Col} (hp : 1 ≤ x.p ∧ x.p ≤ 17) {i : Nat} (hi : i < x.p.toNat) : isOrd (oL x i) (x.p.toNat : Int) ∧ (oL x i).getD 0 0 = (i : Int) ∧ ordOK (oL x i) ∧ (oL x i).length = x.p.toNat := by
 have hn : (pts x).Nodup := ir_nodup 0 _
 have hm : (i : Int) ∈ pts x := (ir_mem _ _).2 (by omega)
 have hl : (pts x).length = x.p.toNat := by unfold pts; rw [ir_length]; omega
 have he : (pts x).filter (fun a => !decide (a = (i : Int))) = (pts x).erase (i : Int) := by
  rw [hn.erase_eq_filter]
  refine List.filter_congr fun a _ => ?_
  by_cases h : a = (i : Int)
  ·subst h; simp
  ·simp [h]
 have hlen : (oL x i).length = x.p.toNat := by
  unfold oL
  rw [he, List.length_append, List.length_erase_of_mem hm, hl, List.length_singleton]
  omega
 have hnd : (oL x i).Nodup := by
  unfold oL
  rw [List.singleton_append, List.nodup_cons]
  exact ⟨fun h => by simp at h, hn.sublist List.filter_sublist⟩
 have hr : ∀ z ∈ oL x i, 0 ≤ z ∧ z < (x.p.toNat : Int) := fun z hz => by
  unfold oL at hz
  rcases List.mem_append.1 hz with h | h
  ·rw [List.mem_singleton] at h; omega
  ·exact (ir_mem _ _).1 (List.mem_filter.1 h).1
 refine ⟨⟨by rw [hlen], fun a ha => hr _ (mem_getD.2 ⟨a, ha, rfl⟩), (distL_nodup _).2 hnd⟩, rfl, ⟨fun a ha => ?_, hnd⟩, hlen⟩
 have := hr _ (mem_getD.2 ⟨a, ha, rfl⟩)
 omega
/-- What the walk finds is an automorphism, seen in another order of the points. -/
theorem find_mv {x : Col} (hx : x.is) {o : List Int} {i j : Nat} (ho : isOrd o (x.p.toNat : Int)) (h0 : o.getD 0 0 = (i : Int)) (hi : i < x.p.toNat) (hj : j < x.p.toNat) {t : Tra} (ht : TI x x o x.p.toNat 0 t) :
  (t.get (i * 17 + j) = true ∧ exts t.y.p.toNat (okT t) (x.p.toNat - 1) [(j : Int)] ≠ []) ↔ mv x i j = true := by
 have hp := hx.1
 have hlo := ho.1
 have hg : ∀ a b : Nat, a < x.p.toNat → b < x.p.toNat → t.get (a * 17 + b) = decide (dgs x a = dgs x b) := fun a b ha hb => ht.g a b ha hb (.inl ha)
 have hN : t.y.p.toNat = x.p.toNat := by rw [ht.hy]
 rw [mv_iff]
 constructor
 ·rintro ⟨h1, h2⟩
  obtain ⟨e, he⟩ : ∃ e, e ∈ exts t.y.p.toNat (okT t) (x.p.toNat - 1) [(j : Int)] := by
   cases hc : exts t.y.p.toNat (okT t) (x.p.toNat - 1) [(j : Int)] with
   | nil => exact absurd hc h2
   | cons a b => exact ⟨a, by simp⟩
  have hlen := exts_len (K := t.y.p.toNat) (ok := okT t) _ _ e he
  rw [List.length_singleton] at hlen
  have hel : e.length = x.p.toNat := by omega
  have hr := exts_range (K := t.y.p.toNat) (ok := okT t) _ _ (fun z hz => by rw [List.mem_singleton] at hz; omega) e he
  obtain ⟨htk, hok⟩ := exts_ok _ _ e he
  rw [List.length_singleton] at htk hok
  have he0 : e.getD 0 0 = (j : Int) := by
   cases e with
   | nil => simp at htk
   | cons a b => simp at htk; simp [htk]
  have key : ∀ a b : Nat, a < b → b < x.p.toNat → e.getD a 0 ≠ e.getD b 0 ∧ x.cc (o.getD a 0) (o.getD b 0) = x.cc (e.getD a 0) (e.getD b 0) := fun a b hab hb => by
   obtain ⟨c, c1, c2, c3⟩ := hok b (by omega) (by omega)
   have hle : (e.take b).length = b := by simp; omega
   unfold okT at c3
   rw [Bool.and_eq_true, decide_eq_true_eq] at c3
   have := c3.2 a (by omega)
   unfold nearP at this
   have hgt : (e.take b).getD a 0 = e.getD a 0 := by simp [List.getD, List.getElem?_take, hab]
   rw [hgt, hle, ← c2, ht.hx, ht.hy, ht.ho] at this
   exact this
  have oe : isOrd e (x.p.toNat : Int) := ⟨by omega, fun a ha => by have := hr _ (mem_getD.2 ⟨a, ha, rfl⟩); omega, fun a b hab hb => (key a b hab (by omega)).1⟩
  have ol := cp_ord (bk_ord ho) oe
  have hlo2 : ∀ a, a < x.p.toNat → (cpL (bkL o x.p.toNat) e x.p.toNat).getD (o.getD a 0).toNat 0 = e.getD a 0 := fun a ha => by
   obtain ⟨c, e1, hc⟩ := ord_at ho ha
   have := bk_back ho ha
   rw [e1, Int.toNat_natCast] at this ⊢
   rw [cp_get _ _ hc, this, Int.toNat_natCast]
  refine ⟨cpL (bkL o x.p.toNat) e x.p.toNat, (mem_RN hx).2 ⟨to_ord hp ol, ren_uniq hx hx (to_ord hp ol) rfl rfl fun v w hvw hw => ?_⟩, ?_⟩
  ·obtain ⟨a, ha, ea⟩ := ord_surj ho (show v < x.p.toNat by omega)
   obtain ⟨b, hb, eb⟩ := ord_surj ho hw
   have h1 := hlo2 a ha
   have h2 := hlo2 b hb
   rw [ea, Int.toNat_natCast] at h1
   rw [eb, Int.toNat_natCast] at h2
   rw [h1, h2]
   rcases Nat.lt_trichotomy a b with q | q | q
   ·have := (key a b q hb).2
    rw [ea, eb] at this
    exact this.symm
   ·subst q; omega
   ·have := (key b a q ha).2
    rw [ea, eb] at this
    rw [cc_comm, ← this, cc_comm]
  ·have := hlo2 0 (by omega)
   rw [h0, Int.toNat_natCast, he0] at this
   exact this
 ·rintro ⟨l, hl, hlj⟩
  obtain ⟨l1, l2⟩ := (mem_RN hx).1 hl
  have ol := ord_nat hp l1
  have hdg : ∀ v, v < x.p.toNat → dgs x (l.getD v 0).toNat = dgs x v := fun v hv => by
   have := dgs_ren hx l1 hv
   rwa [l2] at this
  have hcc : ∀ v w : Nat, v < x.p.toNat → w < x.p.toNat → v ≠ w → x.cc (l.getD v 0) (l.getD w 0) = x.cc v w := fun v w hv hw hvw => by
   have := ren_cc hx l1 (a := v) (b := w) (by omega) (by omega) hvw
   rwa [l2] at this
  have h1 := hdg i hi
  rw [hlj, Int.toNat_natCast] at h1
  refine ⟨by rw [hg i j hi hj, decide_eq_true_eq, h1], fun hnil => ?_⟩
  have oe := cp_ord ho ol
  have he : cpL o l x.p.toNat ∈ exts t.y.p.toNat (okT t) (x.p.toNat - 1) [(j : Int)] := by
   have hel : (cpL o l x.p.toNat).length = x.p.toNat := mapL_length _ _
   have h00 : (cpL o l x.p.toNat).getD 0 0 = (j : Int) := by rw [cp_get _ _ (by omega), h0, Int.toNat_natCast, hlj]
   refine mem_exts _ _ _ (by rw [hel, List.length_singleton]; omega) ?_ fun b hb hb2 => ?_
   ·rw [List.length_singleton]
    generalize cpL o l x.p.toNat = e at hel h00
    cases e with
    | nil => simp at hel; omega
    | cons a b => simp at h00; simp [h00]
   ·rw [hel] at hb2
    obtain ⟨c, e1, hc⟩ := ord_at ho hb2
    obtain ⟨d, e2, hd⟩ := ord_at ol hc
    have hgb : (cpL o l x.p.toNat).getD b 0 = (d : Int) := by rw [cp_get _ _ hb2, e1, Int.toNat_natCast, e2]
    have hle : ((cpL o l x.p.toNat).take b).length = b := by simp [hel]; omega
    refine ⟨d, by omega, hgb, ?_⟩
    unfold okT
    rw [hle, ht.ho, e1, Int.toNat_natCast, hg c d hc hd, Bool.and_eq_true, decide_eq_true_eq, decide_eq_true_eq]
    have h3 := hdg c hc
    rw [e2, Int.toNat_natCast] at h3
    refine ⟨h3.symm, fun a ha => ?_⟩
    rw [hle] at ha
    have hgt : ((cpL o l x.p.toNat).take b).getD a 0 = (cpL o l x.p.toNat).getD a 0 := by simp [List.getD, List.getElem?_take, ha]
    obtain ⟨v, v1, hv⟩ := ord_at ho (show a < x.p.toNat by omega)
    obtain ⟨w, w1, hw⟩ := ord_at ol hv
    have hga : (cpL o l x.p.toNat).getD a 0 = (w : Int) := by rw [cp_get _ _ (by omega), v1, Int.toNat_natCast, w1]
    have hvc : v ≠ c := fun q => by
     have := ord_ne ho (show a < x.p.toNat by omega) hb2 (by rw [v1, e1, q])
     omega
    unfold nearP
    rw [hgt, hga, hle, ht.hx, ht.hy, ht.ho, v1, e1]
    have := hcc v c hv hc hvc
    rw [w1, e2] at this
    refine ⟨fun q => hvc (ord_ne ol hv hc (by rw [w1, e2, q])), this.symm⟩
  rw [hnil] at he
  simp at he
theorem moved_val {k : Nat} (hk : 5000 ≤ k) {x : Col} (hx : x.is) {i j : Nat} (hi : i < x.p.toNat) (hj : j < x.p.toNat) : impl_Colouring_isMoved k x i j = some (mv x i j) := by
 have hp := hx.1
 obtain ⟨o1, o2, o3, o4⟩ := oL_ord hp hi
 unfold impl_Colouring_isMoved
 rw [that_val x hp (by omega) _ (fun a => !decide (a = (i : Int))) (fun a _ => rfl), Option.bind_some]
 obtain ⟨t, e, ht⟩ := tracer_val hx hx (oL x i) k (by omega) rfl rfl
 have hol : ([(i : Int)]).length + ((ir 0 x.p.toNat).filter fun a => !decide (a = (i : Int))).length ≤ 1099511627776 := by
  have : (oL x i).length = ([(i : Int)]).length + ((ir 0 x.p.toNat).filter fun a => !decide (a = (i : Int))).length := by unfold oL pts; rw [List.length_append]
  omega
 rw [if_pos hol]
 show (((joinO (impl_newTracer k x x (oL x i))).bind fun r3 => _) : Option Bool) = _
 rw [e]
 show (if 0 ≤ (i : Int) ∧ (i : Int) < 17 then _ else none) = _
 rw [if_pos (by omega), if_pos (by omega), Int.toNat_natCast, Int.toNat_natCast]
 have hfm := find_mv hx o1 o2 hi hj ht
 cases hg : t.get (i * 17 + j) with
 | false =>
  rw [hg] at hfm
  have : mv x i j = false := by
   cases h : mv x i j with
   | false => rfl
   | true => exact absurd (hfm.2 h).1 (by simp)
  rw [this]; rfl
 | true =>
  rw [hg] at hfm
  simp only [Bool.not_true, Bool.false_eq_true, if_false]
  obtain ⟨p1, p2⟩ := spl_one (List.replicate 17 (0 : Int)) 0 (j : Int) (by simp)
  rw [List.take_zero, List.nil_append] at p2
  rw [if_pos ⟨by simp, by simp⟩]
  have hren : isRen t ((splicedL (List.replicate 17 (0 : Int)) (0 + 0) ([(j : Int)].length) [(j : Int)]).take (0 + 1)) := by
   rw [p2]
   intro a ha
   have ha0 : a = 0 := by simp at ha; exact ha
   subst ha0
   refine ⟨j, by rw [ht.hy]; exact hj, rfl, ?_⟩
   unfold okT
   rw [List.take_zero, ht.ho]
   show (t.get (((oL x i).getD 0 0).toNat * 17 + j) && decide (nearT t [] j)) = true
   rw [o2, Int.toNat_natCast, hg, Bool.true_and, decide_eq_true_eq]
   intro b hb
   simp at hb
  obtain ⟨cs', _, _, r, _⟩ := run_all t (by rw [ht.ho]; exact o3) (by rw [ht.hy]; exact hp) (fun a0 => some (impl_Colouring_isMoved_c2_nb a0)) (fun _ u => (false, u)) (fun _ => True) (fun k cs s _ _ _ _ => ⟨rfl, fun _ => trivial⟩)
   (x.p.toNat - 1) (splicedL (List.replicate 17 (0 : Int)) (0 + 0) ([(j : Int)].length) [(j : Int)]) (0 + 1) () k (by rw [ht.ho, o4]; omega) (by rw [p1]; simp) hren trivial (by omega)
  rw [show 0 + [(j : Int)].length = 0 + 1 from rfl, r, Option.bind_some, p2]
  have hval : ∀ L : List (List Int), (runT (fun (_ : List Int) (u : Unit) => (false, u)) L ()).1 = decide (L = []) := fun L => by
   cases L with
   | nil => rfl
   | cons a b => rfl
  rw [hval]
  cases hm : mv x i j with
  | true => rw [decide_eq_false (hfm.2 hm).2]; rfl
  | false =>
   by_cases hE : exts t.y.p.toNat (okT t) (x.p.toNat - 1) [(j : Int)] = []
   ·rw [decide_eq_true hE]; rfl
   ·have := hfm.1 ⟨rfl, hE⟩
    rw [hm] at this
    cases this

/-! ### A point put first -/
def swL (n p : Nat) : List Int := ((idL n).set 0 (p : Int)).set p 0
theorem sw_len (n p : Nat) : (swL n p).length = n := by unfold swL; rw [List.length_set, List.length_set]; exact mapL_length _ _
theorem sw_get {n p i : Nat} (hp : p < n) (hi : i < n) : (swL n p).getD i 0 = if i = p then 0 else if i = 0 then (p : Int) else (i : Int) := by
 have hl : (idL n).length = n := mapL_length _ _
 have hg : ∀ i, i < n → (idL n)[i]? = some (i : Int) := fun i hi => by
  have := idL_get hi
  unfold List.getD at this
  rw [List.getElem?_eq_getElem (by omega)] at this ⊢
  exact congrArg some this
 unfold swL List.getD
 rw [List.getElem?_set, List.getElem?_set, List.length_set, hl]
 by_cases h1 : p = i
 ·rw [if_pos h1, if_pos hp, if_pos h1.symm]; rfl
 ·rw [if_neg h1, if_neg (show ¬ i = p from fun q => h1 q.symm)]
  by_cases h2 : 0 = i
  ·rw [if_pos h2, if_pos (by omega), if_pos h2.symm]; rfl
  ·rw [if_neg h2, if_neg (show ¬ i = 0 from fun q => h2 q.symm), hg i hi]; rfl
theorem sw_ord {n p : Nat} (hp : p < n) : isOrd (swL n p) n := by
 have hl := sw_len n p
 refine ⟨by omega, fun a ha => ?_, fun a b hab hb => ?_⟩
 ·rw [sw_get hp (by omega)]
  split
  ·omega
  ·split <;> omega
 ·rw [sw_get hp (by omega), sw_get hp (by omega)]
  by_cases h1 : a = p <;> by_cases h2 : b = p <;> by_cases h3 : a = 0 <;> by_cases h4 : b = 0 <;> simp only [h1, h2, h3, h4, if_true, if_false] <;> (try split) <;> (try split) <;> omega
theorem sw_at {n p : Nat} (hp : p < n) : (swL n p).getD p 0 = 0 := by rw [sw_get hp hp, if_pos rfl]
theorem ids_val (x : Col) (hp : 1 ≤ x.p ∧ x.p ≤ 17) (k : Nat) (hk : 20 ≤ k) : spec_l06Moves_l0 x k 0 [] [] = some (idL x.p.toNat, idL x.p.toNat) := by
 have := loopI (f := fun k' j (s : List Int × List Int) => spec_l06Moves_l0 x k' j s.1 s.2) x.p 0 (fun j s => j ≤ x.p ∧ s = (idL j.toNat, idL j.toNat)) (fun s => s = (idL x.p.toNat, idL x.p.toNat)) ?_ ?_ k 0 ([], []) (by omega) (by omega) ⟨by omega, rfl⟩
 ·obtain ⟨r, e, rfl⟩ := this
  exact e
 ·rintro k' j s h0 h1 ⟨q1, rfl⟩
  obtain ⟨m, rfl⟩ := nat_of h0
  left
  refine ⟨(idL (m + 1), idL (m + 1)), ?_, by omega, by rw [show ((m : Int) + 1).toNat = m + 1 by omega]⟩
  show spec_l06Moves_l0 x (k' + 1) m (idL (m : Int).toNat) (idL (m : Int).toNat) = _
  have hl : (idL m).length = m := mapL_length _ _
  rw [spec_l06Moves_l0, if_pos (decide_eq_true h1), Int.toNat_natCast, if_pos (by rw [hl, List.length_singleton]; omega), if_pos (by rw [hl, List.length_singleton]; omega), w64_succ h0 h1 (by omega)]
  unfold idL
  rw [mapL_succ]
 ·rintro k' j s h0 h1 ⟨q1, rfl⟩
  refine ⟨_, ?_, by rw [show x.p.toNat = j.toNat by omega]⟩
  show spec_l06Moves_l0 x (k' + 1) j (idL j.toNat) (idL j.toNat) = _
  rw [spec_l06Moves_l0, if_neg (by simp only [decide_eq_true_eq]; omega)]
/-- What the search finds from the first point on. -/
theorem sw_mv {x : Col} (hx : x.is) {p q : Nat} (hp : p < x.p.toNat) (hq : q < x.p.toNat) :
  (dgs (ren x (swL x.p.toNat p)) 0 = dgs (ren x (swL x.p.toNat q)) 0 ∧ exts x.p.toNat (okR (ren x (swL x.p.toNat p)) (ren x (swL x.p.toNat q))) (x.p.toNat - 1) [0] ≠ []) ↔ mv x p q = true := by
 have hpp := hx.1
 have os := sw_ord hp
 have ot := sw_ord hq
 obtain ⟨s, hs⟩ : ∃ s, s = swL x.p.toNat p := ⟨_, rfl⟩
 obtain ⟨t, htt⟩ : ∃ t, t = swL x.p.toNat q := ⟨_, rfl⟩
 have hsp : s.getD p 0 = 0 := by rw [hs]; exact sw_at hp
 have htq : t.getD q 0 = 0 := by rw [htt]; exact sw_at hq
 rw [← hs, ← htt]
 rw [← hs] at os
 rw [← htt] at ot
 have os' := to_ord hpp os
 have ot' := to_ord hpp ot
 have ha := ren_is hx os'
 have hb := ren_is hx ot'
 have hap := ren_p x hx os'
 have hbp := ren_p x hx ot'
 have hak := ren_k x hx os'
 have hbk := ren_k x hx ot'
 have hRN : RN (ren x s) (ren x t) = exts x.p.toNat (okR (ren x s) (ren x t)) x.p.toNat [] := by rw [RN_yes ⟨hap.trans hbp.symm, hak.trans hbk.symm⟩, hap]
 have hbs := bk_back os hp
 rw [hsp] at hbs
 have hbt := bk_back ot hq
 rw [htq] at hbt
 have h00 : (0 : Int).toNat = 0 := rfl
 rw [h00] at hbs hbt
 constructor
 ·rintro ⟨h1, h2⟩
  obtain ⟨e, he⟩ : ∃ e, e ∈ exts x.p.toNat (okR (ren x s) (ren x t)) (x.p.toNat - 1) [0] := by
   cases hc : exts x.p.toNat (okR (ren x s) (ren x t)) (x.p.toNat - 1) [0] with
   | nil => exact absurd hc h2
   | cons a b => exact ⟨a, by simp⟩
  have hlen := exts_len (K := x.p.toNat) (ok := okR (ren x s) (ren x t)) _ _ e he
  rw [List.length_singleton] at hlen
  obtain ⟨htk, hok⟩ := exts_ok _ _ e he
  rw [List.length_singleton] at htk hok
  have he0 : e.getD 0 0 = 0 := by
   cases e with
   | nil => simp at htk
   | cons a b => simp at htk; simp [htk]
  have hmem : e ∈ RN (ren x s) (ren x t) := by
   rw [hRN]
   refine mem_exts _ _ _ (by rw [List.length_nil]; omega) (by simp) fun i _ hi => ?_
   by_cases h : i = 0
   ·subst h
    refine ⟨0, by omega, by simpa using he0, ?_⟩
    unfold okR
    rw [List.take_zero, Bool.and_eq_true, decide_eq_true_eq, decide_eq_true_eq]
    exact ⟨h1, fun j hj => by simp at hj⟩
   ·exact hok i (by omega) hi
  obtain ⟨_, _, oe', hre⟩ := RN_ok ha hb hmem
  rw [hap] at oe'
  obtain ⟨c1, c2⟩ := ren_cp hx os' oe'
  rw [hre] at c2
  have obt := (ren_ren hx ot')
  rw [hbp] at obt
  obtain ⟨d1, d2⟩ := ren_cp hx c1 obt.1
  rw [c2, obt.2] at d2
  refine mv_iff.2 ⟨_, (mem_RN hx).2 ⟨d1, d2⟩, ?_⟩
  rw [cp_get _ _ hp, cp_get _ _ hp, hsp, h00, he0, h00, hbt]
 ·intro h
  obtain ⟨l, hl, hlq⟩ := mv_iff.1 h
  obtain ⟨l1, l2⟩ := (mem_RN hx).1 hl
  have obs := ren_ren hx os'
  rw [hap] at obs
  obtain ⟨c1, c2⟩ := ren_cp hx l1 ot'
  rw [l2] at c2
  have hc1 : isOrd (cpL l t x.p.toNat) (ren x s).p := by rw [hap]; exact c1
  have hbo : isOrd (bkL s x.p.toNat) (ren x s).p := by rw [hap]; exact obs.1
  obtain ⟨d1, d2⟩ := ren_cp ha hbo hc1
  rw [obs.2, c2] at d2
  rw [hap] at d1 d2
  have hmem : cpL (bkL s x.p.toNat) (cpL l t x.p.toNat) x.p.toNat ∈ RN (ren x s) (ren x t) := by
   have := RN_ren ha (by rw [hap]; exact d1)
   rwa [d2] at this
  have he0 : (cpL (bkL s x.p.toNat) (cpL l t x.p.toNat) x.p.toNat).getD 0 0 = 0 := by
   rw [cp_get _ _ (by omega), hbs, Int.toNat_natCast, cp_get _ _ hp, hlq, Int.toNat_natCast, htq]
  rw [hRN] at hmem
  have hlen := exts_len (K := x.p.toNat) (ok := okR (ren x s) (ren x t)) _ _ _ hmem
  obtain ⟨_, hok⟩ := exts_ok _ _ _ hmem
  rw [List.length_nil] at hlen hok
  generalize cpL (bkL s x.p.toNat) (cpL l t x.p.toNat) x.p.toNat = e at *
  obtain ⟨c, e1, e2, e3⟩ := hok 0 (by omega) (by omega)
  have hc0 : c = 0 := by omega
  subst hc0
  unfold okR at e3
  rw [List.take_zero, Bool.and_eq_true, decide_eq_true_eq, decide_eq_true_eq] at e3
  refine ⟨e3.1, fun hnil => ?_⟩
  have : e ∈ exts x.p.toNat (okR (ren x s) (ren x t)) (x.p.toNat - 1) [0] := by
   refine mem_exts _ _ _ (by rw [List.length_singleton]; omega) ?_ fun i hi hi2 => hok i (by omega) hi2
   cases e with
   | nil => simp at hlen; omega
   | cons a b => simp at he0; simp [he0]
  rw [hnil] at this
  simp at this
theorem specMoves_val {k : Nat} (hk : 5000 ≤ k) {x : Col} (hx : x.is) {p q : Nat} (hp : p < x.p.toNat) (hq : q < x.p.toNat) : spec_l06Moves k x p q = some (mv x p q) := by
 have hpp := hx.1
 have hl : (idL x.p.toNat).length = x.p.toNat := mapL_length _ _
 have hm := sw_mv hx hp hq
 have os' := to_ord hpp (sw_ord hp)
 have ot' := to_ord hpp (sw_ord hq)
 have ha := ren_is hx os'
 have hb := ren_is hx ot'
 have hap := ren_p x hx os'
 have hbp := ren_p x hx ot'
 have hak := ren_k x hx os'
 have hbk := ren_k x hx ot'
 have hz : (0 : Int).toNat = 0 := rfl
 have l1 : ((idL x.p.toNat).set (0 : Int).toNat (p : Int)).set (p : Int).toNat 0 = swL x.p.toNat p := rfl
 have l2 : ((idL x.p.toNat).set (0 : Int).toNat (q : Int)).set (q : Int).toNat 0 = swL x.p.toNat q := rfl
 unfold spec_l06Moves
 rw [ids_val x hpp k (by omega), Option.bind_some]
 dsimp only
 rw [l1, l2, if_pos (by rw [hl]; omega), if_pos (by rw [List.length_set, hl]; omega), if_pos (by rw [hl]; omega), if_pos (by rw [List.length_set, hl]; omega), specRen_eq x _ hpp os' k (by omega), Option.bind_some, specRen_eq x _ hpp ot' k (by omega), Option.bind_some,
  types_val hk ha, Option.bind_some, types_val hk hb, Option.bind_some]
 rw [if_pos (by rw [tyL_len, hap]; omega), if_pos (by rw [tyL_len, hbp]; omega), hz, tyL_get (by rw [hap]; omega), tyL_get (by rw [hbp]; omega)]
 have hty := ty_dgs ha hb (hak.trans hbk.symm) 0 0
 generalize swL x.p.toNat p = s at *
 generalize swL x.p.toNat q = t at *
 by_cases hd : dgs (ren x s) 0 = dgs (ren x t) 0
 ·have hdt := hty.2 hd
  have := go_val ha hb (hap.trans hbp.symm) (hak.trans hbk.symm) (x.p.toNat - 1) [0] 1 ⟨ren x s, ren x t, tyL (ren x s), tyL (ren x t), 1, 0, []⟩ k (by rw [hap, List.length_singleton]; omega) (fun z hz => by rw [List.mem_singleton] at hz; rw [hap]; omega) (fun j => by
    rw [Bool.eq_iff_iff, Nat.testBit_one_eq_true_iff_self_eq_zero, decide_eq_true_eq, List.mem_singleton]; omega) (by decide) ⟨rfl, rfl, rfl, rfl, by simp, by simp, by simp⟩ (by simp) (by omega)
  have hcount : ∀ L : List (List Int), decide (0 < (runT cbS L ⟨ren x s, ren x t, tyL (ren x s), tyL (ren x t), 1, 0, []⟩).2.count) = decide (L ≠ []) := fun L => by
   cases L with
   | nil => rfl
   | cons a b => simp [runT, cbS]
  rw [hap, show (((1 : Nat) : Int)) = 1 from rfl] at this
  rw [decide_eq_true (show ((tyN (ren x s) 0 (ren x s).k.toNat : Nat) : Int) = ((tyN (ren x t) 0 (ren x t).k.toNat : Nat) : Int) by rw [hdt]), if_pos rfl, this, Option.bind_some, Option.bind_some, hcount]
  congr 1
  cases h : mv x p q with
  | true => exact decide_eq_true (hm.2 h).2
  | false =>
   refine decide_eq_false fun hn => ?_
   ·have := hm.1 ⟨hd, hn⟩
    rw [h] at this
    cases this
 ·have hdt : ¬ ((tyN (ren x s) 0 (ren x s).k.toNat : Nat) : Int) = ((tyN (ren x t) 0 (ren x t).k.toNat : Nat) : Int) := fun e => hd (hty.1 (by omega))
  rw [decide_eq_false hdt, if_neg (by simp), Option.bind_some]
  cases h : mv x p q with
  | true => exact absurd (hm.2 h).1 hd
  | false => rfl

/-! ### Classes of points -/
def rep (R : Nat → Nat → Bool) (p : Nat) : Bool := (List.range p).all fun q => !R q p
def rowR (R : Nat → Nat → Bool) (m p : Nat) : List Int := ((List.range m).filter (R p)).map fun q : Nat => (q : Int)
def reps (R : Nat → Nat → Bool) (m : Nat) : List Nat := (List.range m).filter (rep R)
def OL (R : Nat → Nat → Bool) (n m : Nat) : List (List Int) := (reps R m).map (rowR R n)
structure EqR (n : Nat) (R : Nat → Nat → Bool) : Prop where
 rf : ∀ p, p < n → R p p = true
 sy : ∀ p q, p < n → R p q = true → R q p = true
 tr : ∀ p q r, p < n → R p q = true → R q r = true → R p r = true
theorem mv_eqR {x : Col} (hx : x.is) : EqR x.p.toNat (mv x) := ⟨fun p hp => mv_refl hx hp, fun p q hp h => mv_symm hx hp h, fun p q r hp h1 h2 => mv_trans hx hp h1 h2⟩

section
variable {n : Nat} {R : Nat → Nat → Bool} (hR : EqR n R)
theorem rep_iff {p : Nat} : rep R p = true ↔ ∀ q, q < p → R q p = false := by
 unfold rep
 rw [List.all_eq_true]
 constructor
 ·intro h q hq
  have := h q (List.mem_range.2 hq)
  simpa using this
 ·intro h q hq
  rw [h q (List.mem_range.1 hq)]; rfl
theorem row_succ (m p : Nat) : rowR R (m + 1) p = rowR R m p ++ if R p m then [(m : Int)] else [] := by
 unfold rowR
 rw [List.range_succ, List.filter_append, List.map_append, List.filter_cons, List.filter_nil]
 cases R p m <;> rfl
theorem reps_succ (m : Nat) : reps R (m + 1) = reps R m ++ if rep R m then [m] else [] := by
 unfold reps
 rw [List.range_succ, List.filter_append, List.filter_cons, List.filter_nil]
theorem mem_reps {m p : Nat} : p ∈ reps R m ↔ p < m ∧ rep R p = true := by
 unfold reps
 rw [List.mem_filter, List.mem_range]
theorem reps_nodup (m : Nat) : (reps R m).Nodup := List.nodup_range.sublist List.filter_sublist
theorem reps_le (m : Nat) : (reps R m).length ≤ m := by
 have := List.length_filter_le (rep R) (List.range m)
 rwa [List.length_range] at this
theorem row_le (m p : Nat) : (rowR R m p).length ≤ m := by
 unfold rowR
 have := List.length_filter_le (R p) (List.range m)
 rw [List.length_range] at this
 rw [List.length_map]
 exact this
include hR
theorem rep_low {p q : Nat} (hp : p < n) (h : rep R p = true) (hq : q < p) : R p q = false := by
 cases e : R p q with
 | false => rfl
 | true =>
  have := hR.sy p q hp e
  rw [rep_iff.1 h q hq] at this
  cases this
theorem row_low {p : Nat} (hp : p < n) (h : rep R p = true) : ∀ m, m ≤ p → rowR R m p = []
 | 0, _ => rfl
 | m + 1, hm => by rw [row_succ, row_low hp h m (by omega), rep_low hR hp h (by omega)]; rfl
theorem row_head {p m : Nat} (hp : p < n) (h : rep R p = true) : p < m → ∃ t, rowR R m p = (p : Int) :: t := by
 induction m with
 | zero => intro hm; omega
 | succ m ih =>
  intro hm
  rw [row_succ]
  by_cases e : p = m
  ·subst e
   rw [row_low hR hp h p (Nat.le_refl _), hR.rf p hp]
   exact ⟨[], rfl⟩
  ·obtain ⟨t, ht⟩ := ih (by omega)
   rw [ht]
   exact ⟨_, rfl⟩
theorem rep_ex : ∀ (m q : Nat), q ≤ m → q < n → ∃ p, p ≤ q ∧ rep R p = true ∧ R p q = true := by
 intro m
 induction m with
 | zero =>
  intro q hq hqn
  have : q = 0 := by omega
  subst this
  exact ⟨0, Nat.le_refl _, rep_iff.2 fun q hq => by omega, hR.rf 0 hqn⟩
 | succ m ih =>
  intro q hq hqn
  by_cases h : rep R q = true
  ·exact ⟨q, Nat.le_refl _, h, hR.rf q hqn⟩
  ·have : ∃ q', q' < q ∧ R q' q = true := Classical.byContradiction fun hc => h (rep_iff.2 fun q' hq' => by
    cases e : R q' q with
    | false => rfl
    | true => exact absurd ⟨q', hq', e⟩ hc)
   obtain ⟨q', h1, h2⟩ := this
   obtain ⟨p, p1, p2, p3⟩ := ih q' (by omega) (by omega)
   exact ⟨p, by omega, p2, hR.tr p q' q (by omega) p3 h2⟩
theorem rep_uniq {p p' m : Nat} (hp : p < n) (hp' : p' < n) (h : rep R p = true) (h' : rep R p' = true) (e : R p m = true) (e' : R p' m = true) : p = p' := by
 have key : ∀ a b : Nat, a < n → b < n → rep R b = true → R a m = true → R b m = true → ¬ a < b := fun a b ha hb hr e1 e2 hab => by
  have := hR.tr a m b ha e1 (hR.sy b m hb e2)
  rw [rep_iff.1 hr a hab] at this
  cases this
 have h1 := key p p' hp hp' h' e e'
 have h2 := key p' p hp' hp h e' e
 omega
/-- The program's next step. -/
theorem OL_step {m : Nat} (hm : m < n) (hn : n ≤ 17) {r : Int} (hr : (r = -1 ∧ ∀ p ∈ reps R m, R p m = false) ∨ ∃ i : Nat, r = i ∧ i < (reps R m).length ∧ R ((reps R m).getD i 0) m = true) :
  impl_PointOrbits_put (OL R m m) m r = some (OL R (m + 1) (m + 1)) := by
 have hlen : (OL R m m).length = (reps R m).length := by unfold OL; rw [List.length_map]
 have hle := reps_le (R := R) m
 unfold impl_PointOrbits_put
 rcases hr with ⟨rfl, h⟩ | ⟨i, rfl, hi, h⟩
 ·rw [if_pos (by simp), if_pos (by omega)]
  have hrep : rep R m = true := by
   rw [rep_iff]
   intro q hq
   cases e : R q m with
   | false => rfl
   | true =>
    obtain ⟨p, p1, p2, p3⟩ := rep_ex hR q q (Nat.le_refl _) (by omega)
    have := h p (mem_reps.2 ⟨by omega, p2⟩)
    rw [hR.tr p q m (by omega) p3 e] at this
    cases this
  have e1 : (reps R m).map (rowR R (m + 1)) = OL R m m := List.map_congr_left fun p hp => by
   rw [row_succ, h p hp]
   simp
  have e2 : rowR R (m + 1) m = [(m : Int)] := by rw [row_succ, row_low hR hm hrep m (Nat.le_refl _), hR.rf m hm]; rfl
  have e3 : OL R (m + 1) (m + 1) = (reps R m).map (rowR R (m + 1)) ++ [rowR R (m + 1) m] := by
   unfold OL
   rw [reps_succ, hrep, if_pos rfl, List.map_append, List.map_singleton]
  rw [e3, e1, e2]
 ·obtain ⟨p, hpe⟩ : ∃ p, p = (reps R m).getD i 0 := ⟨_, rfl⟩
  have hgi : (reps R m)[i] = p := by rw [hpe]; simp [List.getD, hi]
  have hpm : p ∈ reps R m := by rw [← hgi]; exact List.getElem_mem hi
  obtain ⟨p1, p2⟩ := mem_reps.1 hpm
  rw [← hpe] at h
  have hrm : rep R m = false := by
   cases e : rep R m with
   | false => rfl
   | true =>
    have := rep_iff.1 e p p1
    rw [h] at this
    cases this
  have hgd : (OL R m m).getD i [] = rowR R m p := by unfold OL; simp [List.getD, hi, hgi]
  rw [if_neg (by simp), if_pos ⟨by omega, by rw [hlen]; omega⟩, Int.toNat_natCast, hgd, if_pos (by have := row_le (R := R) m p; omega)]
  have hOL : OL R (m + 1) (m + 1) = (reps R m).map (rowR R (m + 1)) := by
   unfold OL
   rw [reps_succ, hrm]
   simp
  rw [hOL]
  congr 1
  refine List.ext_getElem (by rw [List.length_set, hlen, List.length_map]) fun a h1 h2 => ?_
  have ha : a < (reps R m).length := by rw [List.length_set, hlen] at h1; exact h1
  have e2 : ((reps R m).map (rowR R (m + 1)))[a]'h2 = rowR R (m + 1) ((reps R m)[a]) := by rw [List.getElem_map]
  have e3 : (OL R m m)[a]'(by rw [hlen]; exact ha) = rowR R m ((reps R m)[a]) := by simp only [OL, List.getElem_map]
  rw [e2, List.getElem_set, row_succ]
  by_cases e : i = a
  ·subst e
   rw [if_pos rfl, hgi, h, if_pos rfl]
  ·rw [if_neg e]
   have hq : R ((reps R m)[a]) m = false := by
    cases hq : R ((reps R m)[a]) m with
    | false => rfl
    | true =>
     obtain ⟨q1, q2⟩ := mem_reps.1 (List.getElem_mem ha)
     have := rep_uniq hR (by omega) (by omega) p2 q2 h hq
     rw [← hgi] at this
     exact absurd ((List.getElem_inj (reps_nodup m)).1 this) e
   rw [hq, if_neg (by simp), List.append_nil, e3]
end

/-! ### The program -/
theorem indexR_val (T : List (List Int)) (f : List Int → Option Bool) (P : List Int → Bool) (hf : ∀ a ∈ T, f a = some (P a)) (k : Nat) (hk : T.length + 1 ≤ k) (hl : T.length ≤ 1000) :
  ∃ r, slices_IndexFunc_R k T f = some r ∧ ((r = -1 ∧ ∀ a ∈ T, P a = false) ∨ ∃ i : Nat, r = i ∧ i < T.length ∧ P (T.getD i []) = true) := by
 have := loopI (f := fun k' j (_ : Unit) => slices_IndexFunc_R_l0 T f k' j) (T.length : Int) 0 (fun j _ => j ≤ T.length ∧ ∀ a : Nat, (a : Int) < j → P (T.getD a []) = false)
  (fun r => (r = .inl () ∧ ∀ a ∈ T, P a = false) ∨ ∃ i : Nat, r = .inr (i : Int) ∧ i < T.length ∧ P (T.getD i []) = true) ?_ ?_ k 0 () (by omega) (by omega) ⟨by omega, fun a ha => by omega⟩
 ·obtain ⟨r, e, ⟨rfl, h⟩ | ⟨i, rfl, h⟩⟩ := this
  ·exact ⟨-1, by unfold slices_IndexFunc_R; rw [e]; rfl, .inl ⟨rfl, h⟩⟩
  ·exact ⟨i, by unfold slices_IndexFunc_R; rw [e]; rfl, .inr ⟨i, rfl, h⟩⟩
 ·rintro k' j _ h0 h1 ⟨q1, q2⟩
  obtain ⟨a, rfl⟩ := nat_of h0
  have ha : a < T.length := by omega
  have hm : T.getD a [] ∈ T := by simp [List.getD, ha]
  have hstep : slices_IndexFunc_R_l0 T f (k' + 1) a = if P (T.getD a []) then some (.inr (a : Int)) else slices_IndexFunc_R_l0 T f k' ((a : Int) + 1) := by
   rw [slices_IndexFunc_R_l0, if_pos (decide_eq_true h1), if_pos ⟨h0, h1⟩, Int.toNat_natCast, hf _ hm, Option.bind_some, w64_succ h0 h1 (by omega)]
  cases hP : P (T.getD a []) with
  | true =>
   right
   exact ⟨.inr (a : Int), by show slices_IndexFunc_R_l0 T f (k' + 1) a = _; rw [hstep, hP]; rfl, .inr ⟨a, rfl, ha, hP⟩⟩
  | false =>
   left
   refine ⟨(), by show slices_IndexFunc_R_l0 T f (k' + 1) a = _; rw [hstep, hP]; rfl, by omega, fun b hb => ?_⟩
   by_cases e : b = a
   ·rw [e]; exact hP
   ·exact q2 b (by omega)
 ·rintro k' j _ h0 h1 ⟨q1, q2⟩
  refine ⟨.inl (), ?_, .inl ⟨rfl, fun a ha => ?_⟩⟩
  ·show slices_IndexFunc_R_l0 T f (k' + 1) j = _
   rw [slices_IndexFunc_R_l0, if_neg (by simp only [decide_eq_true_eq]; omega)]
  ·obtain ⟨b, hb, rfl⟩ := List.getElem_of_mem ha
   have := q2 b (by omega)
   simpa [List.getD, hb] using this
theorem orbits_l0 {k : Nat} (hk : 5000 ≤ k) {x : Col} (hx : x.is) : impl_PointOrbits_l0 k x k 0 [] = some (OL (mv x) x.p.toNat x.p.toNat) := by
 have hp := hx.1
 have hR := mv_eqR hx
 have := loopI (f := fun k' j (T : List (List Int)) => impl_PointOrbits_l0 k x k' j T) x.p 0 (fun j T => j ≤ x.p ∧ T = OL (mv x) j.toNat j.toNat) (fun T => T = OL (mv x) x.p.toNat x.p.toNat) ?_ ?_ k 0 [] (by omega) (by omega) ⟨by omega, rfl⟩
 ·obtain ⟨r, e, rfl⟩ := this
  exact e
 ·rintro k' j T h0 h1 ⟨q1, rfl⟩
  obtain ⟨m, rfl⟩ := nat_of h0
  rw [Int.toNat_natCast]
  have hm : m < x.p.toNat := by omega
  have hle := reps_le (R := mv x) m
  have hlen : (OL (mv x) m m).length = (reps (mv x) m).length := by unfold OL; rw [List.length_map]
  have hrow : ∀ p ∈ reps (mv x) m, ∃ t, rowR (mv x) m p = (p : Int) :: t := fun p hp => by
   obtain ⟨p1, p2⟩ := mem_reps.1 hp
   exact row_head hR (by omega) p2 p1
  have hw := w64_succ h0 h1 (by omega)
  have hn17 : x.p.toNat ≤ 17 := by omega
  have hinv : (m : Int) + 1 ≤ x.p := by omega
  have hmt : ((m : Int) + 1).toNat = m + 1 := by omega
  obtain ⟨r, e, hr⟩ := indexR_val (OL (mv x) m m) (fun a0 => impl_PointOrbits_c1 k a0 x m) (fun a => mv x (a.getD 0 0).toNat m) (fun a ha => by
   obtain ⟨p, hpm, rfl⟩ := List.mem_map.1 ha
   obtain ⟨t, ht⟩ := hrow p hpm
   obtain ⟨p1, p2⟩ := mem_reps.1 hpm
   rw [ht]
   unfold impl_PointOrbits_c1
   rw [if_pos ⟨by omega, by simp only [List.length_cons]; omega⟩]
   show (impl_Colouring_isMoved k x (p : Int) m).bind _ = _
   rw [moved_val hk hx (by omega) hm, Option.bind_some]
   rfl) k (by omega) (by omega)
  have hr' : (r = -1 ∧ ∀ p ∈ reps (mv x) m, mv x p m = false) ∨ ∃ i : Nat, r = i ∧ i < (reps (mv x) m).length ∧ mv x ((reps (mv x) m).getD i 0) m = true := by
   rcases hr with ⟨rfl, h⟩ | ⟨i, rfl, hi, h⟩
   ·refine .inl ⟨rfl, fun p hpm => ?_⟩
    have := h _ (List.mem_map.2 ⟨p, hpm, rfl⟩)
    obtain ⟨t, ht⟩ := hrow p hpm
    rw [ht] at this
    exact this
   ·rw [hlen] at hi
    refine .inr ⟨i, rfl, hi, ?_⟩
    obtain ⟨t, ht⟩ := hrow _ (List.getElem_mem hi)
    have e1 : (OL (mv x) m m).getD i [] = rowR (mv x) m ((reps (mv x) m)[i]) := by unfold OL; simp [List.getD, hi]
    rw [e1, ht] at h
    have e2 : (reps (mv x) m).getD i 0 = (reps (mv x) m)[i] := by simp [List.getD, hi]
    rw [e2]
    exact h
  left
  refine ⟨OL (mv x) (m + 1) (m + 1), ?_, hinv, by rw [hmt]⟩
  show impl_PointOrbits_l0 k x (k' + 1) m _ = _
  rw [impl_PointOrbits_l0, if_pos (decide_eq_true h1), e, Option.bind_some, OL_step hR hm hn17 hr', Option.bind_some, hw]
 ·rintro k' j T h0 h1 ⟨q1, rfl⟩
  refine ⟨_, ?_, by rw [show x.p.toNat = j.toNat by omega]⟩
  show impl_PointOrbits_l0 k x (k' + 1) j _ = _
  rw [impl_PointOrbits_l0, if_neg (by simp only [decide_eq_true_eq]; omega)]
theorem implOrbits_val {k : Nat} (hk : 5000 ≤ k) {x : Col} (hx : x.is) : impl_PointOrbits k x = some (some (OL (mv x) x.p.toNat x.p.toNat), 0) := by
 classical
 unfold impl_PointOrbits impl_Colouring_code impl_always
 rw [isColouring_eq k (by omega), decide_eq_true hx]
 simp only [Option.bind_some, Bool.not_true, Bool.false_eq_true, if_false, if_true]
 rw [orbits_l0 hk hx]
 simp

/-- The points that have an orbit already. -/
def met (R : Nat → Nat → Bool) (p q : Nat) : Bool := (List.range p).any fun p' => rep R p' && R p' q
theorem met_succ (R : Nat → Nat → Bool) (p q : Nat) : met R (p + 1) q = (met R p q || (rep R p && R p q)) := by
 unfold met
 rw [List.range_succ, List.any_append]
 simp
theorem met_iff {R : Nat → Nat → Bool} {p q : Nat} : met R p q = true ↔ ∃ p', p' < p ∧ rep R p' = true ∧ R p' q = true := by
 unfold met
 rw [List.any_eq_true]
 constructor
 ·rintro ⟨a, h1, h2⟩
  rw [Bool.and_eq_true] at h2
  exact ⟨a, List.mem_range.1 h1, h2⟩
 ·rintro ⟨a, h1, h2⟩
  exact ⟨a, List.mem_range.2 h1, by rw [Bool.and_eq_true]; exact h2⟩
theorem met_self {n : Nat} {R : Nat → Nat → Bool} (hR : EqR n R) {p : Nat} (hp : p < n) : met R p p = !rep R p := by
 cases h : rep R p with
 | true =>
  cases e : met R p p with
  | false => rfl
  | true =>
   obtain ⟨p', h1, _, h3⟩ := met_iff.1 e
   rw [rep_iff.1 h p' h1] at h3
   cases h3
 | false =>
  obtain ⟨p', h1, h2, h3⟩ := rep_ex hR p p (Nat.le_refl _) hp
  refine met_iff.2 ⟨p', ?_, h2, h3⟩
  rcases Nat.lt_or_ge p' p with w | w
  ·exact w
  ·have : p' = p := by omega
   subst this
   rw [h2] at h
   cases h
theorem met_not {n : Nat} {R : Nat → Nat → Bool} (hR : EqR n R) {p q : Nat} (hp : p < n) (h : rep R p = true) (hm : met R p q = true) : R p q = false := by
 obtain ⟨p', h1, h2, h3⟩ := met_iff.1 hm
 cases e : R p q with
 | false => rfl
 | true =>
  have := rep_uniq hR (by omega) hp h2 h h3 e
  omega
theorem getD_setB (l : List Bool) (i j : Nat) (h : i < l.length) : (l.set i true).getD j false = if i = j then true else l.getD j false := by
 unfold List.getD
 rw [List.getElem?_set]
 by_cases e : i = j
 ·subst e
  simp [h]
 ·simp [e]
theorem orbits_l1 {k : Nat} (hk : 5000 ≤ k) {x : Col} (hx : x.is) {p : Nat} (hp : p < x.p.toNat) (hrep : rep (mv x) p = true) (M : List Bool) (hM : M.length = x.p.toNat) (hM2 : ∀ q, q < x.p.toNat → M.getD q false = met (mv x) p q) :
  ∃ M', spec_PointOrbits_l1 k x p k p M [] = some (M', rowR (mv x) x.p.toNat p) ∧ M'.length = x.p.toNat ∧ ∀ q, q < x.p.toNat → M'.getD q false = met (mv x) (p + 1) q := by
 have hpp := hx.1
 have hR := mv_eqR hx
 have := loopI (f := fun k' j (s : List Bool × List Int) => spec_PointOrbits_l1 k x p k' j s.1 s.2) x.p p (fun j s => (p : Int) ≤ j ∧ j ≤ x.p ∧ s.1.length = x.p.toNat ∧ (∀ q, q < x.p.toNat → s.1.getD q false = (met (mv x) p q || (decide (q < j.toNat) && mv x p q))) ∧ s.2 = rowR (mv x) j.toNat p)
  (fun s => s.2 = rowR (mv x) x.p.toNat p ∧ s.1.length = x.p.toNat ∧ ∀ q, q < x.p.toNat → s.1.getD q false = met (mv x) (p + 1) q) ?_ ?_ k p (M, []) (by omega) (by omega) ⟨Int.le_refl _, by omega, hM, fun q hq => ?_, ?_⟩
 ·obtain ⟨⟨M', r⟩, e, h1, h2, h3⟩ := this
  simp only at h1 e
  exact ⟨M', by rw [e, h1], h2, h3⟩
 ·rintro k' j ⟨S, own⟩ h0 h1 ⟨q0, q1, q2, q3, q4⟩
  simp only at q2 q3 q4
  obtain ⟨m, rfl⟩ : ∃ m : Nat, j = m := ⟨j.toNat, by omega⟩
  rw [Int.toNat_natCast] at q3 q4
  have hm : m < x.p.toNat := by omega
  have hw : w64 ((m : Int) + 1) = (m : Int) + 1 := w64_id (by omega)
  have hmt : ((m : Int) + 1).toNat = m + 1 := by omega
  have hlen : own.length ≤ 17 := by rw [q4]; have := row_le (R := mv x) m p; omega
  have hg : S.getD m false = met (mv x) p m := by rw [q3 m hm]; simp
  have hcond : (if !(S.getD m false) then (spec_l06Moves k x p m).bind fun r16 => some r16 else some false) = some (mv x p m) := by
   rw [hg]
   cases hmm : met (mv x) p m with
   | true => rw [met_not hR hp hrep hmm]; rfl
   | false => rw [specMoves_val hk hx hp hm]; rfl
  have hstep : spec_PointOrbits_l1 k x p (k' + 1) m S own = spec_PointOrbits_l1 k x p k' ((m : Int) + 1) (if mv x p m then S.set m true else S) (if mv x p m then own ++ [(m : Int)] else own) := by
   rw [spec_PointOrbits_l1, if_pos (decide_eq_true h1), Int.toNat_natCast, if_pos ⟨by omega, by omega⟩, hcond, Option.bind_some, hw]
   cases mv x p m with
   | true => rw [if_pos rfl, if_pos ⟨by omega, by omega⟩, if_pos (by rw [List.length_singleton]; omega)]; rfl
   | false => rfl
  left
  refine ⟨(if mv x p m then S.set m true else S, if mv x p m then own ++ [(m : Int)] else own), hstep, by omega, by omega, ?_, fun q hq => ?_, ?_⟩
  ·simp only
   split
   ·rw [List.length_set]; exact q2
   ·exact q2
  ·rw [hmt]
   simp only
   by_cases e : m = q
   ·subst e
    cases hmv : mv x p m with
    | true => rw [if_pos rfl, getD_setB _ _ _ (by omega), if_pos rfl]; simp
    | false => rw [if_neg (by simp), q3 m hq, hmv]; simp
   ·have h2 : decide (q < m + 1) = decide (q < m) := decide_eq_decide.2 (by omega)
    rw [h2, ← q3 q hq]
    cases mv x p m with
    | true => rw [if_pos rfl, getD_setB _ _ _ (by omega), if_neg e]
    | false => rfl
  ·simp only
   rw [hmt, row_succ, q4]
   cases mv x p m with
   | true => rfl
   | false => simp
 ·rintro k' j ⟨S, own⟩ h0 h1 ⟨q0, q1, q2, q3, q4⟩
  have ej : j.toNat = x.p.toNat := by omega
  rw [ej] at q3 q4
  refine ⟨(S, own), ?_, q4, q2, fun q hq => ?_⟩
  ·show spec_PointOrbits_l1 k x p (k' + 1) j S own = _
   rw [spec_PointOrbits_l1, if_neg (by simp only [decide_eq_true_eq]; omega)]
  ·rw [q3 q hq, met_succ, hrep, decide_eq_true hq]
 ·show M.getD q false = _
  rw [hM2 q hq, Int.toNat_natCast]
  by_cases h : q < p
  ·rw [rep_low hR hp hrep h]; simp
  ·rw [decide_eq_false h]; simp
 ·show ([] : List Int) = _
  rw [Int.toNat_natCast, row_low hR hp hrep p (Nat.le_refl _)]
theorem specOrbits_val {k : Nat} (hk : 5000 ≤ k) {x : Col} (hx : x.is) : spec_PointOrbits k x = some (OL (mv x) x.p.toNat x.p.toNat, 0) := by
 classical
 have hpp := hx.1
 have hR := mv_eqR hx
 unfold spec_PointOrbits
 rw [specIs_eq k (by omega), decide_eq_true hx]
 simp only [Option.bind_some, Bool.not_true, Bool.false_eq_true, if_false]
 rw [if_pos (by omega)]
 have := loopI (f := fun k' j (s : List Bool × List (List Int)) => spec_PointOrbits_l0 k x k' j s.1 s.2) x.p 0 (fun j s => j ≤ x.p ∧ s.1.length = x.p.toNat ∧ (∀ q, q < x.p.toNat → s.1.getD q false = met (mv x) j.toNat q) ∧ s.2 = OL (mv x) x.p.toNat j.toNat)
  (fun s => s = OL (mv x) x.p.toNat x.p.toNat) ?_ ?_ k 0 (List.replicate x.p.toNat false, []) (by omega) (by omega) ⟨by omega, by simp, fun q hq => ?_, rfl⟩
 ·obtain ⟨r, e, rfl⟩ := this
  simp only at e
  rw [e, Option.bind_some]
 ·rintro k' j ⟨S, T⟩ h0 h1 ⟨q1, q2, q3, q4⟩
  simp only at q2 q3 q4
  obtain ⟨m, rfl⟩ := nat_of h0
  rw [Int.toNat_natCast] at q3 q4
  have hm : m < x.p.toNat := by omega
  have hw := w64_succ h0 h1 (by omega)
  have hmt : ((m : Int) + 1).toNat = m + 1 := by omega
  have hg : S.getD m false = !rep (mv x) m := by rw [q3 m hm, met_self hR hm]
  have hT : T.length ≤ 17 := by
   rw [q4]
   unfold OL
   rw [List.length_map]
   have := reps_le (R := mv x) m
   omega
  left
  cases hrep : rep (mv x) m with
  | false =>
   refine ⟨(S, T), ?_, by omega, q2, fun q hq => ?_, ?_⟩
   ·show spec_PointOrbits_l0 k x (k' + 1) m S T = _
    rw [spec_PointOrbits_l0, if_pos (decide_eq_true h1), Int.toNat_natCast, if_pos ⟨h0, by omega⟩, hg, hrep, hw]; rfl
   ·simp only
    rw [hmt, met_succ, hrep, q3 q hq]; simp
   ·simp only
    rw [hmt, q4]
    unfold OL
    rw [reps_succ, hrep]; simp
  | true =>
   obtain ⟨S', e1, e2, e3⟩ := orbits_l1 hk hx hm hrep S q2 q3
   refine ⟨(S', T ++ [rowR (mv x) x.p.toNat m]), ?_, by omega, e2, fun q hq => ?_, ?_⟩
   ·show spec_PointOrbits_l0 k x (k' + 1) m S T = _
    rw [spec_PointOrbits_l0, if_pos (decide_eq_true h1), Int.toNat_natCast, if_pos ⟨h0, by omega⟩, hg, hrep, hw, Bool.not_true, if_neg (by simp), e1, Option.bind_some, if_pos (by rw [List.length_singleton]; omega)]; rfl
   ·simp only
    rw [hmt]
    exact e3 q hq
   ·simp only
    rw [hmt, q4]
    unfold OL
    rw [reps_succ, hrep, if_pos rfl, List.map_append]; rfl
 ·rintro k' j ⟨S, T⟩ h0 h1 ⟨q1, q2, q3, q4⟩
  simp only at q4
  refine ⟨T, ?_, by rw [q4, show j.toNat = x.p.toNat by omega]⟩
  show spec_PointOrbits_l0 k x (k' + 1) j S T = _
  rw [spec_PointOrbits_l0, if_neg (by simp only [decide_eq_true_eq]; omega)]
 ·show (List.replicate x.p.toNat false).getD q false = met (mv x) 0 q
  simp [met, List.getD, List.getElem?_replicate, hq]

/-! ### The law's loop over the orbits -/
def lens (T : List (List Int)) (m : Nat) : Nat := ((T.take m).map List.length).sum
theorem lens_succ (T : List (List Int)) (m : Nat) (h : m < T.length) : lens T (m + 1) = lens T m + (T.getD m []).length := by
 unfold lens
 rw [List.take_succ_eq_append_getElem h, List.map_append, List.sum_append]
 simp [List.getD, h]
theorem sum_len_rows (R : Nat → Nat → Bool) (m n : Nat) : ∀ L : List Nat, ((L.map (rowR R (m + 1))).map List.length).sum = ((L.map (rowR R m)).map List.length).sum + (L.filter fun p => R p m).length
 | [] => rfl
 | a :: t => by
  simp only [List.map_cons, List.sum_cons]
  rw [sum_len_rows R m n t, row_succ, List.length_append, List.filter_cons]
  cases R a m with
  | true => simp; omega
  | false => simp; omega
/-- Each point lies in one orbit. -/
theorem orbits_total {n : Nat} {R : Nat → Nat → Bool} (hR : EqR n R) : ∀ m, m ≤ n → ((OL R m n).map List.length).sum = m
 | 0, _ => by
  have : ∀ L : List Nat, ((L.map (rowR R 0)).map List.length).sum = 0 := fun L => by
   induction L with
   | nil => rfl
   | cons a t ih => simp only [List.map_cons, List.sum_cons, ih]; rfl
  exact this _
 | m + 1, hm => by
  have ih := orbits_total hR m (by omega)
  unfold OL at ih ⊢
  rw [sum_len_rows R m n, ih]
  congr 1
  obtain ⟨p, p1, p2, p3⟩ := rep_ex hR m m (Nat.le_refl _) (by omega)
  have hp : p ∈ (reps R n).filter fun p => R p m := List.mem_filter.2 ⟨mem_reps.2 ⟨by omega, p2⟩, p3⟩
  have hall : ∀ a ∈ (reps R n).filter (fun p => R p m), a = p := fun a ha => by
   obtain ⟨h1, h2⟩ := List.mem_filter.1 ha
   obtain ⟨h3, h4⟩ := mem_reps.1 h1
   exact rep_uniq hR h3 (by omega) h4 p2 h2 p3
  have hnd : ((reps R n).filter fun p => R p m).Nodup := (reps_nodup n).sublist List.filter_sublist
  generalize (reps R n).filter (fun p => R p m) = L at hp hall hnd
  match L, hp, hall, hnd with
  | [a], _, _, _ => rfl
  | a :: b :: t, _, hall, hnd =>
   have h1 := hall a (by simp)
   have h2 := hall b (by simp)
   rw [h1, h2] at hnd
   simp at hnd
theorem forms_l0 {x : Col} (hx : x.is) {k : Nat} (hk : 100 ≤ k) (c e : Int) (hc : e = 0 → c = ((RN x x).length : Int)) :
  laws_FnForms_l0 (some (OL (mv x) x.p.toNat x.p.toNat), 0) (c, e) k 0 0 = some (.inl x.p) := by
 have hpp := hx.1
 have hR := mv_eqR hx
 obtain ⟨T, hT⟩ : ∃ T, T = OL (mv x) x.p.toNat x.p.toNat := ⟨_, rfl⟩
 rw [← hT]
 have hTl : T.length ≤ 17 := by
  rw [hT]
  unfold OL
  rw [List.length_map]
  have := reps_le (R := mv x) x.p.toNat
  omega
 have hsum : lens T T.length = x.p.toNat := by
  unfold lens
  rw [List.take_length, hT]
  exact orbits_total hR _ (Nat.le_refl _)
 have hrow : ∀ i, i < T.length → ∃ p, p < x.p.toNat ∧ rep (mv x) p = true ∧ T.getD i [] = rowR (mv x) x.p.toNat p := fun i hi => by
  have h1 : T.getD i [] ∈ T := by simp [List.getD, hi]
  rw [hT] at h1
  obtain ⟨p, h2, h3⟩ := List.mem_map.1 h1
  rw [← hT] at h3
  obtain ⟨h4, h5⟩ := mem_reps.1 h2
  exact ⟨p, h4, h5, h3.symm⟩
 have := loopI (f := fun k' j (s : Int) => laws_FnForms_l0 (some T, 0) (c, e) k' s j) (T.length : Int) 0 (fun j s => j ≤ T.length ∧ s = (lens T j.toNat : Int) ∧ lens T j.toNat ≤ 17 * j.toNat) (fun s => s = .inl x.p) ?_ ?_ k 0 0 (by omega) (by omega) ⟨by omega, by simp [lens], by simp [lens]⟩
 ·obtain ⟨r, e, rfl⟩ := this
  exact e
 ·rintro k' j s h0 h1 ⟨q1, rfl, q3⟩
  obtain ⟨m, rfl⟩ := nat_of h0
  rw [Int.toNat_natCast] at q3 ⊢
  have hm : m < T.length := by omega
  obtain ⟨p, p1, p2, p3⟩ := hrow m hm
  obtain ⟨t, ht⟩ := row_head hR p1 p2 p1
  have hle := row_le (R := mv x) x.p.toNat p
  have hpos : 1 ≤ (T.getD m []).length := by rw [p3, ht]; simp
  have hle2 : (T.getD m []).length ≤ 17 := by rw [p3]; omega
  have hw := w64_succ h0 h1 (by omega)
  have hmt : ((m : Int) + 1).toNat = m + 1 := by omega
  have hls := lens_succ T m hm
  have hg : (if decide (e = 0) then (if 0 ≤ (m : Int) ∧ (m : Int) < (T.length : Int) then (if ((T.getD m []).length : Int) ≠ 0 then some (!decide (c.tmod ((T.getD m []).length : Int) = 0)) else none) else none) else some false) = some false := by
   by_cases he : e = 0
   ·rw [if_pos (decide_eq_true he), if_pos ⟨h0, h1⟩, if_pos (by omega), hc he]
    have hd := orb_dvd hx p1
    have hol : (orb x p x.p.toNat).length = (T.getD m []).length := by rw [p3]; unfold rowR orb; rw [List.length_map]
    rw [hol] at hd
    rw [hd, Int.natCast_mul, Int.mul_tmod_right]
    rfl
   ·rw [if_neg (by simpa using he)]
  left
  refine ⟨((lens T (m + 1) : Nat) : Int), ?_, by omega, by rw [hmt], by rw [hmt, hls]; omega⟩
  show laws_FnForms_l0 (some T, 0) (c, e) (k' + 1) _ m = _
  rw [laws_FnForms_l0]
  simp only [Option.getD_some]
  rw [if_pos (decide_eq_true h1), if_pos ⟨h0, h1⟩, Int.toNat_natCast, hg]
  simp only [Option.bind_some, Bool.false_eq_true, if_false]
  rw [hw, show ((lens T m : Nat) : Int) + ((T.getD m []).length : Int) = ((lens T (m + 1) : Nat) : Int) by rw [hls]; omega, w64_id (by omega)]
 ·rintro k' j s h0 h1 ⟨q1, rfl, q3⟩
  refine ⟨.inl x.p, ?_, rfl⟩
  show laws_FnForms_l0 (some T, 0) (c, e) (k' + 1) _ j = _
  rw [laws_FnForms_l0]
  simp only [Option.getD_some]
  rw [if_neg (by simp only [decide_eq_true_eq]; omega), show j.toNat = T.length by omega, hsum]
  congr 2
  omega
theorem rows9_refl (k : Nat) (T : List (List Int)) (hk : T.length + 1 ≤ k) (hl : (T.length : Int) ≤ 1099511627776) (hr : ∀ l ∈ T, l.length + 1 ≤ k ∧ (l.length : Int) ≤ 1099511627776) : laws_rows9 k T T = some true := by
 unfold laws_rows9
 have := loopAll (f := fun k' i => laws_rows9_l0 k T T k' i) (T.length : Int) false (fun _ => True) 0
  (fun k' i h0 h1 _ => by
   show laws_rows9_l0 k T T (k' + 1) i = _
   have hlt : i.toNat < T.length := by omega
   have hm : T.getD i.toNat [] ∈ T := by
    have e : T.getD i.toNat [] = T[i.toNat] := by simp [List.getD, hlt]
    rw [e]; exact List.getElem_mem hlt
   rw [laws_rows9_l0, w64_succ h0 h1 (by omega), like_refl k _ (hr _ hm).1 (hr _ hm).2]
   simp [h0, h1])
  (fun k' i h0 h1 hq => (hq trivial).elim)
  (fun k' i h1 => by
   show laws_rows9_l0 k T T (k' + 1) i = _
   rw [laws_rows9_l0]
   have : ¬ i < (T.length : Int) := by omega
   simp [this]) k 0 (by omega) (by omega)
 rw [this]; simp

def edL (x : Col) : List Int := (x.e.l.take (tri x.p.toNat)).map fun u => (u.toNat : Int)

def cnt (x : Col) (c : Int) : Nat := (edL x).countP fun u => decide (u = c)

theorem edges_eq {x : Col} (h : 1 ≤ x.p ∧ x.p ≤ 17) : impl_Colouring_edges x = (tri x.p.toNat : Int) := tE_tri x h

theorem edL_length {x : Col} (h : 1 ≤ x.p ∧ x.p ≤ 17) : (edL x).length = tri x.p.toNat := by
 have htl := tri_le (n := x.p.toNat) (by omega)
 unfold edL
 rw [List.length_map, List.length_take, x.e.h]; omega

theorem edL_get {x : Col} (h : 1 ≤ x.p ∧ x.p ≤ 17) (e : Nat) (he : e < (edL x).length) : (edL x)[e] = ((x.e.get e).toNat : Int) := by
 have hl := edL_length h
 have htl := tri_le (n := x.p.toNat) (by omega)
 have h2 : e < x.e.l.length := by rw [x.e.h]; omega
 simp only [edL, List.getElem_map, List.getElem_take]
 unfold B136.get
 rw [List.getD_eq_getElem?_getD, List.getElem?_eq_getElem h2, Option.getD_some]

theorem counts_val {k : Nat} {x : Col} (h : x.is) (hk : 140 ≤ k) : impl_Colouring_counts k x = some (mapL x.k.toNat fun c => (cnt x c : Int)) := by
 have hp := h.1
 have hkk := h.2.1
 have htl := tri_le (n := x.p.toNat) (by omega)
 unfold impl_Colouring_counts
 rw [if_pos (by omega), edges_eq hp, if_pos (by omega)]
 have hlen : (x.e.l.take (tri x.p.toNat)).length = tri x.p.toNat := by rw [List.length_take, x.e.h]; omega
 have hget : ∀ i : Nat, i < tri x.p.toNat → (x.e.l.take (tri x.p.toNat)).getD i 0 = x.e.get i := fun i hi => by
  show _ = x.e.l.getD i 0
  rw [List.getD_eq_getElem?_getD, List.getD_eq_getElem?_getD, List.getElem?_take, if_pos hi]
 have := loopI (f := fun k' i (s : List Int) => impl_Colouring_counts_l0 x k' i s) (tri x.p.toNat : Int) 0
  (fun i s => i ≤ tri x.p.toNat ∧ s = mapL x.k.toNat fun c => ((((edL x).take i.toNat).countP fun u => decide (u = (c : Int)) : Nat) : Int)) (fun r => r = mapL x.k.toNat fun c => (cnt x c : Int)) ?_ ?_ k 0 (List.replicate x.k.toNat 0) (by omega) (by omega) ⟨by omega, ?_⟩
 ·obtain ⟨r, e, rfl⟩ := this
  rw [e]; rfl
 ·intro k' i s h0 h1 ⟨_, q⟩
  left
  obtain ⟨m, rfl⟩ := nat_of h0
  have hmt : m < tri x.p.toNat := by omega
  have hlt := is_lt h hmt
  have hsl : s.length = x.k.toNat := by rw [q, mapL_length]
  have e0 : ((m : Int) + 1).toNat = m + 1 := by omega
  refine ⟨s.set (x.e.get m).toNat (s.getD (x.e.get m).toNat 0 + 1), ?_, by omega, ?_⟩
  ·show impl_Colouring_counts_l0 x (k' + 1) m s = _
   have hb : 0 ≤ s.getD (x.e.get m).toNat 0 ∧ s.getD (x.e.get m).toNat 0 ≤ 136 := by
    rw [q, mapL_get _ _ _ (by omega)]
    have := List.countP_le_length (p := fun u => decide (u = (((x.e.get m).toNat : Nat) : Int))) (l := (edL x).take (m : Int).toNat)
    have h2 : ((edL x).take (m : Int).toNat).length ≤ 136 := by
     rw [List.length_take]; unfold edL; rw [List.length_map, hlen]; omega
    omega
   have c1 : ((x.e.get m).toNat : Int) < (s.length : Int) := by omega
   rw [impl_Colouring_counts_l0, edges_eq hp]
   simp only [Int.toNat_natCast, hlen, hget m hmt]
   rw [w64_succ h0 h1 (by omega), w64_id (n := s.getD (x.e.get m).toNat 0 + 1) (by omega)]
   simp only [h1, c1, h0, decide_true, if_true, Int.natCast_nonneg, and_self]
  ·rw [e0]
   simp only [Int.toNat_natCast] at q
   have het : (edL x).take (m + 1) = (edL x).take m ++ [((x.e.get m).toNat : Int)] := by
    have hm2 : m < (edL x).length := by unfold edL; rw [List.length_map, hlen]; exact hmt
    rw [List.take_add_one, List.getElem?_eq_getElem hm2]
    have : (edL x)[m] = ((x.e.get m).toNat : Int) := by
     have hm3 : m < (x.e.l.take (tri x.p.toNat)).length := by omega
     have := hget m hmt
     rw [List.getD_eq_getElem?_getD, List.getElem?_eq_getElem hm3, Option.getD_some] at this
     simp only [edL, List.getElem_map]
     rw [this]
    rw [this]; rfl
   refine List.ext_getElem (by rw [List.length_set, hsl, mapL_length]) fun c hc hc2 => ?_
   rw [List.length_set, hsl] at hc
   have g1 : ∀ c, c < x.k.toNat → ∀ (hh : c < s.length), s[c] = ((((edL x).take m).countP fun u => decide (u = (c : Int)) : Nat) : Int) := fun c hc hh => by
    have : s[c] = s.getD c 0 := by simp [List.getD, hh]
    rw [this, q, mapL_get _ _ _ hc]
   have g2 : (mapL x.k.toNat fun c => ((((edL x).take (m + 1)).countP fun u => decide (u = (c : Int)) : Nat) : Int))[c] = ((((edL x).take (m + 1)).countP fun u => decide (u = (c : Int)) : Nat) : Int) := by simp [mapL]
   rw [g2, het, List.countP_append, List.getElem_set]
   by_cases e : (x.e.get m).toNat = c
   ·rw [if_pos e]
    subst e
    have : s.getD (x.e.get m).toNat 0 = s[(x.e.get m).toNat]'(by omega) := by simp [List.getD, hsl, hc]
    rw [this, g1 _ hc]
    simp
   ·rw [if_neg e, g1 c hc]
    have : ¬ (((x.e.get m).toNat : Nat) : Int) = (c : Int) := by omega
    simp [this]
 ·intro k' i s h0 h1 ⟨q1, q⟩
  have : i = tri x.p.toNat := by omega
  subst this
  refine ⟨s, ?_, ?_⟩
  ·show impl_Colouring_counts_l0 x (k' + 1) (tri x.p.toNat : Nat) s = _
   rw [impl_Colouring_counts_l0, edges_eq hp]
   simp [hlen]
  ·rw [q]
   have : (edL x).take ((tri x.p.toNat : Nat) : Int).toNat = edL x := by
    rw [Int.toNat_natCast]
    exact List.take_of_length_le (by unfold edL; rw [List.length_map, hlen]; omega)
   rw [this]; rfl
 ·refine List.ext_getElem (by rw [List.length_replicate, mapL_length]) fun c hc hc2 => ?_
  simp [mapL]

def sumN (f : Nat → Nat) : Nat → Nat
 | 0 => 0
 | n + 1 => sumN f n + f n

theorem sumN_add (f g : Nat → Nat) : ∀ n, sumN (fun a => f a + g a) n = sumN f n + sumN g n
 | 0 => rfl
 | n + 1 => by rw [sumN, sumN, sumN, sumN_add f g n]; omega

theorem sumN_congr {f g : Nat → Nat} : ∀ n, (∀ a, a < n → f a = g a) → sumN f n = sumN g n
 | 0, _ => rfl
 | n + 1, h => by rw [sumN, sumN, sumN_congr n fun a ha => h a (by omega), h n (by omega)]

theorem sumN_count (Q : Nat → Bool) : ∀ n, sumN (fun a => if Q a then 1 else 0) n = (List.range n).countP Q
 | 0 => rfl
 | n + 1 => by
  rw [sumN, sumN_count Q n, List.range_succ, List.countP_append]
  congr 1
  simp only [List.countP_cons, List.countP_nil, Nat.zero_add]

def cntE (x : Col) (c m : Nat) : Nat := (List.range m).countP fun e => decide ((x.e.get e).toNat = c)

theorem cnt_cntE {x : Col} (hp : 1 ≤ x.p ∧ x.p ≤ 17) (c : Nat) : cnt x c = cntE x c (tri x.p.toNat) := by
 have e : edL x = (List.range (tri x.p.toNat)).map fun e => ((x.e.get e).toNat : Int) := by
  refine List.ext_getElem (by rw [edL_length hp]; simp) fun i h1 h2 => ?_
  rw [edL_get hp]
  simp
 unfold cnt cntE
 rw [e, List.countP_map]
 refine List.countP_congr fun a _ => ?_
 simp only [Function.comp_apply, decide_eq_true_eq]
 omega

def degn (x : Col) (c n a : Nat) : Nat := (List.range n).countP fun b => decide (a ≠ b ∧ x.cc a b = (c : Int))

theorem degn_succ (x : Col) (c n a : Nat) : degn x c (n + 1) a = degn x c n a + if a ≠ n ∧ x.cc a n = (c : Int) then 1 else 0 := by
 unfold degn
 rw [List.range_succ, List.countP_append]
 congr 1
 simp only [List.countP_cons, List.countP_nil, Nat.zero_add, decide_eq_true_eq]

def newE (x : Col) (c n : Nat) : Nat := (List.range n).countP fun a : Nat => decide (x.cc a n = (c : Int))

theorem cntE_tri (x : Col) (c n : Nat) (hn : n ≤ 16) : cntE x c (tri (n + 1)) = cntE x c (tri n) + newE x c n := by
 have ht : tri (n + 1) = tri n + n := by
  have : ∀ n, n ≤ 16 → tri (n + 1) = tri n + n := by decide +kernel
  exact this n hn
 unfold cntE newE
 rw [ht, List.range_add, List.countP_append, List.countP_map]
 congr 1
 refine List.countP_congr fun a ha => ?_
 have ha := List.mem_range.1 ha
 have he : eN a n = tri n + a := by unfold eN tri; rw [if_neg (by omega)]
 simp only [Function.comp_apply, decide_eq_true_eq]
 rw [cc_nat, he]
 omega

theorem hands (x : Col) (c : Nat) : ∀ n, n ≤ 17 → sumN (degn x c n) n = 2 * cntE x c (tri n)
 | 0, _ => rfl
 | n + 1, hn => by
  have h1 : sumN (degn x c (n + 1)) n = sumN (degn x c n) n + newE x c n := by
   rw [sumN_congr n (fun a ha => degn_succ x c n a), sumN_add]
   congr 1
   have := sumN_count (fun a : Nat => decide (x.cc a n = (c : Int))) n
   unfold newE
   rw [← this]
   refine sumN_congr n fun a ha => ?_
   by_cases h : x.cc a n = (c : Int)
   ·rw [if_pos ⟨by omega, h⟩, if_pos (decide_eq_true h)]
   ·rw [if_neg (fun q => h q.2), if_neg (by simpa using h)]
  have h2 : degn x c (n + 1) n = newE x c n := by
   rw [degn_succ, if_neg (fun q => q.1 rfl), Nat.add_zero]
   unfold degn newE
   refine List.countP_congr fun b hb => ?_
   have hb := List.mem_range.1 hb
   simp only [decide_eq_true_eq]
   rw [cc_comm]
   constructor
   ·exact fun q => q.2
   ·exact fun q => ⟨by omega, q⟩
  rw [sumN, h1, h2, hands x c n (by omega), cntE_tri x c n (by omega)]
  omega

/-! ### Numbers of automorphisms -/
def cbC (e : List Int) (s : Int) : Bool × Int := (decide (s + 1 ≤ 20000), s + 1)
theorem runC_val : ∀ (L : List (List Int)) (s : Int), 0 ≤ s → s ≤ 20000 → (runT cbC L s).2 = if s + L.length ≤ 20001 then s + L.length else 20001
 | [], s, h0, h1 => by rw [runT_nil, if_pos (by simp; omega)]; simp
 | a :: t, s, h0, h1 => by
  rw [runT]
  by_cases h : s + 1 ≤ 20000
  ·rw [if_pos (show (cbC a s).1 = true from decide_eq_true h)]
   show (runT cbC t (s + 1)).2 = _
   rw [runC_val t (s + 1) (by omega) h]
   simp only [List.length_cons]
   split <;> split <;> omega
  ·rw [if_neg (show ¬ (cbC a s).1 = true by unfold cbC; simpa using h)]
   show s + 1 = _
   simp only [List.length_cons]
   split <;> omega
theorem runS_count : ∀ (L : List (List Int)) (s : Sea), s.most = 20001 → 0 ≤ s.count → s.count ≤ 20000 → (runT cbS L s).2.count = if s.count + L.length ≤ 20001 then s.count + L.length else 20001
 | [], s, hm, h0, h1 => by rw [runT_nil, if_pos (by simp; omega)]; simp
 | a :: t, s, hm, h0, h1 => by
  rw [runT]
  by_cases h : s.count + 1 < s.most
  ·rw [if_pos (show (cbS a s).1 = true from decide_eq_true h)]
   have := runS_count t (cbS a s).2 hm (by show 0 ≤ s.count + 1; omega) (by show s.count + 1 ≤ 20000; omega)
   rw [this]
   show (if s.count + 1 + (t.length : Int) ≤ 20001 then s.count + 1 + (t.length : Int) else 20001) = _
   simp only [List.length_cons]
   split <;> split <;> omega
  ·rw [if_neg (show ¬ (cbS a s).1 = true by unfold cbS; simpa using h)]
   show s.count + 1 = _
   simp only [List.length_cons]
   split <;> omega
def numA (x : Col) : Int × Int := if 20000 < (RN x x).length then (0, 3) else (((RN x x).length : Int), 0)
theorem implCount_val {k : Nat} (hk : 5000 ≤ k) {x : Col} (hx : x.is) : impl_CountAutomorphisms k x = some (numA x) := by
 have hp := hx.1
 unfold impl_CountAutomorphisms impl_Colouring_leading_on_CountAutomorphisms_c1 impl_always
 rw [((code_cases hk x).1 hx).1, points_val x hp (by omega)]
 obtain ⟨o1, o2, o3⟩ := pts_ord hp
 obtain ⟨t, e, ht⟩ := tracer_val hx hx (pts x) k (by omega) rfl rfl
 have hto : t.o.length = x.p.toNat := by rw [ht.ho, o2]
 have hty : t.y.p = x.p := by rw [ht.hy]
 obtain ⟨cs', _, _, r, _⟩ := run_CountAutomorphisms_c1 t (by rw [ht.ho]; exact o1) (by omega) cbC (fun s => 0 ≤ s ∧ s ≤ 20000) (fun k cs s _ _ _ hi => by
  unfold impl_CountAutomorphisms_c1 cbC
  rw [w64_id (by omega)]
  exact ⟨rfl, fun h => ⟨by show 0 ≤ s + 1; omega, of_decide_eq_true h⟩⟩) x.p.toNat (List.replicate 17 0) 0 0 k (by omega) (by simp) (isRen_nil t) ⟨by omega, by omega⟩ (by omega)
 rw [List.take_zero, TI_okT hx hx rfl ht _ (Nat.le_refl _), ← RN_yes ⟨rfl, rfl⟩] at r
 simp only [Option.bind_some, decide_true, Bool.not_true, Bool.false_eq_true, if_false]
 rw [e]
 simp only [Option.bind_some]
 rw [r]
 simp only [Option.bind_some]
 rw [runC_val _ 0 (by omega) (by omega)]
 obtain ⟨v, hv⟩ : ∃ v, v = (if (0 : Int) + ((RN x x).length : Int) ≤ 20001 then (0 : Int) + ((RN x x).length : Int) else 20001) := ⟨_, rfl⟩
 have hv2 : (20000 < (RN x x).length → 20000 < v) ∧ ((RN x x).length ≤ 20000 → v = ((RN x x).length : Int)) := by
  rw [hv]
  split <;> exact ⟨fun _ => by omega, fun _ => by omega⟩
 rw [← hv]
 unfold numA
 by_cases h : 20000 < (RN x x).length
 ·rw [if_pos h, if_pos (decide_eq_true (hv2.1 h))]
 ·have := hv2.2 (by omega)
  rw [if_neg h, if_neg (by simp only [decide_eq_true_eq]; omega), this]
theorem specCount_val {k : Nat} (hk : 5000 ≤ k) {x : Col} (hx : x.is) : spec_CountAutomorphisms k x = some (numA x) := by
 classical
 unfold spec_CountAutomorphisms
 rw [specIs_eq k (by omega), decide_eq_true hx]
 simp only [Option.bind_some, Bool.not_true, Bool.false_eq_true, if_false]
 rw [between_val hk hx hx (by omega), Option.bind_some, runS_count _ _ rfl (by show (0 : Int) ≤ 0; omega) (by show (0 : Int) ≤ 20000; omega)]
 show (if decide (20000 < (if (0 : Int) + ((RN x x).length : Int) ≤ 20001 then (0 : Int) + ((RN x x).length : Int) else 20001)) = true then _ else some ((if (0 : Int) + ((RN x x).length : Int) ≤ 20001 then (0 : Int) + ((RN x x).length : Int) else 20001), 0)) = _
 obtain ⟨v, hv⟩ : ∃ v, v = (if (0 : Int) + ((RN x x).length : Int) ≤ 20001 then (0 : Int) + ((RN x x).length : Int) else 20001) := ⟨_, rfl⟩
 have hv2 : (20000 < (RN x x).length → 20000 < v) ∧ ((RN x x).length ≤ 20000 → v = ((RN x x).length : Int)) := by
  rw [hv]
  split <;> exact ⟨fun _ => by omega, fun _ => by omega⟩
 rw [← hv]
 unfold numA
 by_cases h : 20000 < (RN x x).length
 ·rw [if_pos h, if_pos (decide_eq_true (hv2.1 h))]
 ·have := hv2.2 (by omega)
  rw [if_neg h, if_neg (by simp only [decide_eq_true_eq]; omega), this]

/-! ### Self-alike colourings -/
def selfA (x : Col) : Bool := (faL x x ((ordL x.k.toNat).drop 1)).isSome
theorem ord_pos {x : Col} (hx : x.is) : 1 ≤ (ordL x.k.toNat).length := by
 have := List.length_pos_of_mem (ordL_id x.k.toNat)
 omega
theorem ord_256 {x : Col} (hx : x.is) : (ordL x.k.toNat).length ≤ 256 := by
 have hkk := hx.2.1
 have := exts_count (K := x.k.toNat) (ok := okD) x.k.toNat []
 have h4 : x.k.toNat ^ x.k.toNat ≤ 4 ^ x.k.toNat := Nat.pow_le_pow_left (by omega) _
 have h5 : 4 ^ x.k.toNat ≤ 4 ^ 4 := Nat.pow_le_pow_right (by omega) (by omega)
 have h6 : 4 ^ 4 = 256 := by decide
 unfold ordL
 omega
theorem alike1_val {k : Nat} (hk : 5000 ≤ k) {x : Col} (hx : x.is) : ∃ q p, impl_Colouring_alike k x x 1 = some (q, p, selfA x) := by
 have hkk := hx.2.1
 have ek : ((x.k.toNat : Nat) : Int) = x.k := by omega
 have ho := implOrders_val x.k.toNat (by omega) x.k.toNat [] k (by simp) (by omega)
 rw [ek] at ho
 have hl256 := ord_256 hx
 have hl1 := ord_pos hx
 have hmem : ∀ q ∈ ordL x.k.toNat, isOrd q x.k := fun q hq => ordK hx hq
 unfold impl_Colouring_alike selfA
 rw [ho, Option.bind_some]
 show ∃ q p, ((if 0 ≤ (1 : Int) ∧ 1 ≤ ((ordL x.k.toNat).length : Int) ∧ ((ordL x.k.toNat).length : Int) ≤ ((ordL x.k.toNat).length : Int) then impl_Colouring_alike_l0 k x x 1 (ordL x.k.toNat) k 0 else none).bind _) = some _
 rw [if_pos ⟨by omega, by omega, by omega⟩]
 generalize ordL x.k.toNat = L0 at *
 have hdrop : (L0.take L0.length).drop (1 : Int).toNat = L0.drop 1 := by rw [List.take_length]; rfl
 obtain ⟨L, hL⟩ : ∃ L, L = L0.drop 1 := ⟨_, rfl⟩
 rw [← hL] at hdrop ⊢
 have hLl : L.length ≤ 256 := by rw [hL, List.length_drop]; omega
 have hmemL : ∀ q ∈ L, isOrd q x.k := fun q hq => hmem q (by rw [hL] at hq; exact List.mem_of_mem_drop hq)
 have := loopI (f := fun k' j (_ : Unit) => impl_Colouring_alike_l0 k x x 1 L0 k' j) (L.length : Int) 0 (fun j _ => j ≤ L.length ∧ faL x x (L.drop j.toNat) = faL x x L)
  (fun r => r = match faL x x L with | none => .inl () | some (q, p) => .inr (q, some p, true)) ?_ ?_ k 0 () (by omega) (by omega) ⟨by omega, by simp⟩
 ·obtain ⟨r, e, rfl⟩ := this
  rw [e]
  cases faL x x L with
  | none => exact ⟨_, _, rfl⟩
  | some v => exact ⟨_, _, rfl⟩
 ·rintro k' j _ h0 h1 ⟨q1, q2⟩
  obtain ⟨i, rfl⟩ := nat_of h0
  rw [Int.toNat_natCast] at q2
  have hi : i < L.length := by omega
  have hq : L.getD i [] = L[i] := by simp [List.getD, hi]
  have hoq := hmemL L[i] (List.getElem_mem hi)
  have hql := hoq.1
  have hexis := exC_is hx hoq
  have hdr : faL x x (L.drop i) = if RN (exC x L[i]) x = [] then faL x x (L.drop (i + 1)) else some (L[i], (RN (exC x L[i]) x).headD []) := by
   rw [List.drop_eq_getElem_cons hi, faL]
  rw [hdr] at q2
  have hrec : impl_Colouring_recoloured k x x.k (fun a0 => impl_Colouring_alike_c1 a0 L[i]) = some (exC x L[i]) := recol_val hx x.k _ (fun c => L[i].getD c.toNat 0) (fun c h0 h1 => by
   unfold impl_Colouring_alike_c1
   rw [if_pos (by omega)]) (by omega)
  have hstep : impl_Colouring_alike_l0 k x x 1 L0 (k' + 1) i = if RN (exC x L[i]) x = [] then impl_Colouring_alike_l0 k x x 1 L0 k' ((i : Int) + 1) else some (.inr (L[i], some ((RN (exC x L[i]) x).headD []), true)) := by
   rw [impl_Colouring_alike_l0, hdrop, if_pos (decide_eq_true h1), if_pos ⟨h0, h1⟩, Int.toNat_natCast, hq, hrec, Option.bind_some, renumbering_val hk hexis hx, Option.bind_some, w64_succ h0 h1 (by omega)]
   by_cases e : RN (exC x L[i]) x = []
   ·rw [if_pos e]; simp [e]
   ·rw [if_neg e]; simp [e]
  by_cases e : RN (exC x L[i]) x = []
  ·left
   rw [if_pos e] at q2
   refine ⟨(), ?_, by omega, by rw [show ((i : Int) + 1).toNat = i + 1 by omega]; exact q2⟩
   show impl_Colouring_alike_l0 k x x 1 L0 (k' + 1) i = _
   rw [hstep, if_pos e]
  ·right
   rw [if_neg e] at q2
   refine ⟨.inr (L[i], some ((RN (exC x L[i]) x).headD []), true), ?_, by rw [← q2]⟩
   show impl_Colouring_alike_l0 k x x 1 L0 (k' + 1) i = _
   rw [hstep, if_neg e]
 ·rintro k' j _ h0 h1 ⟨q1, q2⟩
  refine ⟨.inl (), ?_, ?_⟩
  ·show impl_Colouring_alike_l0 k x x 1 L0 (k' + 1) j = _
   rw [impl_Colouring_alike_l0, hdrop, if_neg (by simp only [decide_eq_true_eq]; omega)]
  ·rw [show j.toNat = L.length by omega, List.drop_length] at q2
   rw [← q2]; rfl
theorem implSelf_val {k : Nat} (hk : 5000 ≤ k) {x : Col} (hx : x.is) : impl_IsSelfAlike k x = some (selfA x, 0) := by
 obtain ⟨q, p, e⟩ := alike1_val hk hx
 unfold impl_IsSelfAlike impl_Colouring_isSelfAlike impl_always
 rw [((code_cases hk x).1 hx).1]
 simp only [Option.bind_some, decide_true, Bool.not_true, Bool.false_eq_true, if_false]
 rw [e, Option.bind_some]
 cases p <;> rfl
theorem specSelf_val {k : Nat} (hk : 5000 ≤ k) {x : Col} (hx : x.is) : spec_IsSelfAlike k x = some (selfA x, 0) := by
 classical
 have hkk := hx.2.1
 have ek : ((x.k.toNat : Nat) : Int) = x.k := by omega
 have ho := specOrders_val x.k.toNat (by omega) x.k.toNat [] k (by simp) (by omega)
 rw [ek] at ho
 have hl256 := ord_256 hx
 have hl1 := ord_pos hx
 have hmem : ∀ q ∈ ordL x.k.toNat, isOrd q x.k := fun q hq => ordK hx hq
 unfold spec_IsSelfAlike selfA
 rw [specIs_eq k (by omega), decide_eq_true hx]
 simp only [Option.bind_some, Bool.not_true, Bool.false_eq_true, if_false]
 rw [ho, Option.bind_some]
 show ((spec_IsSelfAlike_l0 k x (ordL x.k.toNat) k 1).bind _) = some _
 generalize ordL x.k.toNat = L at *
 have := loopI (f := fun k' j (_ : Unit) => spec_IsSelfAlike_l0 k x L k' j) (L.length : Int) 1 (fun j _ => j ≤ L.length ∧ (faL x x (L.drop j.toNat)).isSome = (faL x x (L.drop 1)).isSome)
  (fun r => r = if (faL x x (L.drop 1)).isSome then .inr (true, 0) else .inl ()) ?_ ?_ k 1 () (by omega) (by omega) ⟨by omega, rfl⟩
 ·obtain ⟨r, e, rfl⟩ := this
  rw [e]
  cases (faL x x (L.drop 1)).isSome <;> rfl
 ·rintro k' j _ h0 h1 ⟨q1, q2⟩
  obtain ⟨i, rfl⟩ : ∃ i : Nat, j = i := ⟨j.toNat, by omega⟩
  rw [Int.toNat_natCast] at q2
  have hi : i < L.length := by omega
  have hq : L.getD i [] = L[i] := by simp [List.getD, hi]
  have hoq := hmem L[i] (List.getElem_mem hi)
  have hexis := exC_is hx hoq
  have hdr : faL x x (L.drop i) = if RN (exC x L[i]) x = [] then faL x x (L.drop (i + 1)) else some (L[i], (RN (exC x L[i]) x).headD []) := by
   rw [List.drop_eq_getElem_cons hi, faL]
  rw [hdr] at q2
  obtain ⟨s, hs, hs1, hs2⟩ := between_one hk hexis hx
  have htu : spec_l01Turned k x L[i] = some (exC x L[i]) := turned_val hx L[i] hoq.1 (by omega)
  have hw : w64 ((i : Int) + 1) = (i : Int) + 1 := w64_id (by omega)
  have hstep : spec_IsSelfAlike_l0 k x L (k' + 1) i = if RN (exC x L[i]) x = [] then spec_IsSelfAlike_l0 k x L k' ((i : Int) + 1) else some (.inr (true, 0)) := by
   rw [spec_IsSelfAlike_l0, if_pos (decide_eq_true h1), if_pos ⟨by omega, h1⟩, Int.toNat_natCast, hq, htu, Option.bind_some, hs, Option.bind_some, hs1, hw]
   by_cases e : RN (exC x L[i]) x = []
   ·rw [if_pos e, if_pos e]; simp
   ·rw [if_neg e, if_neg e]; simp
  by_cases e : RN (exC x L[i]) x = []
  ·left
   rw [if_pos e] at q2
   refine ⟨(), ?_, by omega, by rw [show ((i : Int) + 1).toNat = i + 1 by omega]; exact q2⟩
   show spec_IsSelfAlike_l0 k x L (k' + 1) i = _
   rw [hstep, if_pos e]
  ·right
   rw [if_neg e] at q2
   refine ⟨.inr (true, 0), ?_, by rw [← q2]; rfl⟩
   show spec_IsSelfAlike_l0 k x L (k' + 1) i = _
   rw [hstep, if_neg e]
 ·rintro k' j _ h0 h1 ⟨q1, q2⟩
  refine ⟨.inl (), ?_, ?_⟩
  ·show spec_IsSelfAlike_l0 k x L (k' + 1) j = _
   rw [spec_IsSelfAlike_l0, if_neg (by simp only [decide_eq_true_eq]; omega)]
  ·rw [show j.toNat = L.length by omega, List.drop_length] at q2
   rw [← q2]; rfl

/-! ### As many edges -/
theorem exC_cc {x : Col} (hx : x.is) {q : List Int} (ho : isOrd q x.k) {a b : Nat} (ha : a < x.p.toNat) (hb : b < x.p.toNat) (hab : a ≠ b) : (exC x q).cc a b = q.getD (x.cc a b).toNat 0 := by
 have hp := hx.1
 have hkk := hx.2.1
 have key : ∀ a b : Nat, a < b → b < x.p.toNat → (exC x q).cc a b = q.getD (x.cc a b).toNat 0 := fun a b hab hb => by
  have hc := is_cc hx (a := a) (b := b) (by omega) (by omega) (by omega)
  have hl := ho.1
  have := ho.2.1 (x.cc a b).toNat (by omega)
  exact mkC_cc (by omega) _ _ hab hb ⟨by omega, by omega⟩
 rcases Nat.lt_or_gt_of_ne hab with w | w
 ·exact key a b w hb
 ·rw [cc_comm, key b a w ha, cc_comm]
theorem dgC_degn (x : Col) (a c n : Nat) : dgC x a c n = degn x c n a := by
 unfold dgC degn
 refine List.countP_congr fun b _ => ?_
 simp only [Bool.and_eq_true, decide_eq_true_eq]
 exact ⟨fun h => ⟨fun e => h.1 e.symm, h.2⟩, fun h => ⟨fun e => h.1 e.symm, h.2⟩⟩
theorem sumN_sum (f : Nat → Nat) : ∀ n, sumN f n = ((List.range n).map f).sum
 | 0 => rfl
 | n + 1 => by rw [sumN, sumN_sum f n, List.range_succ, List.map_append, List.sum_append]; simp
theorem sumN_perm {l : List Int} {n : Nat} (ho : isOrd l n) (f : Nat → Nat) : sumN (fun i => f (l.getD i 0).toNat) n = sumN f n := by
 have hperm : ((List.range n).map fun q => (l.getD q 0).toNat).Perm (List.range n) := by
  refine (List.perm_ext_iff_of_nodup (nodup_map_on _ _ List.nodup_range fun a ha b hb e => ?_) List.nodup_range).2 fun q => ?_
  ·have ha := List.mem_range.1 ha
   have hb := List.mem_range.1 hb
   obtain ⟨a', e1, _⟩ := ord_at ho ha
   obtain ⟨b', e2, _⟩ := ord_at ho hb
   exact ord_ne ho ha hb (by rw [e1, e2] at e ⊢; omega)
  ·rw [List.mem_map, List.mem_range]
   constructor
   ·rintro ⟨a, ha, rfl⟩
    obtain ⟨a', e1, h⟩ := ord_at ho (List.mem_range.1 ha)
    omega
   ·intro hq
    obtain ⟨a, ha, e⟩ := ord_surj ho hq
    exact ⟨a, List.mem_range.2 ha, by omega⟩
 rw [sumN_sum, sumN_sum]
 have := (hperm.map f).sum_nat
 rw [List.map_map] at this
 exact this
theorem cnt_deg {x : Col} (hx : x.is) (c : Nat) : sumN (fun a => dgC x a c x.p.toNat) x.p.toNat = 2 * cnt x c := by
 have hp := hx.1
 rw [sumN_congr _ (fun a _ => dgC_degn x a c x.p.toNat), hands x c _ (by omega), cnt_cntE hp]
theorem cnt_ren {x : Col} (hx : x.is) {l : List Int} (ho : isOrd l x.p) (c : Nat) : cnt (ren x l) c = cnt x c := by
 have hp := hx.1
 have hr := ren_is hx ho
 have h1 := cnt_deg hr c
 have h2 := cnt_deg hx c
 rw [ren_p x hx ho] at h1
 rw [← sumN_perm (ord_nat hp ho) (fun a => dgC (ren x l) a c x.p.toNat)] at h1
 rw [sumN_congr _ (fun i hi => dgC_ren hx ho hi c)] at h1
 omega
theorem cnt_exC {x : Col} (hx : x.is) {q : List Int} (ho : isOrd q x.k) (c d : Nat) (hq : ∀ v : Nat, (v : Int) < x.k → (q.getD v 0 = (c : Int) ↔ v = d)) : cnt (exC x q) c = cnt x d := by
 have hp := hx.1
 have h1 := cnt_deg (exC_is hx ho) c
 have h2 := cnt_deg hx d
 rw [exC_p x hp q] at h1
 rw [sumN_congr (g := fun a => dgC x a d x.p.toNat) _ (fun a ha => ?_)] at h1
 ·omega
 ·unfold dgC
  refine List.countP_congr fun b hb => ?_
  have hb := List.mem_range.1 hb
  simp only [Bool.and_eq_true, decide_eq_true_eq]
  by_cases e : b = a
  ·simp [e]
  ·have hc := is_cc hx (a := a) (b := b) (by omega) (by omega) (fun h => e h.symm)
   have := hq (x.cc a b).toNat (by omega)
   rw [exC_cc hx ho ha hb (fun h => e h.symm), this]
   constructor
   ·rintro ⟨h3, h4⟩; exact ⟨h3, by omega⟩
   ·rintro ⟨h3, h4⟩; exact ⟨h3, by omega⟩
theorem self_edges {x : Col} (hx : x.is) (h2 : x.k = 2) (h : selfA x = true) : cnt x (0 : Nat) = cnt x (1 : Nat) := by
 have hp := hx.1
 unfold selfA at h
 have hL : (ordL x.k.toNat).drop 1 = [[1, 0]] := by rw [h2]; rfl
 rw [hL] at h
 cases hf : faL x x [[1, 0]] with
 | none => rw [hf] at h; cases h
 | some v =>
  obtain ⟨q, p⟩ := v
  obtain ⟨h3, h4⟩ := faL_some _ _ _ hf
  rw [List.mem_singleton] at h3
  subst h3
  have hoq : isOrd [1, 0] x.k := ordK hx (by rw [h2]; decide)
  have hes := exC_is hx hoq
  obtain ⟨_, _, ho, hr⟩ := RN_ok hes hx h4
  have e1 := cnt_ren hes ho 0
  rw [hr] at e1
  rw [e1]
  refine cnt_exC hx hoq 0 1 fun v hv => ?_
  have : v = 0 ∨ v = 1 := by omega
  rcases this with rfl | rfl <;> decide
theorem countE_val {k : Nat} (hk : 5000 ≤ k) {x : Col} (hx : x.is) : impl_CountEdges k x = some (some (mapL x.k.toNat fun c => (cnt x c : Int)), 0) := by
 unfold impl_CountEdges impl_always
 rw [((code_cases hk x).1 hx).1, counts_val hx (by omega)]
 rfl

theorem gD {l : List Int} {i : Nat} (h : i < l.length) : l.getD i 0 = l[i] := by simp [List.getD, h]

def ltL (x y : List Int) : Prop := ∃ i, i < x.length ∧ (∀ j, j < i → x.getD j 0 = y.getD j 0) ∧ x.getD i 0 < y.getD i 0

theorem ltL_irr (x : List Int) : ¬ ltL x x := fun ⟨i, _, _, h⟩ => by omega

theorem ltL_trans {x y z : List Int} (hl : x.length = y.length) (h1 : ltL x y) (h2 : ltL y z) : ltL x z := by
 obtain ⟨i, i1, i2, i3⟩ := h1
 obtain ⟨j, j1, j2, j3⟩ := h2
 by_cases h : i < j
 ·exact ⟨i, i1, fun a ha => by rw [i2 a ha, j2 a (by omega)], by rw [← j2 i h]; exact i3⟩
 ·by_cases e : i = j
  ·subst e; exact ⟨i, i1, fun a ha => by rw [i2 a ha, j2 a ha], by omega⟩
  ·exact ⟨j, by omega, fun a ha => by rw [i2 a (by omega), j2 a ha], by rw [i2 j (by omega)]; exact j3⟩

theorem ltL_first {x y : List Int} : ∀ m, (∀ j, j < m → x.getD j 0 = y.getD j 0) ∨ ∃ i, i < m ∧ (∀ j, j < i → x.getD j 0 = y.getD j 0) ∧ x.getD i 0 ≠ y.getD i 0
 | 0 => .inl fun j h => by omega
 | m + 1 => by
  rcases ltL_first (x := x) (y := y) m with h | ⟨i, h1, h2⟩
  ·by_cases e : x.getD m 0 = y.getD m 0
   ·refine .inl fun j hj => ?_
    by_cases hjm : j = m
    ·rw [hjm]; exact e
    ·exact h j (by omega)
   ·exact .inr ⟨m, by omega, h, e⟩
  ·exact .inr ⟨i, by omega, h2⟩

theorem ltL_tot {x y : List Int} (hl : x.length = y.length) : x = y ∨ ltL x y ∨ ltL y x := by
 rcases ltL_first (x := x) (y := y) x.length with h | ⟨i, h1, h2, h3⟩
 ·left
  refine List.ext_getElem hl fun i g1 g2 => ?_
  have := h i g1
  rwa [gD g1, gD g2] at this
 ·right
  by_cases c : x.getD i 0 < y.getD i 0
  ·exact .inl ⟨i, h1, h2, c⟩
  ·exact .inr ⟨i, by omega, fun j hj => (h2 j hj).symm, by omega⟩

theorem le_trans' {a b c : List Int} (h1 : a.length = b.length) (h2 : b.length = c.length) (hab : ¬ ltL b a) (hbc : ¬ ltL c b) : ¬ ltL c a := fun h => by
 rcases ltL_tot h1 with e | e | e
 ·rw [e] at h; exact hbc h
 ·exact hbc (ltL_trans (by omega) h e)
 ·exact hab e

theorem ltL_stop {x y : List Int} (hl : x.length = y.length) {i : Nat} (hi : i < x.length) (he : ∀ j, j < i → x.getD j 0 = y.getD j 0) (hne : x.getD i 0 ≠ y.getD i 0) : ltL x y ↔ x.getD i 0 < y.getD i 0 := by
 constructor
 ·rintro ⟨m, m1, m2, m3⟩
  by_cases h : m < i
  ·have := he m h; omega
  ·by_cases e : m = i
   ·rw [← e]; exact m3
   ·exact absurd (m2 i (by omega)) hne
 ·intro h; exact ⟨i, hi, he, h⟩

theorem ordL_mem {n : Nat} {p : List Int} (h : isOrd p n) : p ∈ ordL n := by
 have hl : p.length = n := by have := h.1; omega
 refine mem_exts _ _ _ (by simp [hl]) (by simp) fun i _ hi => ⟨(p.getD i 0).toNat, ?_, ?_, ?_⟩
 ·have := h.2.1 i hi; omega
 ·have := h.2.1 i hi; omega
 ·have hr := h.2.1 i hi
  unfold okD
  rw [decide_eq_true_eq, Int.toNat_of_nonneg hr.1]
  intro hm
  obtain ⟨a, ha, e⟩ := mem_getD.1 hm
  have ha2 : a < i := by simp at ha; omega
  refine h.2.2 a i ha2 hi ?_
  rw [← e]
  simp [List.getD, List.getElem?_take, ha2]

theorem pow7 {n d : Nat} (hn : n ≤ 7) (hd : d ≤ 7) : n ^ d ≤ 823543 := by
 have h1 : n ^ d ≤ 7 ^ d := Nat.pow_le_pow_left hn d
 have h2 : 7 ^ d ≤ 7 ^ 7 := Nat.pow_le_pow_right (by omega) hd
 have : 7 ^ 7 = 823543 := by decide
 omega
theorem implOrders7_val (n : Nat) (hn : n ≤ 7) : ∀ (d : Nat) (l : List Int) (k : Nat), l.length + d = n → d + 200 ≤ k → impl_orders k n l = some (exts n okD d l) := by
 intro d
 induction d with
 | zero =>
  intro l k hl hk
  obtain ⟨k, rfl⟩ : ∃ q, k = q + 1 := ⟨k - 1, by omega⟩
  rw [impl_orders, impl_orders_body, exts_zero, if_pos (decide_eq_true (by unfold impl_size; omega))]
 | succ d ih =>
  intro l k hl hk
  obtain ⟨k, rfl⟩ : ∃ q, k = q + 1 := ⟨k - 1, by omega⟩
  rw [impl_orders, impl_orders_body, exts_succ, if_neg (by unfold impl_size; simp only [decide_eq_true_eq]; omega)]
  have := loopI (f := fun k' j (s : List (List Int)) => impl_orders_l0 k (impl_orders k) n l k' j s) (n : Int) 0 (fun j s => j ≤ n ∧ s = epre n okD d l j.toNat) (fun s => s = epre n okD d l n) ?_ ?_ k 0 [] (by omega) (by omega) ⟨by omega, rfl⟩
  ·obtain ⟨s, e, rfl⟩ := this
   rw [e, Option.bind_some]
  ·rintro k' j s h0 h1 ⟨q1, rfl⟩
   obtain ⟨c, rfl⟩ := nat_of h0
   left
   refine ⟨epre n okD d l (c + 1), ?_, by omega, by rw [show ((c : Int) + 1).toNat = c + 1 by omega]⟩
   show impl_orders_l0 k (impl_orders k) n l (k' + 1) c _ = _
   have e1 : slices_Contains k l c = some (decide ((c : Int) ∈ l)) := by
    rw [index_eq k l c (by omega) (by omega)]
    congr 1
    rw [decide_eq_decide]
    exact mem_getD.symm
   have hle := epre_le (n := n) (d := d) (l := l) (c + 1) (by omega)
   have hp6 := pow7 (n := n) (d := d + 1) hn (by omega)
   have hpre := epre_succ (K := n) (ok := okD) (n := d) (l := l) c
   rw [impl_orders_l0, if_pos (decide_eq_true h1), e1, Option.bind_some, w64_succ h0 h1 (by omega), Int.toNat_natCast]
   rw [hpre, List.length_append] at hle
   rw [hpre]
   unfold esub at hle ⊢
   by_cases hm : (c : Int) ∈ l
   ·have : okD l c = false := decide_eq_false (fun h => h hm)
    rw [decide_eq_true hm, this, if_neg (by simp), if_neg (by simp), Option.bind_some, List.append_nil]
   ·have hok : okD l c = true := decide_eq_true hm
    rw [hok, if_pos rfl] at hle
    rw [decide_eq_false hm, hok, Bool.not_false, if_pos rfl, if_pos rfl]
    have hr := ih (l ++ [(c : Int)]) k (by simp; omega) (by omega)
    cases l with
    | nil =>
     rw [List.nil_append] at hr hle
     rw [if_pos (show ([] : List Int).isEmpty = true from rfl), if_pos ⟨by simp, by simp⟩, hr, Option.bind_some, if_pos (by omega), Option.bind_some, List.nil_append]
    | cons a t =>
     have ecl : cloneA (a :: t) = some (a :: t) := by
      unfold cloneA
      rw [if_pos (by omega)]
     rw [if_neg (by simp), ecl, Option.bind_some, if_pos (by simp only [List.length_singleton]; omega), hr, Option.bind_some, if_pos (by omega), Option.bind_some]
  ·rintro k' j s h0 h1 ⟨q1, rfl⟩
   refine ⟨epre n okD d l j.toNat, ?_, by rw [show j.toNat = n by omega]⟩
   show impl_orders_l0 k (impl_orders k) n l (k' + 1) j _ = _
   rw [impl_orders_l0, if_neg (by simp only [decide_eq_true_eq]; omega)]
theorem specOrders7_val (n : Nat) (hn : n ≤ 7) : ∀ (d : Nat) (l : List Int) (k : Nat), l.length + d = n → d + 200 ≤ k → spec_l06Orders k l n = some (exts n okD d l) := by
 intro d
 induction d with
 | zero =>
  intro l k hl hk
  obtain ⟨k, rfl⟩ : ∃ q, k = q + 1 := ⟨k - 1, by omega⟩
  rw [spec_l06Orders, spec_l06Orders_body, exts_zero, if_pos (decide_eq_true (by omega))]
 | succ d ih =>
  intro l k hl hk
  obtain ⟨k, rfl⟩ : ∃ q, k = q + 1 := ⟨k - 1, by omega⟩
  rw [spec_l06Orders, spec_l06Orders_body, exts_succ, if_neg (by simp only [decide_eq_true_eq]; omega)]
  have := loopI (f := fun k' j (s : List (List Int)) => spec_l06Orders_l0 k (spec_l06Orders k) l n k' j s) (n : Int) 0 (fun j s => j ≤ n ∧ s = epre n okD d l j.toNat) (fun s => s = epre n okD d l n) ?_ ?_ k 0 [] (by omega) (by omega) ⟨by omega, rfl⟩
  ·obtain ⟨s, e, rfl⟩ := this
   rw [e, Option.bind_some]
  ·rintro k' j s h0 h1 ⟨q1, rfl⟩
   obtain ⟨c, rfl⟩ := nat_of h0
   left
   refine ⟨epre n okD d l (c + 1), ?_, by omega, by rw [show ((c : Int) + 1).toNat = c + 1 by omega]⟩
   show spec_l06Orders_l0 k (spec_l06Orders k) l n (k' + 1) c _ = _
   have hle := epre_le (n := n) (d := d) (l := l) (c + 1) (by omega)
   have hp6 := pow7 (n := n) (d := d + 1) hn (by omega)
   have hpre := epre_succ (K := n) (ok := okD) (n := d) (l := l) c
   rw [spec_l06Orders_l0, if_pos (decide_eq_true h1), known_val l c (by omega) k (by omega), Option.bind_some, w64_succ h0 h1 (by omega), Int.toNat_natCast]
   rw [hpre, List.length_append] at hle
   rw [hpre]
   unfold esub at hle ⊢
   by_cases hm : (c : Int) ∈ l
   ·have : okD l c = false := decide_eq_false (fun h => h hm)
    rw [decide_eq_true hm, this, if_neg (by simp), if_neg (by simp), Option.bind_some, List.append_nil]
   ·have hok : okD l c = true := decide_eq_true hm
    rw [hok, if_pos rfl] at hle
    rw [decide_eq_false hm, hok, Bool.not_false, if_pos rfl, if_pos rfl]
    have hr := ih (l ++ [(c : Int)]) k (by simp; omega) (by omega)
    rw [own_val l (by omega), Option.bind_some, if_pos (by simp only [List.length_singleton]; omega), hr, Option.bind_some, if_pos (by omega), Option.bind_some]
  ·rintro k' j s h0 h1 ⟨q1, rfl⟩
   refine ⟨epre n okD d l j.toNat, ?_, by rw [show j.toNat = n by omega]⟩
   show spec_l06Orders_l0 k (spec_l06Orders k) l n (k' + 1) j _ = _
   rw [spec_l06Orders_l0, if_neg (by simp only [decide_eq_true_eq]; omega)]

section
open Classical
def toI (l : List UInt8) : List Int := l.map fun u => (u.toNat : Int)
theorem toI_len (l : List UInt8) : (toI l).length = l.length := by unfold toI; rw [List.length_map]
theorem toI_get (l : List UInt8) (i : Nat) : (toI l).getD i 0 = ((l.getD i 0).toNat : Int) := by
 unfold toI List.getD
 rw [List.getElem?_map]
 cases l[i]? <;> rfl
theorem compareB_val {x y : List UInt8} (hl : x.length = y.length) (k : Nat) (hk : x.length + 1 ≤ k) (hx : x.length ≤ 1000) : ∃ c, slices_Compare___byte_byte k x y = some c ∧ (decide (c < 0) = decide (ltL (toI x) (toI y))) := by
 unfold slices_Compare___byte_byte
 have := loopI (f := fun k' i (_ : Unit) => slices_Compare___byte_byte_l0 x y k' i) (x.length : Int) 0 (fun i _ => i ≤ x.length ∧ ∀ j : Nat, (j : Int) < i → (toI x).getD j 0 = (toI y).getD j 0)
  (fun r => (r = .inl () ∧ ¬ ltL (toI x) (toI y)) ∨ ∃ c : Int, r = .inr c ∧ (c < 0 ↔ ltL (toI x) (toI y))) ?_ ?_ k 0 () (by omega) (by omega) ⟨by omega, fun j hj => by omega⟩
 ·obtain ⟨r, e, ⟨rfl, h⟩ | ⟨c, rfl, h⟩⟩ := this
  ·try dsimp only at e
   refine ⟨0, ?_, by rw [decide_eq_false h]; rfl⟩
   rw [e, Option.bind_some]
   show (if decide ((x.length : Int) < (y.length : Int)) = true then some (-1) else some 0) = _
   rw [if_neg (by simp only [decide_eq_true_eq]; omega)]
  ·try dsimp only at e
   exact ⟨c, by rw [e]; rfl, decide_eq_decide.2 h⟩
 ·rintro k' i ⟨⟩ h0 h1 ⟨q1, q2⟩
  obtain ⟨a, rfl⟩ := nat_of h0
  show (∃ s', slices_Compare___byte_byte_l0 x y (k' + 1) a = _ ∧ _) ∨ (∃ r, slices_Compare___byte_byte_l0 x y (k' + 1) a = _ ∧ _)
  rw [slices_Compare___byte_byte_l0, if_pos (decide_eq_true h1), if_pos ⟨h0, h1⟩, if_neg (by simp only [decide_eq_true_eq]; omega), if_pos ⟨h0, by omega⟩, Int.toNat_natCast, w64_succ h0 h1 (by omega)]
  unfold cmp_Compare_byte cmp_isNaN_byte
  simp only [decide_true, Bool.not_true, Bool.false_eq_true, if_false]
  rw [← toI_get, ← toI_get]
  by_cases e : (toI x).getD a 0 = (toI y).getD a 0
  ·left
   refine ⟨(), ?_, by omega, fun j hj => ?_⟩
   ·rw [e]
    simp
   ·by_cases hja : j = a
    ·rw [hja]; exact e
    ·exact q2 j (by omega)
  ·right
   have hst := ltL_stop (x := toI x) (y := toI y) (by rw [toI_len, toI_len, hl]) (show a < (toI x).length by rw [toI_len]; omega) (fun j hj => q2 j (by omega)) e
   by_cases c : (toI x).getD a 0 < (toI y).getD a 0
   ·refine ⟨.inr (-1), ?_, .inr ⟨-1, rfl, ⟨fun _ => hst.2 c, fun _ => by omega⟩⟩⟩
    rw [if_pos (decide_eq_true c)]; rfl
   ·refine ⟨.inr 1, ?_, .inr ⟨1, rfl, ⟨fun h => by omega, fun h => absurd (hst.1 h) c⟩⟩⟩
    have c2 : (toI y).getD a 0 < (toI x).getD a 0 := by omega
    rw [if_neg (show ¬ decide ((toI x).getD a 0 < (toI y).getD a 0) = true by rw [decide_eq_true_eq]; exact c), if_pos (decide_eq_true c2)]; rfl
 ·rintro k' i ⟨⟩ h0 h1 ⟨q1, q2⟩
  refine ⟨.inl (), ?_, .inl ⟨rfl, ?_⟩⟩
  ·show slices_Compare___byte_byte_l0 x y (k' + 1) i = _
   rw [slices_Compare___byte_byte_l0, if_neg (by simp only [decide_eq_true_eq]; omega)]
  ·rintro ⟨m, m1, m2, m3⟩
   rw [toI_len] at m1
   have := q2 m (by omega)
   omega
/-- The list of a colouring's colours. -/
def eI (x : Col) : List Int := toI x.e.l
theorem eI_len (x : Col) : (eI x).length = 136 := by unfold eI; rw [toI_len, x.e.h]
theorem eI_get (x : Col) (i : Nat) : (eI x).getD i 0 = ((x.get i).toNat : Int) := toI_get _ _
theorem less_val (x y : Col) (k : Nat) (hk : 200 ≤ k) : spec_l06Less k x y = some (decide (ltL (eI x) (eI y))) := by
 have hlx := eI_len x
 have hly := eI_len y
 unfold spec_l06Less
 have := loopI (f := fun k' i (_ : Unit) => spec_l06Less_l0 x y k' i) 136 0 (fun i _ => i ≤ 136 ∧ ∀ j : Nat, (j : Int) < i → (eI x).getD j 0 = (eI y).getD j 0)
  (fun r => (r = .inl () ∧ ¬ ltL (eI x) (eI y)) ∨ r = .inr (decide (ltL (eI x) (eI y)))) ?_ ?_ k 0 () (by omega) (by omega) ⟨by omega, fun j hj => by omega⟩
 ·obtain ⟨r, e, ⟨rfl, h⟩ | rfl⟩ := this
  ·try dsimp only at e
   rw [e, decide_eq_false h]; rfl
  ·try dsimp only at e
   rw [e]; rfl
 ·rintro k' i ⟨⟩ h0 h1 ⟨q1, q2⟩
  obtain ⟨a, rfl⟩ := nat_of h0
  show (∃ s', spec_l06Less_l0 x y (k' + 1) a = _ ∧ _) ∨ (∃ r, spec_l06Less_l0 x y (k' + 1) a = _ ∧ _)
  have hq : 0 ≤ (a : Int) ∧ (a : Int) < 136 := ⟨h0, h1⟩
  rw [spec_l06Less_l0, if_pos (decide_eq_true h1), if_pos hq, if_pos hq, if_pos hq, if_pos hq, Int.toNat_natCast, w64_succ h0 h1 (by omega), ← eI_get, ← eI_get]
  by_cases e : (eI x).getD a 0 = (eI y).getD a 0
  ·left
   refine ⟨(), ?_, by omega, fun j hj => ?_⟩
   ·rw [if_neg (by rw [e]; simp)]
   ·by_cases hja : j = a
    ·rw [hja]; exact e
    ·exact q2 j (by omega)
  ·right
   have hst := ltL_stop (x := eI x) (y := eI y) (by omega) (show a < (eI x).length by omega) (fun j hj => q2 j (by omega)) e
   refine ⟨.inr (decide (ltL (eI x) (eI y))), ?_, .inr rfl⟩
   rw [if_pos (by rw [decide_eq_false e]; rfl), decide_eq_decide.2 hst]
 ·rintro k' i ⟨⟩ h0 h1 ⟨q1, q2⟩
  refine ⟨.inl (), ?_, .inl ⟨rfl, ?_⟩⟩
  ·show spec_l06Less_l0 x y (k' + 1) i = _
   rw [spec_l06Less_l0, if_neg (by simp only [decide_eq_true_eq]; omega)]
  ·rintro ⟨m, m1, m2, m3⟩
   have := q2 m (by omega)
   omega

/-! ### The least of all renumbered colourings -/
noncomputable def lowC (x b : Col) (p : List Int) : Col := if ltL (eI (ren x p)) (eI b) then ren x p else b
noncomputable def leastC (x : Col) : Col := (ordL x.p.toNat).foldl (lowC x) x
theorem foldC_min (x : Col) : ∀ (L : List (List Int)) (b : Col),
  (L.foldl (lowC x) b = b ∨ ∃ p ∈ L, L.foldl (lowC x) b = ren x p) ∧ ¬ ltL (eI b) (eI (L.foldl (lowC x) b)) ∧ ∀ p ∈ L, ¬ ltL (eI (ren x p)) (eI (L.foldl (lowC x) b))
 | [], b => ⟨.inl rfl, ltL_irr _, fun p hp => by cases hp⟩
 | p :: L, b => by
  rw [List.foldl_cons]
  have hlen : ∀ y z : Col, (eI y).length = (eI z).length := fun y z => by rw [eI_len, eI_len]
  have hlo : (lowC x b p = b ∨ lowC x b p = ren x p) ∧ ¬ ltL (eI b) (eI (lowC x b p)) ∧ ¬ ltL (eI (ren x p)) (eI (lowC x b p)) := by
   unfold lowC
   by_cases h : ltL (eI (ren x p)) (eI b)
   ·rw [if_pos h]
    exact ⟨.inr rfl, fun h2 => ltL_irr _ (ltL_trans (hlen _ _) h2 h), ltL_irr _⟩
   ·rw [if_neg h]
    exact ⟨.inl rfl, ltL_irr _, h⟩
  obtain ⟨h2, h3, h4⟩ := hlo
  obtain ⟨g1, g2, g3⟩ := foldC_min x L (lowC x b p)
  refine ⟨?_, le_trans' (hlen _ _) (hlen _ _) g2 h3, fun q hq => ?_⟩
  ·rcases g1 with e | ⟨q, hq, e⟩
   ·rcases h2 with e2 | e2
    ·left; rw [e, e2]
    ·right; exact ⟨p, List.mem_cons_self .., by rw [e, e2]⟩
   ·right; exact ⟨q, List.mem_cons_of_mem _ hq, e⟩
  ·rcases List.mem_cons.1 hq with rfl | hq
   ·exact le_trans' (hlen _ _) (hlen _ _) g2 h4
   ·exact g3 q hq
theorem ren_id {x : Col} (hx : x.is) : ren x (idL x.p.toNat) = x := ((mem_RN hx).1 (aut_id hx)).2
theorem leastC_is {x : Col} (hx : x.is) : (∃ p, isOrd p x.p ∧ leastC x = ren x p) ∧ ∀ p, isOrd p x.p → ¬ ltL (eI (ren x p)) (eI (leastC x)) := by
 have hp := hx.1
 obtain ⟨h1, h2, h3⟩ := foldC_min x (ordL x.p.toNat) x
 refine ⟨?_, fun p hpo => h3 p (ordL_mem (ord_nat hp hpo))⟩
 rcases h1 with e | ⟨p, hpm, e⟩
 ·exact ⟨idL x.p.toNat, ((mem_RN hx).1 (aut_id hx)).1, by rw [ren_id hx]; exact e⟩
 ·exact ⟨p, to_ord hp (ordL_ok hpm), e⟩
theorem eI_inj {x y : Col} (h1 : x.p = y.p) (h2 : x.k = y.k) (h : eI x = eI y) : x = y := by
 have h3 : x.e = y.e := by
  refine B136.ext' (List.ext_getElem (by rw [x.e.h, y.e.h]) fun i a1 a2 => ?_)
  have := congrArg (fun l => l.getD i 0) h
  simp only [eI_get] at this
  have e1 : x.get i = x.e.l[i] := by show x.e.l.getD i 0 = _; simp [List.getD, a1]
  have e2 : y.get i = y.e.l[i] := by show y.e.l.getD i 0 = _; simp [List.getD, a2]
  rw [e1, e2] at this
  exact UInt8.toNat_inj.1 (by omega)
 cases x; cases y
 simp only at h1 h2 h3
 subst h1; subst h2; subst h3
 rfl
theorem leastC_pk {x : Col} (hx : x.is) : (leastC x).p = x.p ∧ (leastC x).k = x.k ∧ (leastC x).is := by
 obtain ⟨⟨p, h1, h2⟩, _⟩ := leastC_is hx
 rw [h2]
 exact ⟨ren_p x hx h1, ren_k x hx h1, ren_is hx h1⟩
theorem leastC_ren {x : Col} (hx : x.is) {q : List Int} (hq : isOrd q x.p) : leastC (ren x q) = leastC x := by
 have hp := hx.1
 have hr := ren_is hx hq
 have hrp := ren_p x hx hq
 have hrk := ren_k x hx hq
 obtain ⟨⟨p1, a1, a2⟩, a3⟩ := leastC_is hx
 obtain ⟨⟨p2, b1, b2⟩, b3⟩ := leastC_is hr
 obtain ⟨c1, c2, _⟩ := leastC_pk hx
 obtain ⟨d1, d2, _⟩ := leastC_pk hr
 rw [hrp] at b1
 obtain ⟨e1, e2⟩ := ren_cp hx hq b1
 have h1 := a3 _ e1
 rw [e2, ← b2] at h1
 have hb := ren_ren hx hq
 rw [hrp] at hb
 have hb' : isOrd (bkL q x.p.toNat) (ren x q).p := by rw [hrp]; exact hb.1
 have a1' : isOrd p1 (ren x q).p := by rw [hrp]; exact a1
 obtain ⟨f1, f2⟩ := ren_cp hr hb' a1'
 have h2 := b3 _ f1
 rw [f2, hb.2, ← a2] at h2
 rcases ltL_tot (x := eI (leastC (ren x q))) (y := eI (leastC x)) (by rw [eI_len, eI_len]) with e | e | e
 ·exact eI_inj (by rw [d1, c1, hrp]) (by rw [d2, c2, hrk]) e
 ·exact absurd e h1
 ·exact absurd e h2

/-! ### The functions -/
theorem leastC_loop {x : Col} (hx : x.is) (h6 : x.p ≤ 6) (f : Nat → Int → Col → Option Col) (k : Nat) (hk : 50000 ≤ k)
  (hf : ∀ k' i b, f (k' + 1) i b = (if decide (i < ((ordL x.p.toNat).length : Int)) then (if 0 ≤ i ∧ i < ((ordL x.p.toNat).length : Int) then f k' (w64 (i + 1)) (lowC x b ((ordL x.p.toNat).getD i.toNat [])) else none) else some b)) : f k 0 x = some (leastC x) := by
 have hb : (ordL x.p.toNat).length ≤ 46656 := Nat.le_trans (exts_count (K := x.p.toNat) (ok := okD) x.p.toNat []) (pow6 (by omega) (by omega))
 have hlast : leastC x = (ordL x.p.toNat).foldl (lowC x) x := rfl
 generalize ordL x.p.toNat = O at *
 have := loopI (f := f) (O.length : Int) 0 (fun i b => i ≤ O.length ∧ (O.drop i.toNat).foldl (lowC x) b = leastC x) (fun b => b = leastC x) ?_ ?_ k 0 x (by omega) (by omega) ⟨by omega, hlast.symm⟩
 ·obtain ⟨b, e, rfl⟩ := this
  exact e
 ·rintro k' i b h0 h1 ⟨q1, q3⟩
  obtain ⟨a, rfl⟩ := nat_of h0
  have ha : a < O.length := by omega
  have hg : O.getD a [] = O[a] := by simp [List.getD, List.getElem?_eq_getElem ha]
  left
  refine ⟨lowC x b O[a], ?_, by omega, ?_⟩
  ·rw [hf, if_pos (decide_eq_true h1), if_pos ⟨h0, h1⟩, Int.toNat_natCast, hg, w64_succ h0 h1 (by omega)]
  ·rw [show ((a : Int) + 1).toNat = a + 1 by omega, ← q3, Int.toNat_natCast, List.drop_eq_getElem_cons ha, List.foldl_cons]
 ·rintro k' i b h0 h1 ⟨q1, q3⟩
  refine ⟨b, ?_, ?_⟩
  ·rw [hf, if_neg (by simp only [decide_eq_true_eq]; omega)]
  ·rw [show i.toNat = O.length by omega, List.drop_length] at q3
   exact q3
theorem implLeast_val {k : Nat} (hk : 60000 ≤ k) {x : Col} (hx : x.is) (h6 : x.p ≤ 6) : impl_LeastForm k x = some (leastC x, 0) := by
 have hp := hx.1
 have ek : ((x.p.toNat : Nat) : Int) = x.p := by omega
 have ho := implOrders_val x.p.toNat (by omega) x.p.toNat [] k (by simp) (by omega)
 rw [ek] at ho
 have hO : impl_orders k x.p [] = some (ordL x.p.toNat) := ho
 unfold impl_LeastForm impl_always
 rw [((code_cases (by omega) x).1 hx).1, hO]
 have hl : impl_LeastForm_l0 k x (ordL x.p.toNat) k 0 x = some (leastC x) := by
  refine leastC_loop hx h6 (fun k' i b => impl_LeastForm_l0 k x (ordL x.p.toNat) k' i b) k (by omega) fun k' i b => ?_
  show impl_LeastForm_l0 k x (ordL x.p.toNat) (k' + 1) i b = _
  rw [impl_LeastForm_l0]
  by_cases h1 : i < ((ordL x.p.toNat).length : Int)
  ·rw [if_pos (decide_eq_true h1), if_pos (decide_eq_true h1)]
   by_cases h0 : 0 ≤ i
   ·rw [if_pos ⟨h0, h1⟩, if_pos ⟨h0, h1⟩]
    have hi : i.toNat < (ordL x.p.toNat).length := by omega
    have hg : (ordL x.p.toNat).getD i.toNat [] = (ordL x.p.toNat)[i.toNat] := by simp [List.getD, hi]
    have hop : isOrd ((ordL x.p.toNat).getD i.toNat []) x.p := by rw [hg]; exact to_ord hp (ordL_ok (List.getElem_mem hi))
    generalize (ordL x.p.toNat).getD i.toNat [] = p at hop
    obtain ⟨c, c1, c2⟩ := compareB_val (x := (ren x p).e.l) (y := b.e.l) (by rw [(ren x p).e.h, b.e.h]) k (by rw [(ren x p).e.h]; omega) (by rw [(ren x p).e.h]; omega)
    rw [implRen_eq x p hp hop k (by omega), Option.bind_some, c1, Option.bind_some, c2]
    unfold lowC
    by_cases h : ltL (eI (ren x p)) (eI b)
    ·rw [if_pos h, if_pos (show decide (ltL (toI (ren x p).e.l) (toI b.e.l)) = true from decide_eq_true h), Option.bind_some]
    ·rw [if_neg h, if_neg (show ¬ decide (ltL (toI (ren x p).e.l) (toI b.e.l)) = true from by rw [decide_eq_true_eq]; exact h), Option.bind_some]
   ·rw [if_neg (fun q => h0 q.1), if_neg (fun q => h0 q.1), Option.bind_none]
  ·rw [if_neg (by simpa using h1), if_neg (by simpa using h1)]
 simp only [Option.bind_some, letO, decide_true, if_true]
 rw [decide_eq_false (show ¬ 6 < x.p by omega)]
 simp only [Bool.false_eq_true, if_false, decide_true, Bool.not_true]
 rw [hl]; rfl
theorem specLeast_val {k : Nat} (hk : 60000 ≤ k) {x : Col} (hx : x.is) (h6 : x.p ≤ 6) : spec_LeastForm k x = some (leastC x, 0) := by
 have hp := hx.1
 have ek : ((x.p.toNat : Nat) : Int) = x.p := by omega
 have ho := specOrders_val x.p.toNat (by omega) x.p.toNat [] k (by simp) (by omega)
 rw [ek] at ho
 have hO : spec_l06Orders k [] x.p = some (ordL x.p.toNat) := ho
 unfold spec_LeastForm
 rw [specIs_eq k (by omega), decide_eq_true hx]
 simp only [Option.bind_some, Bool.not_true, Bool.false_eq_true, if_false]
 rw [if_neg (by simp only [decide_eq_true_eq]; omega), hO]
 have hl : spec_LeastForm_l0 k x (ordL x.p.toNat) k 0 x = some (leastC x) := by
  refine leastC_loop hx h6 (fun k' i b => spec_LeastForm_l0 k x (ordL x.p.toNat) k' i b) k (by omega) fun k' i b => ?_
  show spec_LeastForm_l0 k x (ordL x.p.toNat) (k' + 1) i b = _
  rw [spec_LeastForm_l0]
  by_cases h1 : i < ((ordL x.p.toNat).length : Int)
  ·rw [if_pos (decide_eq_true h1), if_pos (decide_eq_true h1)]
   by_cases h0 : 0 ≤ i
   ·rw [if_pos ⟨h0, h1⟩, if_pos ⟨h0, h1⟩]
    have hi : i.toNat < (ordL x.p.toNat).length := by omega
    have hg : (ordL x.p.toNat).getD i.toNat [] = (ordL x.p.toNat)[i.toNat] := by simp [List.getD, hi]
    have hop : isOrd ((ordL x.p.toNat).getD i.toNat []) x.p := by rw [hg]; exact to_ord hp (ordL_ok (List.getElem_mem hi))
    generalize (ordL x.p.toNat).getD i.toNat [] = p at hop
    rw [specRen_eq x p hp hop k (by omega), Option.bind_some, less_val _ _ k (by omega), Option.bind_some]
    unfold lowC
    by_cases h : ltL (eI (ren x p)) (eI b)
    ·rw [if_pos h, if_pos (decide_eq_true h), Option.bind_some]
    ·rw [if_neg h, if_neg (by simpa using h), Option.bind_some]
   ·rw [if_neg (fun q => h0 q.1), if_neg (fun q => h0 q.1), Option.bind_none]
  ·rw [if_neg (by simpa using h1), if_neg (by simpa using h1)]
 rw [Option.bind_some, hl]; rfl
def zC : Col := ⟨0, 0, B136.zero⟩
theorem least_bad {k : Nat} (hk : 60000 ≤ k) {x : Col} (h : ¬ (x.is ∧ x.p ≤ 6)) : ∃ e, e ≠ 0 ∧ impl_LeastForm k x = some (zC, e) ∧ spec_LeastForm k x = some (zC, e) := by
 unfold impl_LeastForm spec_LeastForm impl_always
 rw [specIs_eq k (by omega)]
 by_cases hx : x.is
 ·have h6 : 6 < x.p := Classical.byContradiction fun q => h ⟨hx, by omega⟩
  refine ⟨3, by decide, ?_, ?_⟩
  ·rw [((code_cases (by omega) x).1 hx).1]
   simp only [Option.bind_some, letO, decide_true, if_true]
   rw [decide_eq_true h6]
   rfl
  ·rw [decide_eq_true hx]
   simp only [Option.bind_some, Bool.not_true, Bool.false_eq_true, if_false]
   rw [if_pos (decide_eq_true h6)]; rfl
 ·refine ⟨1, by decide, ?_, ?_⟩
  ·rw [(code_cases (by omega) x).2 hx]
   rfl
  ·rw [decide_eq_false hx]
   rfl
end

/-! ### Cycles on edges -/
theorem O136.get_set (x : O136) (i j : Nat) (b : Bool) (h : i < 136) : (x.set i b).get j = if i = j then b else x.get j := by
 unfold O136.get O136.set List.getD
 rw [List.getElem?_set]
 have := x.h
 by_cases e : i = j
 ·subst e
  rw [if_pos rfl, if_pos rfl, if_pos (by omega)]; rfl
 ·rw [if_neg e, if_neg e]
/-- The edges that both sides have met. -/
structure EM (n : Nat) (A : O136) (B : List Bool) : Prop where
 len : B.length = n * n
 eq : ∀ u v, u < v → v < n → A.get (eN u v) = B.getD (u * n + v) false
theorem idx_lt {n u v : Nat} (hu : u < n) (hv : v < n) : u * n + v < n * n := by
 have h1 : (u + 1) * n ≤ n * n := Nat.mul_le_mul_right n hu
 rw [Nat.add_mul, Nat.one_mul] at h1
 omega
theorem idx_inj {n u v a b : Nat} (hv : v < n) (hb : b < n) (h : u * n + v = a * n + b) : u = a ∧ v = b := by
 have hn : 0 < n := by omega
 have e1 : (u * n + v) / n = u := by rw [Nat.mul_comm, Nat.mul_add_div hn, Nat.div_eq_of_lt hv, Nat.add_zero]
 have e2 : (a * n + b) / n = a := by rw [Nat.mul_comm, Nat.mul_add_div hn, Nat.div_eq_of_lt hb, Nat.add_zero]
 have : u = a := by rw [← e1, ← e2, h]
 subst this
 exact ⟨rfl, by omega⟩
theorem EM.set {n : Nat} (hn : n ≤ 17) {A : O136} {B : List Bool} (h : EM n A B) {a b : Nat} (hab : a < b) (hb : b < n) : EM n (A.set (eN a b) true) (B.set (a * n + b) true) := by
 have hi := idx_lt (show a < n by omega) hb
 have hl := h.len
 refine ⟨by rw [List.length_set]; exact hl, fun u v huv hv => ?_⟩
 rw [O136.get_set _ _ _ _ (eN_136 (by omega) (by omega) (by omega)), getD_setB _ _ _ (by omega)]
 by_cases e : eN a b = eN u v
 ·obtain ⟨rfl, rfl⟩ := eN_inj hab (by omega) huv (by omega) e
  rw [if_pos rfl, if_pos rfl]
 ·rw [if_neg e, if_neg (fun q => e (by obtain ⟨rfl, rfl⟩ := idx_inj hb hv q; rfl))]
  exact h.eq u v huv hv
def unmet (B : List Bool) : Nat := B.countP fun b => !b
theorem unmet_set : ∀ (B : List Bool) (i : Nat), i < B.length → B.getD i false = false → unmet (B.set i true) + 1 = unmet B
 | [], i, h, _ => by simp at h
 | b :: t, 0, _, hb => by
  have : b = false := hb
  subst this
  unfold unmet
  rw [List.set_cons_zero, List.countP_cons, List.countP_cons]
  simp
 | b :: t, i + 1, h, hb => by
  have ih := unmet_set t i (by simpa using h) (by simpa [List.getD] using hb)
  unfold unmet at ih ⊢
  rw [List.set_cons_succ, List.countP_cons, List.countP_cons]
  omega
theorem unmet_le (B : List Bool) : unmet B ≤ B.length := List.countP_le_length
theorem w64_idx {n u v : Nat} (hn : n ≤ 17) (hu : u < n) (hv : v < n) : w64 ((w64 ((u : Int) * (n : Int))) + (v : Int)) = ((u * n + v : Nat) : Int) := by
 have h1 := idx_lt hu hv
 have h2 : n * n ≤ 17 * 17 := Nat.mul_le_mul hn hn
 have e1 : (u : Int) * (n : Int) = ((u * n : Nat) : Int) := by rw [Int.natCast_mul]
 rw [e1, w64_id (n := ((u * n : Nat) : Int)) (by omega), ← Int.natCast_add, w64_id (by omega)]
def mn (i j : Nat) : Nat := if i < j then i else j
def mx (i j : Nat) : Nat := if i < j then j else i
theorem cyc_l2 {n : Nat} (hn : n ≤ 17) {p : List Int} (ho : isOrd p n) (x6 : Int) (h6 : 0 ≤ x6 ∧ x6 ≤ 1000) : ∀ (k i j : Nat) (A : O136) (B : List Bool), i < n → j < n → i ≠ j → EM n A B → unmet B < k →
  ∃ A' B', impl_edgeCycles_l2 p x6 k i j A = some (x6 + 1, A') ∧ spec_l06Edges_l2 p x6 k (mn i j) (mx i j) B = some (x6 + 1, B') ∧ EM n A' B'
 | 0, _, _, _, _, _, _, _, _, h => by omega
 | k + 1, i, j, A, B, hi, hj, hij, hE, hu => by
  have hpl := ho.1
  have hplen : p.length = n := by omega
  obtain ⟨a, ha⟩ : ∃ a, a = mn i j := ⟨_, rfl⟩
  obtain ⟨b, hb⟩ : ∃ b, b = mx i j := ⟨_, rfl⟩
  have hab : a < b := by rw [ha, hb]; unfold mn mx; split <;> omega
  have hbn : b < n := by rw [hb]; unfold mx; split <;> omega
  have hen : eN i j = eN a b := by
   rw [ha, hb]
   unfold mn mx
   split
   ·rfl
   ·exact eN_comm i j
  rw [← ha, ← hb]
  have hlt := idx_lt (show a < n by omega) hbn
  have hl := hE.len
  have he136 : eN a b < 136 := eN_136 (by omega) (by omega) (by omega)
  have hnum : impl_number (i : Int) (j : Int) = (eN a b : Int) := by
   have := number_eq i j ⟨by omega, by omega⟩ ⟨by omega, by omega⟩
   rw [Int.toNat_natCast, Int.toNat_natCast, hen] at this
   exact this
  have hidx := w64_idx hn (show a < n by omega) hbn
  have hget := hE.eq a b hab hbn
  have hc1 : 0 ≤ ((eN a b : Nat) : Int) ∧ ((eN a b : Nat) : Int) < 136 := ⟨by omega, by omega⟩
  have hc2 : 0 ≤ ((a * n + b : Nat) : Int) ∧ ((a * n + b : Nat) : Int) < (B.length : Int) := ⟨by omega, by omega⟩
  have hc3 : ∀ v : Nat, v < n → 0 ≤ (v : Int) ∧ (v : Int) < (n : Int) := fun v hv => ⟨by omega, by omega⟩
  rw [impl_edgeCycles_l2, spec_l06Edges_l2, hnum, hplen, hidx, if_pos hc1, if_pos hc1, if_pos hc2, if_pos hc2]
  simp only [Int.toNat_natCast]
  rw [hget]
  cases hB : B.getD (a * n + b) false with
  | true => exact ⟨A, B, by rw [w64_id (by omega)]; rfl, by rw [w64_id (by omega)]; rfl, hE⟩
  | false =>
   obtain ⟨pi, e1, hpi⟩ := ord_at ho hi
   obtain ⟨pj, e2, hpj⟩ := ord_at ho hj
   have hpij : pi ≠ pj := fun e => hij (ord_ne ho hi hj (by rw [e1, e2, e]))
   have hus := unmet_set B (a * n + b) (by omega) hB
   obtain ⟨A', B', r1, r2, r3⟩ := cyc_l2 hn ho x6 h6 k pi pj (A.set (eN a b) true) (B.set (a * n + b) true) hpi hpj hpij (hE.set hn hab hbn) (by omega)
   refine ⟨A', B', ?_, ?_, r3⟩
   ·rw [Bool.not_false, if_pos rfl, if_pos (hc3 i hi), if_pos (hc3 j hj), e1, e2]
    exact r1
   ·rw [Bool.not_false, if_pos rfl, if_pos (hc3 a (by omega)), if_pos (hc3 b hbn)]
    have hgab : (p.getD a 0 = (pi : Int) ∧ p.getD b 0 = (pj : Int)) ∨ (p.getD a 0 = (pj : Int) ∧ p.getD b 0 = (pi : Int)) := by
     rw [ha, hb]
     unfold mn mx
     split
     ·exact .inl ⟨e1, e2⟩
     ·exact .inr ⟨e2, e1⟩
    have h3 : (if p.getD b 0 < p.getD a 0 then p.getD b 0 else p.getD a 0) = ((mn pi pj : Nat) : Int) := by
     unfold mn
     rcases hgab with ⟨g1, g2⟩ | ⟨g1, g2⟩ <;> rw [g1, g2] <;> split <;> split <;> omega
    have h4 : (if p.getD a 0 < p.getD b 0 then p.getD b 0 else p.getD a 0) = ((mx pi pj : Nat) : Int) := by
     unfold mx
     rcases hgab with ⟨g1, g2⟩ | ⟨g1, g2⟩ <;> rw [g1, g2] <;> split <;> split <;> omega
    rw [h3, h4]
    exact r2
/-- Two loops that run together. -/
def both {α β : Type} (x : Option α) (y : Option β) : Option (α × β) := x.bind fun a => y.bind fun b => some (a, b)
theorem both_some {α β : Type} {x : Option α} {y : Option β} {r : α × β} (h : both x y = some r) : x = some r.1 ∧ y = some r.2 := by
 unfold both at h
 cases x with
 | none => cases h
 | some a =>
  cases y with
  | none => cases h
  | some b => cases h; exact ⟨rfl, rfl⟩
theorem tri_succ {n : Nat} (h : n ≤ 16) : tri (n + 1) = tri n + n := by
 have : ∀ n, n ≤ 16 → tri (n + 1) = tri n + n := by decide +kernel
 exact this n h
theorem cyc_l1 {n : Nat} (hn : n ≤ 16) {p : List Int} (ho : isOrd p n) {K : Nat} (hK : 1000 ≤ K) {j : Nat} (hj : j < n) {c : Int} (hc : 0 ≤ c ∧ c ≤ tri j) {A : O136} {B : List Bool} (hE : EM n A B) :
  ∃ c' A' B', impl_edgeCycles_l1 K p j K c 0 A = some (c', A') ∧ spec_l06Edges_l1 K p j K c 0 B = some (c', B') ∧ EM n A' B' ∧ 0 ≤ c' ∧ c' ≤ tri (j + 1) := by
 have hpl := ho.1
 have hplen : p.length = n := by omega
 have htj := tri_le (n := j) (by omega)
 have := loopI (f := fun k i (s : Int × O136 × List Bool) => both (impl_edgeCycles_l1 K p j k s.1 i s.2.1) (spec_l06Edges_l1 K p j k s.1 i s.2.2)) (j : Int) 0 (fun i s => i ≤ j ∧ 0 ≤ s.1 ∧ s.1 ≤ tri j + i ∧ EM n s.2.1 s.2.2)
  (fun r => r.1.1 = r.2.1 ∧ 0 ≤ r.1.1 ∧ r.1.1 ≤ tri (j + 1) ∧ EM n r.1.2 r.2.2) ?_ ?_ K 0 (c, A, B) (by omega) (by omega) ⟨by omega, hc.1, by omega, hE⟩
 ·obtain ⟨⟨⟨c1, A1⟩, c2, B1⟩, e, h1, h2, h3, h4⟩ := this
  obtain ⟨e1, e2⟩ := both_some e
  simp only at h1 h2 h3 h4 e1 e2
  subst h1
  exact ⟨c1, A1, B1, e1, e2, h4, h2, h3⟩
 ·rintro k i ⟨c, A, B⟩ h0 h1 ⟨q1, q2, q3, q4⟩
  simp only at q2 q3 q4
  obtain ⟨a, rfl⟩ := nat_of h0
  have haj : a < j := by omega
  have hw := w64_succ h0 h1 (by omega)
  have hlt := idx_lt (show a < n by omega) hj
  have hl := q4.len
  have he136 : eN a j < 136 := eN_136 (by omega) (by omega) (by omega)
  have hnum : impl_number (a : Int) (j : Int) = (eN a j : Int) := by
   have := number_eq a j ⟨by omega, by omega⟩ ⟨by omega, by omega⟩
   rw [Int.toNat_natCast, Int.toNat_natCast] at this
   exact this
  have hidx := w64_idx (by omega) (show a < n by omega) hj
  have hget := q4.eq a j haj hj
  have hc1 : 0 ≤ ((eN a j : Nat) : Int) ∧ ((eN a j : Nat) : Int) < 136 := ⟨by omega, by omega⟩
  have hc2 : 0 ≤ ((a * n + j : Nat) : Int) ∧ ((a * n + j : Nat) : Int) < (B.length : Int) := ⟨by omega, by omega⟩
  left
  show ∃ s', both (impl_edgeCycles_l1 K p j (k + 1) c a A) (spec_l06Edges_l1 K p j (k + 1) c a B) = _ ∧ _
  rw [impl_edgeCycles_l1, spec_l06Edges_l1, if_pos (decide_eq_true h1), if_pos (decide_eq_true h1), hnum, hplen, hidx, if_pos hc1, if_pos hc2, hw]
  simp only [Int.toNat_natCast]
  rcases Bool.eq_false_or_eq_true (B.getD (a * n + j) false) with hB | hB
  ·exact ⟨(c, A, B), by rw [if_pos (hget.trans hB), if_pos hB]; rfl, by omega, q2, by simp only; omega, q4⟩
  ·have hub := unmet_le B
   have hnn : n * n ≤ 16 * 16 := Nat.mul_le_mul hn hn
   obtain ⟨A', B', r1, r2, r3⟩ := cyc_l2 (by omega) ho c ⟨q2, by omega⟩ K a j A B (by omega) hj (by omega) q4 (by omega)
   have e1 : mn a j = a := by unfold mn; rw [if_pos haj]
   have e2 : mx a j = j := by unfold mx; rw [if_pos haj]
   rw [e1, e2] at r2
   refine ⟨(c + 1, A', B'), ?_, by omega, by simp only; omega, by simp only; omega, r3⟩
   rw [if_neg (show ¬ A.get (eN a j) = true by rw [hget, hB]; simp), if_neg (show ¬ B.getD (a * n + j) false = true by rw [hB]; simp), r1, r2]
   rfl
 ·rintro k i ⟨c, A, B⟩ h0 h1 ⟨q1, q2, q3, q4⟩
  simp only at q2 q3 q4
  refine ⟨((c, A), (c, B)), ?_, rfl, q2, ?_, q4⟩
  ·show both (impl_edgeCycles_l1 K p j (k + 1) c i A) (spec_l06Edges_l1 K p j (k + 1) c i B) = _
   rw [impl_edgeCycles_l1, spec_l06Edges_l1, if_neg (by simp only [decide_eq_true_eq]; omega), if_neg (by simp only [decide_eq_true_eq]; omega)]
   rfl
  ·simp only
   rw [tri_succ (by omega)]
   omega
theorem cyc_val {n : Nat} (h1 : 1 ≤ n) (hn : n ≤ 7) {p : List Int} (ho : isOrd p n) {K : Nat} (hK : 1000 ≤ K) : ∃ c : Nat, c ≤ 21 ∧ impl_edgeCycles K p = some (c : Int) ∧ spec_l06Edges K p = some (c : Int) := by
 have hpl := ho.1
 have hplen : p.length = n := by omega
 have hnn : n * n ≤ 7 * 7 := Nat.mul_le_mul hn hn
 have hsq : w64 ((n : Int) * (n : Int)) = ((n * n : Nat) : Int) := by rw [← Int.natCast_mul, w64_id (by omega)]
 have hE0 : EM n O136.zero (List.replicate (n * n) false) := ⟨by simp, fun u v huv hv => by
  have := idx_lt (show u < n by omega) hv
  have e := eN_136 (i := u) (j := v) (by omega) (by omega) (by omega)
  show (List.replicate 136 false).getD (eN u v) false = _
  unfold List.getD
  rw [List.getElem?_replicate, List.getElem?_replicate, if_pos e, if_pos this]⟩
 have ht7 : tri n ≤ 21 := by
  have : ∀ n, n ≤ 7 → tri n ≤ 21 := by decide +kernel
  exact this n hn
 have := loopI (f := fun k i (s : Int × O136 × List Bool) => both (impl_edgeCycles_l0 K p k s.1 i s.2.1) (spec_l06Edges_l0 K p (k + 1) s.1 i s.2.2)) (n : Int) 1 (fun i s => i ≤ n ∧ 0 ≤ s.1 ∧ s.1 ≤ tri i.toNat ∧ EM n s.2.1 s.2.2)
  (fun r => r.1 = r.2 ∧ 0 ≤ r.1 ∧ r.1 ≤ tri n) ?_ ?_ (K - 1) 1 (0, O136.zero, List.replicate (n * n) false) (by omega) (by omega) ⟨by omega, by simp, by simp [tri], hE0⟩
 ·obtain ⟨⟨c1, c2⟩, e, g1, g2, g3⟩ := this
  obtain ⟨e1, e2⟩ := both_some e
  simp only at g1 g2 g3 e1 e2
  subst g1
  refine ⟨c1.toNat, by omega, ?_, ?_⟩
  ·unfold impl_edgeCycles
   obtain ⟨K', rfl⟩ : ∃ q, K = q + 1 := ⟨K - 1, by omega⟩
   have hz : impl_edgeCycles_l1 (K' + 1) p 0 (K' + 1) 0 0 O136.zero = some (0, O136.zero) := by
    rw [impl_edgeCycles_l1, if_neg (by simp)]
   rw [impl_edgeCycles_l0]
   unfold impl_size
   rw [hplen, if_pos (decide_eq_true (by omega)), hz]
   simp only [Option.bind_some]
   rw [show w64 ((0 : Int) + 1) = 1 from rfl]
   rw [Nat.add_sub_cancel] at e1
   rw [e1, Option.bind_some, Int.toNat_of_nonneg g2]
  ·unfold spec_l06Edges
   rw [hplen, hsq, if_pos ⟨by omega, by omega, by omega⟩, Int.toNat_natCast]
   rw [show K - 1 + 1 = K by omega] at e2
   rw [e2, Option.bind_some, Int.toNat_of_nonneg g2]
 ·rintro k i ⟨c, A, B⟩ h0 h1 ⟨q1, q2, q3, q4⟩
  simp only at q2 q3 q4
  obtain ⟨j, rfl⟩ : ∃ j : Nat, i = j := ⟨i.toNat, by omega⟩
  rw [Int.toNat_natCast] at q3
  have hj : j < n := by omega
  have hw : w64 ((j : Int) + 1) = (j : Int) + 1 := w64_id (by omega)
  obtain ⟨c', A', B', r1, r2, r3, r4, r5⟩ := cyc_l1 (by omega) ho hK hj ⟨q2, q3⟩ q4
  left
  refine ⟨(c', A', B'), ?_, by omega, r4, by rw [show ((j : Int) + 1).toNat = j + 1 by omega]; exact r5, r3⟩
  show both (impl_edgeCycles_l0 K p (k + 1) c j A) (spec_l06Edges_l0 K p (k + 1 + 1) c j B) = _
  rw [impl_edgeCycles_l0, spec_l06Edges_l0]
  unfold impl_size
  rw [hplen, if_pos (decide_eq_true h1), if_pos (decide_eq_true h1), r1, r2, hw]
  rfl
 ·rintro k i ⟨c, A, B⟩ h0 h1 ⟨q1, q2, q3, q4⟩
  simp only at q2 q3 q4
  refine ⟨(c, c), ?_, rfl, q2, by rw [show i.toNat = n by omega] at q3; exact q3⟩
  show both (impl_edgeCycles_l0 K p (k + 1) c i A) (spec_l06Edges_l0 K p (k + 1 + 1) c i B) = _
  rw [impl_edgeCycles_l0, spec_l06Edges_l0]
  unfold impl_size
  rw [hplen, if_neg (by simp only [decide_eq_true_eq]; omega), if_neg (by simp only [decide_eq_true_eq]; omega)]
  rfl

theorem powB {q i : Nat} (h1 : 1 ≤ q) (h4 : q ≤ 4) (hi : i ≤ 21) : 1 ≤ q ^ i ∧ q ^ i ≤ 4398046511104 := by
 have h2 : q ^ i ≤ 4 ^ i := Nat.pow_le_pow_left h4 i
 have h3 : 4 ^ i ≤ 4 ^ 21 := Nat.pow_le_pow_right (by omega) hi
 have h5 : 4 ^ 21 = 4398046511104 := by decide
 exact ⟨Nat.one_le_pow _ _ h1, by omega⟩
theorem ipow_val {q c : Nat} (h1 : 1 ≤ q) (h4 : q ≤ 4) (hc : c ≤ 21) (k : Nat) (hk : 100 ≤ k) : impl_CountClasses_l1 q c k 1 0 = some ((q ^ c : Nat) : Int) := by
 have := loopI (f := fun k i (s : Int) => impl_CountClasses_l1 q c k s i) (c : Int) 0 (fun i s => i ≤ c ∧ s = ((q ^ i.toNat : Nat) : Int)) (fun r => r = ((q ^ c : Nat) : Int)) ?_ ?_ k 0 1 (by omega) (by omega) ⟨by omega, rfl⟩
 ·obtain ⟨r, e, rfl⟩ := this
  exact e
 ·rintro k' i s h0 h1' ⟨q1, rfl⟩
  obtain ⟨a, rfl⟩ := nat_of h0
  have hb := powB h1 h4 (i := a + 1) (by omega)
  have hp : q ^ (a + 1) = q ^ a * q := Nat.pow_succ ..
  left
  refine ⟨((q ^ (a + 1) : Nat) : Int), ?_, by omega, by rw [show ((a : Int) + 1).toNat = a + 1 by omega]⟩
  show impl_CountClasses_l1 q c (k' + 1) _ a = _
  rw [impl_CountClasses_l1, if_pos (decide_eq_true h1'), Int.toNat_natCast, w64_succ h0 h1' (by omega), ← Int.natCast_mul, ← hp, w64_id (by omega)]
 ·rintro k' i s h0 h1' ⟨q1, rfl⟩
  refine ⟨_, ?_, by rw [show c = i.toNat by omega]⟩
  show impl_CountClasses_l1 q c (k' + 1) _ i = _
  rw [impl_CountClasses_l1, if_neg (by simp only [decide_eq_true_eq]; omega)]
theorem spow_val {q : Nat} (h1 : 1 ≤ q) (h4 : q ≤ 4) : ∀ (e a k : Nat), a + e ≤ 21 → e < k → spec_CountClasses_l1 q k ((q ^ a : Nat) : Int) e = some ((q ^ (a + e) : Nat) : Int)
 | 0, a, k, h, hk => by
  obtain ⟨k, rfl⟩ : ∃ z, k = z + 1 := ⟨k - 1, by omega⟩
  rw [spec_CountClasses_l1, if_neg (by simp)]; rfl
 | e + 1, a, k, h, hk => by
  obtain ⟨k, rfl⟩ : ∃ z, k = z + 1 := ⟨k - 1, by omega⟩
  have hb := powB h1 h4 (i := a + 1) (by omega)
  have hp : q ^ (a + 1) = q ^ a * q := Nat.pow_succ ..
  have hw : w64 (((e + 1 : Nat) : Int) - 1) = (e : Int) := by rw [w64_id (by omega)]; omega
  rw [spec_CountClasses_l1, if_pos (decide_eq_true (by omega)), ← Int.natCast_mul, ← hp, w64_id (by omega), hw, spow_val h1 h4 e (a + 1) k (by omega) (by omega), show a + 1 + e = a + (e + 1) by omega]
theorem classes_sum {n q : Nat} (h1 : 1 ≤ n) (hn : n ≤ 7) (hq1 : 1 ≤ q) (hq4 : q ≤ 4) {K : Nat} (hK : 1000000 ≤ K) :
  ∃ S : Nat, impl_CountClasses_l0 K q (ordL n) K 0 0 = some (S : Int) ∧ spec_CountClasses_l0 K q (ordL n) K 0 0 = some (S : Int) ∧ (ordL n).length ≤ S ∧ S ≤ (ordL n).length * 4398046511104 ∧ 1 ≤ (ordL n).length ∧ (ordL n).length ≤ 823543 := by
 have hlb : (ordL n).length ≤ 823543 := Nat.le_trans (exts_count (K := n) (ok := okD) n []) (pow7 (by omega) (by omega))
 have hl1 : 1 ≤ (ordL n).length := List.length_pos_of_mem (ordL_id n)
 have ho : ∀ p ∈ ordL n, isOrd p n := fun p hp => ordL_ok hp
 generalize ordL n = L at *
 have := loopI (f := fun k i (s : Int) => both (impl_CountClasses_l0 K q L k s i) (spec_CountClasses_l0 K q L k s i)) (L.length : Int) 0 (fun i s => i ≤ L.length ∧ i ≤ s ∧ s ≤ i * 4398046511104)
  (fun r => r.1 = r.2 ∧ (L.length : Int) ≤ r.1 ∧ r.1 ≤ L.length * 4398046511104) ?_ ?_ K 0 0 (by omega) (by omega) ⟨by omega, by omega, by omega⟩
 ·obtain ⟨⟨a, b⟩, e, g1, g2, g3⟩ := this
  obtain ⟨e1, e2⟩ := both_some e
  simp only at g1 g2 g3 e1 e2
  subst g1
  refine ⟨a.toNat, ?_, ?_, by omega, by omega, hl1, hlb⟩
  ·rw [e1, Int.toNat_of_nonneg (by omega)]
  ·rw [e2, Int.toNat_of_nonneg (by omega)]
 ·rintro k i s h0 h1' ⟨q1, q2, q3⟩
  obtain ⟨a, rfl⟩ := nat_of h0
  have ha : a < L.length := by omega
  have hg : L.getD a [] = L[a] := by simp [List.getD, List.getElem?_eq_getElem ha]
  obtain ⟨c, c1, c2, c3⟩ := cyc_val h1 hn (ho L[a] (List.getElem_mem ha)) (K := K) (by omega)
  have hb := powB hq1 hq4 c1
  have hw := w64_succ h0 h1' (by omega)
  have hs : w64 (s + ((q ^ c : Nat) : Int)) = s + ((q ^ c : Nat) : Int) := w64_id (by omega)
  have hsp : spec_CountClasses_l1 q K 1 c = some ((q ^ c : Nat) : Int) := by
   have := spow_val hq1 hq4 c 0 K (by omega) (by omega)
   rwa [Nat.zero_add] at this
  left
  refine ⟨s + ((q ^ c : Nat) : Int), ?_, by omega, by omega, by omega⟩
  show both (impl_CountClasses_l0 K q L (k + 1) s a) (spec_CountClasses_l0 K q L (k + 1) s a) = _
  rw [impl_CountClasses_l0, spec_CountClasses_l0, if_pos (decide_eq_true h1'), if_pos (decide_eq_true h1'), if_pos ⟨h0, h1'⟩, if_pos ⟨h0, h1'⟩, Int.toNat_natCast, hg, c2, c3, Option.bind_some, Option.bind_some, ipow_val hq1 hq4 c1 K (by omega), hsp, hw]
  simp only [Option.bind_some]
  rw [hs]
 ·rintro k i s h0 h1' ⟨q1, q2, q3⟩
  refine ⟨(s, s), ?_, rfl, by simp only; omega, by simp only; omega⟩
  show both (impl_CountClasses_l0 K q L (k + 1) s i) (spec_CountClasses_l0 K q L (k + 1) s i) = _
  rw [impl_CountClasses_l0, spec_CountClasses_l0, if_neg (by simp only [decide_eq_true_eq]; omega), if_neg (by simp only [decide_eq_true_eq]; omega)]
  rfl
theorem classes_val {n q : Nat} (h1 : 1 ≤ n) (hn : n ≤ 7) (hq1 : 1 ≤ q) (hq4 : q ≤ 4) {K : Nat} (hK : 1000000 ≤ K) :
  ∃ v : Int, 1 ≤ v ∧ impl_CountClasses K n q = some (v, 0) ∧ spec_CountClasses K n q = some (v, 0) := by
 obtain ⟨S, e1, e2, g1, g2, g3, g4⟩ := classes_sum h1 hn hq1 hq4 hK
 have ho1 : impl_orders K n [] = some (ordL n) := implOrders7_val n hn n [] K (by simp) (by omega)
 have ho2 : spec_l06Orders K [] n = some (ordL n) := specOrders7_val n hn n [] K (by simp) (by omega)
 have hin : impl_in (n : Int) 1 7 = true ∧ impl_in (q : Int) 1 4 = true ∧ spec_l01In (n : Int) 1 7 = true ∧ spec_l01In (q : Int) 1 4 = true := by
  rw [in_eq, in_eq, specIn_eq, specIn_eq]
  simp only [decide_eq_true_eq]
  omega
 generalize ordL n = L at *
 have hq : ((S : Int).tdiv (L.length : Int)) = ((S / L.length : Nat) : Int) := by rw [Int.tdiv_eq_ediv_of_nonneg (by omega)]; rfl
 have h5 : 1 ≤ S / L.length := (Nat.le_div_iff_mul_le (by omega)).2 (by omega)
 have h6 : S / L.length ≤ 4398046511104 := Nat.div_le_of_le_mul g2
 refine ⟨((S / L.length : Nat) : Int), by omega, ?_, ?_⟩
 ·unfold impl_CountClasses letO impl_size_R
  rw [hin.1, hin.2.1]
  simp only [Bool.not_true, Bool.false_eq_true, if_false, Option.bind_some]
  rw [ho1, Option.bind_some, e1, Option.bind_some, if_pos (by omega), hq, w64_id (by omega)]
 ·unfold spec_CountClasses letO
  rw [hin.2.2.1, hin.2.2.2]
  simp only [Bool.not_true, Bool.false_eq_true, if_false, Option.bind_some]
  rw [ho2, Option.bind_some, e2, Option.bind_some, if_pos (by omega), hq, w64_id (by omega)]
theorem classes_bad {n q : Int} (h : ¬ ((1 ≤ n ∧ n ≤ 7) ∧ 1 ≤ q ∧ q ≤ 4)) (K : Nat) : impl_CountClasses K n q = some (0, 2) ∧ spec_CountClasses K n q = some (0, 2) := by
 unfold impl_CountClasses spec_CountClasses letO
 rw [in_eq, in_eq, specIn_eq, specIn_eq]
 by_cases h1 : 1 ≤ n ∧ n ≤ 7
 ·have h2 : ¬ (1 ≤ q ∧ q ≤ 4) := fun h2 => h ⟨h1, h2⟩
  rw [decide_eq_true h1, decide_eq_false h2]
  exact ⟨rfl, rfl⟩
 ·rw [decide_eq_false h1]
  exact ⟨rfl, rfl⟩
theorem classes_one : ∀ q : Fin 4, impl_CountClasses 1000000 1 ((q.val : Int) + 1) = some (1, 0) ∧ impl_CountClasses 1000000 2 ((q.val : Int) + 1) = some ((q.val : Int) + 1, 0) := by decide +kernel
end Go.Proofs.YtldgmcghdohmeaaGreat
