/- Plain laws of FnPartColourings, part two: faults and triangles, lists turned round, classes. No conditions beyond those that each lemma states. -/
import Derived.Test.YtfoijbdnkkaceaaPureSum19
set_option linter.unusedVariables false
set_option linter.unusedSimpArgs false
namespace Go.Proofs.Ytfoijbdnkkaceaa
open Go Go.RowKit Ab

/-! ### Faults -/
def Flt (l : List Int) (y z : Nat) : Prop := z - y ≤ y ∧ l.getD (z - y - 1) 0 = l.getD (z - 1) 0 ∧ l.getD (y - 1) 0 = l.getD (z - 1) 0

theorem faultsAt_val (l : List Int) (hl : l.length ≤ 40) (z : Nat) (hz : 1 ≤ z ∧ z ≤ l.length) : ∀ (d y k : Nat) (acc : List (List Int)), z - y = d → d < k → 1 ≤ y → y ≤ z → acc.length ≤ 100000 - d →
    ∃ r, impl_faultsAt_on_faults_c1_l0 l 0 z z k y acc = some r ∧ acc.length ≤ r.length ∧ r.length ≤ acc.length + d ∧ (r.length = acc.length ↔ ∀ y' : Nat, y ≤ y' → y' < z → ¬ Flt l y' z) := by
  intro d
  induction d with
  | zero =>
    intro y k acc hd hk h1 h2 ha
    obtain ⟨k, rfl⟩ : ∃ q, k = q + 1 := ⟨k - 1, by omega⟩
    have : ¬ (y : Int) < (z : Int) := by omega
    exact ⟨acc, by rw [impl_faultsAt_on_faults_c1_l0, decide_eq_false this]; simp, Nat.le_refl _, by omega, by constructor <;> intro _ <;> first | rfl | (intro y' h1 h2; omega)⟩
  | succ d ih =>
    intro y k acc hd hk h1 h2 ha
    obtain ⟨k, rfl⟩ : ∃ q, k = q + 1 := ⟨k - 1, by omega⟩
    have hlt : (y : Int) < (z : Int) := by omega
    have e0 : w64 ((z : Int) - y) = (z : Int) - y := w64_id (by omega)
    have n1 : ¬ (z : Int) - y < 1 := by omega
    have i2 : (0 : Int) ≤ (z : Int) - 1 ∧ (z : Int) - 1 < (l.length : Int) := by omega
    have i3 : (0 : Int) ≤ (y : Int) - 1 ∧ (y : Int) - 1 < (l.length : Int) := by omega
    have t2 : ((z : Int) - 1).toNat = z - 1 := by omega
    have t3 : ((y : Int) - 1).toNat = y - 1 := by omega
    have i1 : (0 : Int) ≤ (z : Int) - y - 1 ∧ (z : Int) - y - 1 < (l.length : Int) := by omega
    have t1 : ((z : Int) - y - 1).toNat = z - y - 1 := by omega
    rw [impl_faultsAt_on_faults_c1_l0, decide_eq_true hlt, w64_id (n := (z : Int) - 1) (by omega), w64_id (n := (y : Int) - 1) (by omega), w64_id (n := (y : Int) + 1) (by omega), show (y : Int) + 1 = ((y + 1 : Nat) : Int) by omega]
    simp only [letO, if_true, show decide ((0 : Int) = 2) = false from rfl, Bool.false_eq_true, if_false, e0, n1, decide_false, w64_id (n := (z : Int) - y - 1) (by omega), if_pos i1, if_pos i2, if_pos i3, t1, t2, t3, decide_true, Bool.not_true]
    have step : ∀ (acc' : List (List Int)), (¬ Flt l y z → acc' = acc) → (Flt l y z → acc'.length = acc.length + 1) → ∃ r, impl_faultsAt_on_faults_c1_l0 l 0 z z k ((y + 1 : Nat) : Int) acc' = some r ∧ acc.length ≤ r.length ∧ r.length ≤ acc.length + (d + 1) ∧ (r.length = acc.length ↔ ∀ y' : Nat, y ≤ y' → y' < z → ¬ Flt l y' z) := by
      intro acc' g1 g2
      by_cases hF : Flt l y z
      · have ha' := g2 hF
        obtain ⟨r, e, r1, r2, r3⟩ := ih (y + 1) k acc' (by omega) (by omega) (by omega) (by omega) (by omega)
        refine ⟨r, e, by omega, by omega, ?_⟩
        constructor
        · intro h; omega
        · intro h; exact absurd hF (h y (Nat.le_refl _) (by omega))
      · have ha' := g1 hF
        subst ha'
        obtain ⟨r, e, r1, r2, r3⟩ := ih (y + 1) k acc' (by omega) (by omega) (by omega) (by omega) (by omega)
        refine ⟨r, e, r1, by omega, ?_⟩
        rw [r3]
        constructor
        · intro h y' h1 h2
          by_cases e : y' = y
          · subst e; exact hF
          · exact h y' (by omega) h2
        · intro h y' h1 h2; exact h y' (by omega) h2
    have app : ∀ x y' : Int, impl_faults_c1 x y' acc z = some (acc ++ [[x, y', (z : Int)]]) := fun x y' => by
      unfold impl_faults_c1
      rw [if_pos (by simp; omega)]
    by_cases hy : (y : Int) < (z : Int) - y
    · have hF : ¬ Flt l y z := fun h => by have := h.1; omega
      simp only [hy, decide_true, if_true, Option.bind_some]
      exact step acc (fun _ => rfl) (fun h => absurd h hF)
    · simp only [hy, decide_false, Bool.false_eq_true, if_false]
      have both : ∀ (X Y : Option Bool), X = Y → (if decide ((z : Int) - y = (y : Int)) = true then X else Y) = Y := fun X Y h => by subst h; split <;> rfl
      rw [both _ _ rfl]
      by_cases q1 : l.getD (z - y - 1) 0 = l.getD (z - 1) 0
      · by_cases q2 : l.getD (y - 1) 0 = l.getD (z - 1) 0
        · have hF : Flt l y z := ⟨by omega, q1, q2⟩
          simp only [q1, q2, decide_true, Bool.not_true, Bool.false_eq_true, if_false, Option.bind_some, app]
          exact step _ (fun h => absurd hF h) (fun _ => by simp)
        · have hF : ¬ Flt l y z := fun h => q2 h.2.2
          simp only [q1, q2, decide_true, decide_false, Bool.not_true, Bool.not_false, Bool.false_eq_true, if_false, if_true, Option.bind_some]
          exact step acc (fun _ => rfl) (fun h => absurd h hF)
      · have hF : ¬ Flt l y z := fun h => q1 h.2.1
        simp only [q1, decide_false, Bool.not_false, if_true, Option.bind_some]
        exact step acc (fun _ => rfl) (fun h => absurd h hF)

def freeP (l : List Int) : Prop := ∀ z y : Nat, 1 ≤ y → y < z → z ≤ l.length → ¬ Flt l y z

theorem faults_val {K : Nat} (hK : 5000 ≤ K) (l : List Int) (hl : l.length ≤ 40) : ∃ r, impl_faults K l 0 = some r ∧ r.length ≤ 2000 ∧ (r.length = 0 ↔ freeP l) := by
  unfold impl_faults
  have := loopI (f := fun k' z (s : List (List Int)) => impl_faults_l0 K l 0 k' z s) ((l.length : Int) + 1) 1 (fun z s => z ≤ l.length + 1 ∧ (s.length : Int) ≤ 40 * (z - 1) ∧ (s.length = 0 ↔ ∀ z' y : Nat, 1 ≤ y → y < z' → (z' : Int) < z → ¬ Flt l y z')) (fun r => r.length ≤ 2000 ∧ (r.length = 0 ↔ freeP l)) ?_ ?_ K 1 [] (by omega) (by omega) ⟨by omega, by simp, by constructor <;> intro _ <;> first | rfl | (intro z' y h1 h2 h3; omega)⟩
  · obtain ⟨r, e, h1, h2⟩ := this
    exact ⟨r, by rw [e]; rfl, h1, h2⟩
  · intro k' z s h0 h1 ⟨_, q2, q3⟩
    left
    obtain ⟨m, rfl⟩ := nat_of (show 0 ≤ z by omega)
    have hm : 1 ≤ m ∧ m ≤ l.length := by omega
    obtain ⟨r, e, r1, r2, r3⟩ := faultsAt_val l hl m hm (m - 1) 1 K s (by omega) (by omega) (by omega) (by omega) (by omega)
    refine ⟨r, ?_, by omega, by omega, ?_⟩
    · show impl_faults_l0 K l 0 (k' + 1) m s = _
      have hle : (m : Int) ≤ (l.length : Int) := by omega
      unfold impl_faultsAt_on_faults_c1 at *
      rw [impl_faults_l0, w64_id (n := (m : Int) + 1) (by omega)]
      unfold impl_faultsAt_on_faults_c1 impl_size
      rw [decide_eq_true hle, show (1 : Int) = ((1 : Nat) : Int) from rfl, e]
      rfl
    · constructor
      · intro h z' y g1 g2 g3
        have hs : s.length = 0 := by omega
        by_cases ez : z' = m
        · subst ez
          exact r3.1 (by omega) y g1 g2
        · exact q3.1 hs z' y g1 g2 (by omega)
      · intro h
        have hs : s.length = 0 := q3.2 fun z' y g1 g2 g3 => h z' y g1 g2 (by omega)
        have := r3.2 fun y g1 g2 => h m y g1 g2 (by omega)
        omega
  · intro k' z s h0 h1 ⟨q1, q2, q3⟩
    have : z = (l.length : Int) + 1 := by omega
    subst this
    refine ⟨s, ?_, by omega, ?_⟩
    · show impl_faults_l0 K l 0 (k' + 1) ((l.length : Int) + 1) s = _
      have hle : ¬ (l.length : Int) + 1 ≤ (l.length : Int) := by omega
      rw [impl_faults_l0]
      unfold impl_size
      rw [decide_eq_false hle]; rfl
    · rw [q3]
      exact ⟨fun h z y g1 g2 g3 => h z y g1 g2 (by omega), fun h z y g1 g2 g3 => h z y g1 g2 (by omega)⟩

open Classical in
theorem isFree_val {K : Nat} (hK : 5000 ≤ K) (k : Int) (l : List Int) (h : isP k l) : impl_IsFree K k l 0 = some (decide (freeP l), 0) := by
  unfold impl_IsFree impl_partCode impl_isFaultKind
  obtain ⟨r, e, h1, h2⟩ := faults_val hK l h.2.1
  rw [isPart_val hK k l (by have := h.2.1; omega), decide_eq_true h, in_eq, e]
  simp
  rw [← h2, List.length_eq_zero_iff]

/-- A part's colouring has a triangle of one colour where the part has a fault. -/
theorem free_avoids {x : Col} {k : Int} {l : List Int} (hP : isP k l) (hl : l.length ≤ 16) (hm : Made x ((l.length : Int) + 1) k (prG l)) : freeP l ↔ ∀ c : Nat, (c : Int) < k → cl (aB x c) 3 (pts x) = [] := by
  have hp : x.p.toNat = l.length + 1 := by rw [hm.p]; omega
  have hcc : ∀ a b : Nat, a < b → b < l.length + 1 → x.cc a b = l.getD (b - a - 1) 0 := fun a b hab hb => by
    have e : x.cc a b = ((x.e.get (eN a b)).toNat : Int) := by unfold Col.cc; simp
    rw [e, hm.e a b hab (by omega)]
    unfold prG
    have := hP.2.2 _ (gDm (show b - a - 1 < l.length by omega))
    have h3 := hP.1
    generalize l.getD (b - a - 1) 0 = v at this
    have : v = 0 ∨ v = 1 ∨ v = 2 := by omega
    rcases this with rfl | rfl | rfl <;> rfl
  constructor
  · intro hf c hc
    cases hq : cl (aB x c) 3 (pts x) with
    | nil => rfl
    | cons t ts =>
      exfalso
      have hin : t ∈ cl (aB x c) 3 (pts x) := by rw [hq]; exact List.mem_cons_self ..
      obtain ⟨g1, g2, g3⟩ := (mem_cl _ _ _ _).1 hin
      match t, g3 with
      | [a, b, d], _ =>
        have hpw := (ir_pw 0 x.p.toNat).sublist g1
        have hmem : ∀ z ∈ [a, b, d], 0 ≤ z ∧ z < (l.length : Int) + 1 := fun z hz => by
          have := g1.subset hz
          unfold pts at this
          rw [mem_ir] at this; omega
        have ha := hmem a (by simp)
        have hb := hmem b (by simp)
        have hd := hmem d (by simp)
        simp at hpw g2
        obtain ⟨a, rfl⟩ := nat_of ha.1
        obtain ⟨b, rfl⟩ := nat_of hb.1
        obtain ⟨d, rfl⟩ := nat_of hd.1
        have e1 := hcc a b (by omega) (by omega)
        have e2 := hcc b d (by omega) (by omega)
        have e3 := hcc a d (by omega) (by omega)
        unfold aB at g2
        simp at g2
        have f1 := g2.1.1.2
        have f2 := g2.1.2.2
        have f3 := g2.2.2
        rw [e1] at f1
        rw [e3] at f2
        rw [e2] at f3
        rcases Nat.le_total (b - a) (d - b) with h | h
        · refine hf (d - a) (d - b) (by omega) (by omega) (by omega) ⟨by omega, ?_, ?_⟩
          · rw [show d - a - (d - b) - 1 = b - a - 1 by omega, f1, f2]
          · rw [f3, f2]
        · refine hf (d - a) (b - a) (by omega) (by omega) (by omega) ⟨by omega, ?_, ?_⟩
          · rw [show d - a - (b - a) - 1 = d - b - 1 by omega, f3, f2]
          · rw [f1, f2]
  · intro h z y h1 h2 h3 ⟨g0, g1, g2⟩
    have hv := hP.2.2 _ (gDm (show z - 1 < l.length by omega))
    obtain ⟨c, hc⟩ := nat_of hv.1
    have hk := hP.1
    have := h c (by omega)
    have hin : [(0 : Int), ((z - y : Nat) : Int), (z : Int)] ∈ cl (aB x c) 3 (pts x) := by
      rw [mem_cl]
      refine ⟨?_, ?_, rfl⟩
      · have : pts x = (0 : Int) :: ir 1 x.p.toNat := by unfold pts; rw [ir_next (by omega)]; rfl
        rw [this]
        refine List.Sublist.cons_cons 0 ?_
        have sub : ∀ (q n a : Nat), q ≤ a → a < n → ∃ L1 L2, ir q n = L1 ++ (a : Int) :: L2 ∧ L2 = ir (a + 1) n := fun q n a hq ha => by
          have : ∀ e q, a - q = e → q ≤ a → ∃ L1 L2, ir q n = L1 ++ (a : Int) :: L2 ∧ L2 = ir (a + 1) n := by
            intro e
            induction e with
            | zero =>
              intro q h1 h2
              obtain rfl : q = a := by omega
              exact ⟨[], _, by rw [ir_next ha]; rfl, rfl⟩
            | succ e ih =>
              intro q h1 h2
              obtain ⟨L1, L2, e1, e2⟩ := ih (q + 1) (by omega) (by omega)
              exact ⟨(q : Int) :: L1, L2, by rw [ir_next (by omega), e1]; rfl, e2⟩
          exact this _ q rfl hq
        obtain ⟨A1, A2, e1, e2⟩ := sub 1 x.p.toNat (z - y) (by omega) (by omega)
        obtain ⟨B1, B2, e3, e4⟩ := sub (z - y + 1) x.p.toNat z (by omega) (by omega)
        rw [e1, e2, e3]
        exact (List.Sublist.cons_cons _ ((List.Sublist.cons_cons _ (List.nil_sublist _)).trans (List.sublist_append_right _ _))).trans (List.sublist_append_right _ _)
      · have c1 := hcc 0 (z - y) (by omega) (by omega)
        have c2 := hcc 0 z (by omega) (by omega)
        have c3 := hcc (z - y) z (by omega) (by omega)
        simp only [Nat.sub_zero, Int.natCast_zero] at c1 c2
        rw [show z - (z - y) - 1 = y - 1 by omega] at c3
        rw [g1, hc] at c1
        rw [hc] at c2
        rw [g2, hc] at c3
        have n1 : ¬ (0 : Int) = ((z - y : Nat) : Int) := by omega
        have n2 : ¬ (0 : Int) = (z : Int) := by omega
        have n3 : ¬ ((z - y : Nat) : Int) = (z : Int) := by omega
        have a1 : aB x c 0 ((z - y : Nat) : Int) = true := decide_eq_true ⟨n1, c1⟩
        have a2 : aB x c 0 (z : Int) = true := decide_eq_true ⟨n2, c2⟩
        have a3 : aB x c ((z - y : Nat) : Int) (z : Int) = true := decide_eq_true ⟨n3, c3⟩
        simp [a1, a2, a3]
    rw [this] at hin
    cases hin

/-! ### Lists turned round -/
theorem reverse_val {K : Nat} (hK : 5000 ≤ K) (l : List Int) (hl : l.length ≤ 1000) : slices_Reverse K l = some l.reverse := by
  unfold slices_Reverse
  rw [w64_id (by omega)]
  have key : ∀ (d i k : Nat) (s : List Int), l.length - 2 * i = d → d < k → 2 * i ≤ l.length + 1 → s.length = l.length → (∀ t : Nat, t < l.length → s.getD t 0 = if t < i ∨ l.length - 1 - t < i then l.getD (l.length - 1 - t) 0 else l.getD t 0) →
      slices_Reverse_l0 k (i : Int) ((l.length : Int) - 1 - i) s = some l.reverse := by
    have fin : ∀ (i : Nat) (s : List Int), l.length ≤ 2 * i + 1 → s.length = l.length → (∀ t : Nat, t < l.length → s.getD t 0 = if t < i ∨ l.length - 1 - t < i then l.getD (l.length - 1 - t) 0 else l.getD t 0) → s = l.reverse := fun i s h1 h2 h3 => by
      apply List.ext_getElem (by simp [h2])
      intro t g1 g2
      rw [List.getElem_reverse]
      have := h3 t (by omega)
      rw [gD g1] at this
      rw [this]
      by_cases h : t < i ∨ l.length - 1 - t < i
      · rw [if_pos h, gD (by omega)]
      · rw [if_neg h]
        have : t = l.length - 1 - t := by omega
        rw [gD (by omega)]
        congr 1
    intro d
    induction d using Nat.strongRecOn with
    | _ d ih =>
      intro i k s hd hk h1 h2 h3
      obtain ⟨k, rfl⟩ : ∃ q, k = q + 1 := ⟨k - 1, by omega⟩
      rw [slices_Reverse_l0]
      by_cases hlt : (i : Int) < (l.length : Int) - 1 - i
      · have hj : ((l.length : Int) - 1 - i) = ((l.length - 1 - i : Nat) : Int) := by omega
        have b1 : (0 : Int) ≤ ((l.length - 1 - i : Nat) : Int) ∧ ((l.length - 1 - i : Nat) : Int) < (s.length : Int) := by omega
        have b2 : (0 : Int) ≤ (i : Int) ∧ (i : Int) < (s.length : Int) := by omega
        have b3 : (0 : Int) ≤ ((l.length - 1 - i : Nat) : Int) ∧ ((l.length - 1 - i : Nat) : Int) < ((s.set i (s.getD (l.length - 1 - i) 0)).length : Int) := by rw [List.length_set]; exact b1
        rw [decide_eq_true hlt, hj, w64_id (n := (i : Int) + 1) (by omega), w64_id (by omega)]
        simp only [if_true, Int.toNat_natCast, if_pos b1, if_pos b2, if_pos b3]
        rw [show ((l.length - 1 - i : Nat) : Int) - 1 = (l.length : Int) - 1 - ((i + 1 : Nat) : Int) by omega, show (i : Int) + 1 = ((i + 1 : Nat) : Int) by omega]
        refine ih (l.length - 2 * (i + 1)) (by omega) (i + 1) k _ rfl (by omega) (by omega) (by simp [h2]) fun t ht => ?_
        have h3i := h3 i (by omega)
        have h3j := h3 (l.length - 1 - i) (by omega)
        rw [if_neg (by omega)] at h3i h3j
        have gs : ∀ (u : List Int) (q : Nat) (v : Int) (t : Nat), t < u.length → (u.set q v).getD t 0 = if q = t then v else u.getD t 0 := fun u q v t ht => by
          simp only [List.getD, List.getElem?_set]
          by_cases h : q = t
          · subst h; simp [ht]
          · simp [h]
        rw [gs _ _ _ _ (by simp; omega), gs _ _ _ _ (by omega), h3i, h3j, h3 t ht]
        by_cases e1 : l.length - 1 - i = t
        · rw [if_pos e1, if_pos (by omega)]
          congr 1; omega
        · rw [if_neg e1]
          by_cases e2 : i = t
          · subst e2
            rw [if_pos rfl, if_pos (by omega)]
          · rw [if_neg e2]
            by_cases e3 : t < i ∨ l.length - 1 - t < i
            · rw [if_pos e3, if_pos (by omega)]
            · rw [if_neg e3, if_neg (by omega)]
      · rw [decide_eq_false hlt, if_neg (by simp)]
        congr 1
        exact fin i s (by omega) h2 h3
  have := key l.length 0 K l (by omega) (by omega) (by omega) rfl (fun t ht => by rw [if_neg (by omega)])
  rw [show ((0 : Nat) : Int) = 0 from rfl, Int.sub_zero] at this
  exact this

theorem specReverse {K : Nat} (hK : 5000 ≤ K) (l : List Int) (hl : l.length ≤ 1000) : spec_ReflectPart_l0 l K (w64 ((l.length : Int) - 1)) [] = some l.reverse := by
  rw [w64_id (by omega)]
  have key : ∀ (d k : Nat) (s : List Int), d ≤ l.length → d < k → s = (l.drop d).reverse → spec_ReflectPart_l0 l k ((d : Int) - 1) s = some l.reverse := by
    intro d
    induction d with
    | zero =>
      intro k s h1 h2 h3
      obtain ⟨k, rfl⟩ : ∃ q, k = q + 1 := ⟨k - 1, by omega⟩
      rw [spec_ReflectPart_l0, h3]; simp
    | succ d ih =>
      intro k s h1 h2 h3
      obtain ⟨k, rfl⟩ : ∃ q, k = q + 1 := ⟨k - 1, by omega⟩
      have e : ((d + 1 : Nat) : Int) - 1 = (d : Int) := by omega
      have hd : d < l.length := by omega
      have hd' : (0 : Int) ≤ (d : Int) ∧ (d : Int) < (l.length : Int) := by omega
      have hl' : s.length + ([l.getD d 0]).length ≤ 1099511627776 := by rw [h3]; simp; omega
      rw [e, spec_ReflectPart_l0, w64_id (by omega), decide_eq_true hd'.1]
      simp only [if_true, if_pos hd', Int.toNat_natCast, if_pos hl']
      refine ih k _ (by omega) (by omega) ?_
      rw [h3, List.drop_eq_getElem_cons hd, List.reverse_cons, gD hd]
  exact key l.length K [] (Nat.le_refl _) (by omega) (by simp)

theorem reflect_val {K : Nat} (hK : 5000 ≤ K) (k : Int) (l : List Int) (hl : l.length ≤ 1000) : ∃ r e, impl_ReflectPart K k l = some (r, e) ∧ spec_ReflectPart K k l = some (r, e) ∧ r.length ≤ 1000 := by
  classical
  unfold impl_ReflectPart spec_ReflectPart
  rw [isPart_val hK k l hl, partCode_spec hK k l 0 hl]
  by_cases h : isP k l
  · refine ⟨l.reverse, 0, ?_, ?_, by simpa using hl⟩
    · rw [decide_eq_true h]
      simp only [Option.bind_some, Bool.not_true, Bool.false_eq_true, if_false]
      cases l with
      | nil =>
        obtain ⟨k', rfl⟩ : ∃ q, K = q + 1 := ⟨K - 1, by omega⟩
        have : slices_Reverse_d0 (k' + 1) [] = some () := by
          unfold slices_Reverse_d0
          rw [slices_Reverse_d0_l0]
          have : ¬ (0 : Int) < w64 ((([] : List Int).length : Int) - 1) := by decide
          rw [decide_eq_false this]; rfl
        simp [this]
      | cons a t =>
        have hc : cloneA (a :: t) = some (a :: t) := by unfold cloneA; rw [if_pos (by omega)]
        rw [hc]
        simp only [List.isEmpty_cons, Bool.false_eq_true, if_false, Option.bind_some, reverse_val hK (a :: t) hl]
    · rw [if_pos ⟨h, by omega, by omega⟩]
      simp only [Option.bind_some, decide_true, Bool.not_true, Bool.false_eq_true, if_false, specReverse hK l hl]
  · refine ⟨[], 2, ?_, ?_, by simp⟩
    · rw [decide_eq_false h]; simp
    · have : ¬ (isP k l ∧ (0 : Int) ≤ 0 ∧ (0 : Int) ≤ 2) := fun q => h q.1
      rw [if_neg this]; simp

/-! ### Classes -/
theorem class_same (l : List Int) (c : Int) : ∀ k i s, impl_ClassOfColour_l0 l c k i s = spec_ClassOfColour_l0 l c k i s := by
  intro k
  induction k with
  | zero => intro i s; rfl
  | succ k ih =>
    intro i s
    rw [impl_ClassOfColour_l0, spec_ClassOfColour_l0]
    simp only [ih]
theorem class_some {K : Nat} (hK : 5000 ≤ K) (l : List Int) (c : Int) (hl : l.length ≤ 1000) : ∃ r, spec_ClassOfColour_l0 l c K 0 [] = some r ∧ r.length ≤ 1000 := by
  refine loopI (f := fun k' i (s : List Int) => spec_ClassOfColour_l0 l c k' i s) (l.length : Int) 0 (fun i s => i ≤ l.length ∧ (s.length : Int) ≤ i) (fun r => r.length ≤ 1000) ?_ ?_ K 0 [] (by omega) (by omega) ⟨by omega, by simp⟩
  · intro k' i s h0 h1 ⟨_, q⟩
    left
    have hl' : s.length + ([w64 (i + 1)]).length ≤ 1099511627776 := by simp; omega
    by_cases e : l.getD i.toNat 0 = c
    · refine ⟨s ++ [w64 (i + 1)], ?_, by omega, by simp; omega⟩
      show spec_ClassOfColour_l0 l c (k' + 1) i s = _
      rw [spec_ClassOfColour_l0]
      simp only [h1, h0, decide_true, if_true, and_self, e, if_pos hl', Option.bind_some]
      rw [w64_succ h0 h1 (by omega)]
    · refine ⟨s, ?_, by omega, by omega⟩
      show spec_ClassOfColour_l0 l c (k' + 1) i s = _
      rw [spec_ClassOfColour_l0]
      simp only [h1, h0, decide_true, if_true, and_self, e, decide_false, Bool.false_eq_true, if_false, Option.bind_some]
      rw [w64_succ h0 h1 (by omega)]
  · intro k' i s h0 h1 ⟨q1, q2⟩
    refine ⟨s, ?_, by omega⟩
    show spec_ClassOfColour_l0 l c (k' + 1) i s = _
    rw [spec_ClassOfColour_l0]
    have : ¬ i < (l.length : Int) := by omega
    simp [this]
theorem class_val {K : Nat} (hK : 5000 ≤ K) (k : Int) (l : List Int) (c : Int) (hl : l.length ≤ 1000) : ∃ r e, impl_ClassOfColour K k l c = some (r, e) ∧ spec_ClassOfColour K k l c = some (r.getD [], e) ∧ (r.getD []).length ≤ 1000 := by
  classical
  obtain ⟨r, e, hr⟩ := class_some hK l c hl
  unfold impl_ClassOfColour spec_ClassOfColour
  rw [isPart_val hK k l hl, partCode_spec hK k l 0 hl, class_same, e, in_eq, specIn_eq]
  by_cases h : isP k l
  · rw [decide_eq_true h, if_pos ⟨h, by omega, by omega⟩]
    by_cases hc : 0 ≤ c ∧ c ≤ w64 (k - 1)
    · exact ⟨some r, 0, by simp [hc], by simp [hc], by simpa using hr⟩
    · refine ⟨none, 2, ?_, ?_, by simp⟩
      · rw [decide_eq_false hc]; simp
      · rw [decide_eq_false hc]; simp
  · refine ⟨none, 2, ?_, ?_, by simp⟩
    · rw [decide_eq_false h]; simp
    · have : ¬ (isP k l ∧ (0 : Int) ≤ 0 ∧ (0 : Int) ≤ 2) := fun q => h q.1
      rw [if_neg this]; simp
end Go.Proofs.Ytfoijbdnkkaceaa
