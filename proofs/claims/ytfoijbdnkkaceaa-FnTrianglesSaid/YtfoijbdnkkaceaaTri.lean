/- Plain Lean for the laws: sums over points, triples of points and their colours. No program in sight. No conditions beyond those that each lemma states. -/
import Derived.Test.YtfoijbdnkkaceaaClqB
set_option linter.unusedVariables false
set_option linter.unusedSimpArgs false
namespace Go.Proofs.Ytfoijbdnkkaceaa
open Go Go.RowKit Ab

/-- The sum of the first n numbers. -/
def sg (n : Nat) (f : Nat → Int) : Int := match n with
  | 0 => 0
  | n + 1 => sg n f + f n
theorem sg_congr {n : Nat} {f g : Nat → Int} (h : ∀ i, i < n → f i = g i) : sg n f = sg n g := by
  induction n with
  | zero => rfl
  | succ n ih => simp only [sg]; rw [ih fun i hi => h i (by omega), h n (by omega)]
theorem sg_add (n : Nat) (f g : Nat → Int) : sg n (fun i => f i + g i) = sg n f + sg n g := by
  induction n with
  | zero => rfl
  | succ n ih => simp only [sg]; rw [ih]; omega
theorem sg_zero (n : Nat) : sg n (fun _ => 0) = 0 := by
  induction n with
  | zero => rfl
  | succ n ih => simp only [sg]; rw [ih]; rfl
theorem sg_mul (n : Nat) (c : Int) (f : Nat → Int) : sg n (fun i => c * f i) = c * sg n f := by
  induction n with
  | zero => simp [sg]
  | succ n ih => simp only [sg]; rw [ih]; grind
theorem sg_comm (n m : Nat) (f : Nat → Nat → Int) : sg n (fun i => sg m (fun j => f i j)) = sg m (fun j => sg n (fun i => f i j)) := by
  induction n with
  | zero => simp only [sg]; rw [sg_zero]
  | succ n ih => simp only [sg]; rw [ih, sg_add]
theorem sg_le {n : Nat} {f g : Nat → Int} (h : ∀ i, i < n → f i ≤ g i) : sg n f ≤ sg n g := by
  induction n with
  | zero => exact Int.le_refl _
  | succ n ih =>
    simp only [sg]
    have := ih fun i hi => h i (by omega)
    have := h n (by omega)
    omega
theorem sg_const (n : Nat) (c : Int) : sg n (fun _ => c) = n * c := by
  induction n with
  | zero => simp [sg]
  | succ n ih => simp only [sg]; rw [ih]; grind
theorem sg_prod (n m : Nat) (f g : Nat → Int) : sg n f * sg m g = sg n (fun i => sg m (fun j => f i * g j)) := by
  induction n with
  | zero => simp [sg]
  | succ n ih => simp only [sg]; rw [← ih, sg_mul]; grind

def io (b : Bool) : Int := if b then 1 else 0
theorem io_and (a b : Bool) : io (a && b) = io a * io b := by cases a <;> cases b <;> rfl
theorem io_range (b : Bool) : 0 ≤ io b ∧ io b ≤ 1 := by cases b <;> simp [io]

/-- How many of the first points have something. -/
theorem flt_sg (n : Nat) (p : Int → Bool) : (((ir 0 n).filter p).length : Int) = sg n (fun i => io (p i)) := by
  have snoc : ∀ j, ir 0 (j + 1) = ir 0 j ++ [(j : Int)] := fun j => by
    unfold ir
    rw [show j + 1 - 0 = j + 1 by omega, List.range'_concat]
    simp
  induction n with
  | zero => simp [ir_end, sg]
  | succ n ih =>
    simp only [sg]
    rw [snoc, List.filter_append, List.length_append, ← ih]
    cases h : p n <;> simp [h, io]
theorem sum_sg (n : Nat) (f : Int → Nat) : ((((ir 0 n).map f).sum : Nat) : Int) = sg n (fun i => (f i : Int)) := by
  have snoc : ∀ j, ir 0 (j + 1) = ir 0 j ++ [(j : Int)] := fun j => by
    unfold ir
    rw [show j + 1 - 0 = j + 1 by omega, List.range'_concat]
    simp
  induction n with
  | zero => simp [ir_end, sg]
  | succ n ih =>
    simp only [sg]
    rw [snoc, List.map_append, List.sum_append, Int.natCast_add, ih]
    simp
/-- .. and are in a part of them. -/
theorem sum_flt_sg (n : Nat) (p : Int → Bool) (f : Int → Nat) : (((((ir 0 n).filter p).map f).sum : Nat) : Int) = sg n (fun i => io (p i) * (f i : Int)) := by
  have snoc : ∀ j, ir 0 (j + 1) = ir 0 j ++ [(j : Int)] := fun j => by
    unfold ir
    rw [show j + 1 - 0 = j + 1 by omega, List.range'_concat]
    simp
  induction n with
  | zero => simp [ir_end, sg]
  | succ n ih =>
    simp only [sg]
    rw [snoc, List.filter_append, List.map_append, List.sum_append, Int.natCast_add, ih]
    cases h : p n <;> simp [h, io]

section
variable (adj : Int → Int → Bool) (hs : ∀ a b, adj a b = adj b a) (hi : ∀ a, adj a a = false)
include hs hi

theorem cl_sum (l : List Int) (hn : l.Nodup) (m : Nat) : (l.map fun p => (cl adj m (l.filter (adj p))).length).sum = (m + 1) * (cl adj (m + 1) l).length := by
  have h1 : (l.map fun p => (cl adj m (l.filter (adj p))).length) = l.map fun p => (cl adj (m + 1) l).countP (fun x => decide (p ∈ x)) := by
    apply List.map_congr_left
    intro p hp
    exact (cl_at adj hs hi p l m hn hp).symm
  rw [h1, sum_mem l hn (cl adj (m + 1) l) fun x hx => by
    obtain ⟨g1, _⟩ := (mem_cl _ _ _ _).1 hx
    exact ⟨hn.sublist g1, fun z hz => g1.subset hz⟩]
  have : ∀ L : List (List Int), (∀ l ∈ L, l.length = m + 1) → (L.map List.length).sum = (m + 1) * L.length := by
    intro L
    induction L with
    | nil => intro _; rfl
    | cons a t ih =>
      intro hL
      rw [List.map_cons, List.sum_cons, ih fun l hl => hL l (List.mem_cons_of_mem _ hl), hL a (List.mem_cons_self ..), List.length_cons, Nat.mul_succ]
      omega
  exact this _ fun l hl => cl_len _ _ _ l hl

omit hs hi in
theorem cl_one (l : List Int) : (cl adj 1 l).length = l.length := by
  induction l with
  | nil => rw [cl_nil]; rfl
  | cons v t ih => rw [cl_cons, cl_zero, List.length_append, ih]; simp; omega

/-- Triangles, counted over all triples. -/
theorem tri_sg (n : Nat) : 6 * ((cl adj 3 (ir 0 n)).length : Int) = sg n fun a => sg n fun b => sg n fun c => io (adj a b && adj a c && adj b c) := by
  have h3 := cl_sum adj hs hi (ir 0 n) (ir_nodup _ _) 2
  have h2 : ∀ a : Int, 2 * ((cl adj 2 ((ir 0 n).filter (adj a))).length : Int) = sg n fun b => sg n fun c => io (adj a b && adj a c && adj b c) := fun a => by
    have h := cl_sum adj hs hi ((ir 0 n).filter (adj a)) ((ir_nodup _ _).sublist List.filter_sublist) 1
    have e : (((ir 0 n).filter (adj a)).map fun p => (cl adj 1 (((ir 0 n).filter (adj a)).filter (adj p))).length) = ((ir 0 n).filter (adj a)).map fun p => (((ir 0 n).filter fun q => adj a q && adj p q).length) := by
      apply List.map_congr_left
      intro p _
      rw [cl_one adj, List.filter_filter]
      congr 1
      apply List.filter_congr
      intro q _
      rw [Bool.and_comm]
    rw [e] at h
    have h' := sum_flt_sg n (adj a) fun p => ((ir 0 n).filter fun q => adj a q && adj p q).length
    rw [h] at h'
    have h'' : 2 * ((cl adj 2 ((ir 0 n).filter (adj a))).length : Int) = sg n fun i => io (adj a i) * (((ir 0 n).filter fun q => adj a q && adj i q).length : Int) := by
      rw [← h']; simp
    rw [h'']
    apply sg_congr
    intro b _
    rw [flt_sg, ← sg_mul]
    apply sg_congr
    intro c _
    rw [← io_and, Bool.and_assoc]
  have h3' := sum_sg n fun p => (cl adj 2 ((ir 0 n).filter (adj p))).length
  rw [h3, show 2 + 1 = 3 from rfl] at h3'
  have : 6 * ((cl adj 3 (ir 0 n)).length : Int) = 2 * ((3 * (cl adj 3 (ir 0 n)).length : Nat) : Int) := by
    rw [Int.natCast_mul]; omega
  rw [this, h3', ← sg_mul]
  apply sg_congr
  intro a _
  exact h2 a
end

/-! ### Colours of pairs -/
section
variable (co : Int → Int → Int) (hc : ∀ a b, co a b = co b a) (n k : Nat) (hr : ∀ a b : Nat, a < n → b < n → a ≠ b → 0 ≤ co a b ∧ co a b < k)
/-- Joined in a colour. -/
def ad (co : Int → Int → Int) (c a b : Int) : Bool := decide (a ≠ b ∧ co a b = c)
def dg (co : Int → Int → Int) (n : Nat) (c a : Int) : Int := sg n fun b => io (ad co c a b)
/-- Three different points. -/
def d3 (a b c : Nat) : Bool := decide (a ≠ b) && (decide (a ≠ c) && decide (b ≠ c))

theorem sg_pick (m : Nat) (v : Int) (h : 0 ≤ v ∧ v < m) : sg m (fun c => io (decide (v = (c : Int)))) = 1 := by
  have : ∀ m : Nat, sg m (fun c => io (decide (v = (c : Int)))) = if v < m then 1 else 0 := fun m => by
    induction m with
    | zero => rw [if_neg (by omega)]; rfl
    | succ m ih =>
      simp only [sg]
      rw [ih]
      by_cases h1 : v < m
      · have : ¬ v = (m : Int) := by omega
        rw [if_pos h1, if_pos (by omega)]; simp [io, this]
      · by_cases h2 : v = (m : Int)
        · rw [if_neg h1, if_pos (by omega)]; simp [io, h2]
        · rw [if_neg h1, if_neg (by omega)]; simp [io, h2]
  rw [this, if_pos h.2]
include hr
theorem ad_sum {a b : Nat} (ha : a < n) (hb : b < n) : sg k (fun c => io (ad co c a b)) = io (decide (a ≠ b)) := by
  by_cases e : a = b
  · subst e
    have : (fun c : Nat => io (ad co c a a)) = fun _ => 0 := by funext c; simp [ad, io]
    rw [this, sg_zero]; simp [io]
  · have e' : ¬ (a : Int) = b := by omega
    have : (fun c : Nat => io (ad co c a b)) = fun c : Nat => io (decide (co a b = (c : Int))) := by funext c; simp [ad, e']
    rw [this, sg_pick k _ (hr a b ha hb e)]
    simp [io, e]

omit hr in
theorem ne_sum {a : Nat} (ha : a < n) : sg n (fun b => io (decide (a ≠ b))) = n - 1 := by
  have h1 : sg n (fun b => io (decide (a ≠ b)) + io (decide ((a : Int) = (b : Int)))) = n := by
    have : sg n (fun b => io (decide (a ≠ b)) + io (decide ((a : Int) = (b : Int)))) = sg n fun _ => 1 := sg_congr fun b _ => by
      by_cases e : a = b
      · subst e; simp [io]
      · have : ¬ (a : Int) = b := by omega
        simp [io, e, this]
    rw [this, sg_const]; omega
  rw [sg_add, sg_pick n a (by omega)] at h1
  omega

theorem dg_sum {a : Nat} (ha : a < n) : sg k (fun c => dg co n c a) = n - 1 := by
  unfold dg
  rw [sg_comm]
  rw [← ne_sum n ha]
  exact sg_congr fun b hb => ad_sum co n k hr ha hb

/-- Pairs of degrees. -/
def pr (k : Nat) (D : Nat → Int) : Int := sg k fun c => sg c fun d => D c * D d
omit hr in
theorem pr_two (k : Nat) (D : Nat → Int) : 2 * pr k D = sg k D * sg k D - sg k fun c => D c * D c := by
  induction k with
  | zero => rfl
  | succ k ih =>
    have e : pr (k + 1) D = pr k D + D k * sg k D := by
      unfold pr
      simp only [sg]
      rw [sg_mul]
    rw [e]
    simp only [sg]
    grind

/-- Angles at a point with two colours. -/
def W (co : Int → Int → Int) (a b c : Nat) : Int := io (d3 a b c && !decide (co a b = co a c))
theorem angles_at {a : Nat} (ha : a < n) : 2 * pr k (fun c => dg co n c a) = sg n fun b => sg n fun c => W co a b c := by
  rw [pr_two, dg_sum co n k hr ha]
  have h1 : ((n : Int) - 1) * ((n : Int) - 1) = sg n fun b => sg n fun c => io (decide (a ≠ b)) * io (decide (a ≠ c)) := by
    rw [← sg_prod, ne_sum n ha]
  have h2 : (sg k fun c => dg co n c a * dg co n c a) = sg n fun b => sg n fun c => io (decide (a ≠ b) && decide (a ≠ c) && decide (co a b = co a c)) := by
    unfold dg
    have : (sg k fun c => (sg n fun b => io (ad co c a b)) * (sg n fun b => io (ad co c a b))) = sg k fun c => sg n fun b => sg n fun d => io (ad co c a b) * io (ad co c a d) := sg_congr fun c _ => sg_prod n n _ _
    rw [this, sg_comm]
    refine sg_congr fun b hb => ?_
    rw [sg_comm]
    refine sg_congr fun d hd => ?_
    by_cases e : a = b
    · subst e
      have : (fun c : Nat => io (ad co c a a) * io (ad co c a d)) = fun _ => 0 := by funext c; simp [ad, io]
      rw [this, sg_zero]; simp [io]
    · by_cases e2 : a = d
      · subst e2
        have : (fun c : Nat => io (ad co c a b) * io (ad co c a a)) = fun _ => 0 := by funext c; simp [ad, io]
        rw [this, sg_zero]; simp [io]
      · have e' : ¬ (a : Int) = b := by omega
        have e2' : ¬ (a : Int) = d := by omega
        by_cases q : co a b = co a d
        · have : (fun c : Nat => io (ad co c a b) * io (ad co c a d)) = fun c : Nat => io (decide (co a b = (c : Int))) := by
            funext c
            rw [← io_and]
            simp [ad, e', e2', q]
          rw [this, sg_pick k _ (hr a b ha hb e)]
          simp [io, e, e2, q]
        · have : (fun c : Nat => io (ad co c a b) * io (ad co c a d)) = fun _ => 0 := by
            funext c
            rw [← io_and]
            by_cases z : co a b = c
            · have : ¬ co a d = c := fun w => q (z.trans w.symm)
              simp [ad, e', e2', z, this, io]
            · simp [ad, e', e2', z, io]
          rw [this, sg_zero]; simp [io, q]
  have h3 : (sg n fun b => sg n fun c => W co a b c) + (sg n fun b => sg n fun c => io (decide (a ≠ b) && decide (a ≠ c) && decide (co a b = co a c))) = sg n fun b => sg n fun c => io (decide (a ≠ b)) * io (decide (a ≠ c)) := by
    rw [← sg_add]
    refine sg_congr fun b hb => ?_
    rw [← sg_add]
    refine sg_congr fun c hc' => ?_
    rw [← io_and]
    unfold W d3
    by_cases e : a = b
    · simp [e, io]
    · by_cases e2 : a = c
      · simp [e2, io]
      · by_cases e3 : b = c
        · subst e3; simp [e, io]
        · by_cases q : co a b = co a c
          · simp [e, e2, e3, q, io]
          · simp [e, e2, e3, q, io]
  omega

/-- Three points with one colour. -/
def M3 (co : Int → Int → Int) (a b c : Nat) : Int := io (d3 a b c && (decide (co a b = co a c) && decide (co a b = co b c)))
include hc
theorem tri_all : 6 * sg k (fun c => ((cl (ad co c) 3 (ir 0 n)).length : Int)) = sg n fun a => sg n fun b => sg n fun c => M3 co a b c := by
  have hsym : ∀ c a b, ad co c a b = ad co c b a := fun c a b => by
    unfold ad
    rw [hc a b]
    by_cases e : a = b
    · subst e; rfl
    · have : ¬ b = a := fun h => e h.symm
      simp [e, this]
  have hirr : ∀ c a, ad co c a a = false := fun c a => by simp [ad]
  rw [← sg_mul]
  have : (sg k fun c => 6 * ((cl (ad co c) 3 (ir 0 n)).length : Int)) = sg k fun q => sg n fun a => sg n fun b => sg n fun c => io (ad co q a b && ad co q a c && ad co q b c) := sg_congr fun q _ => tri_sg (ad co q) (hsym q) (hirr q) n
  rw [this, sg_comm]
  refine sg_congr fun a ha => ?_
  rw [sg_comm]
  refine sg_congr fun b hb => ?_
  rw [sg_comm]
  refine sg_congr fun c hc' => ?_
  unfold M3 d3
  by_cases e : a = b
  · subst e
    have : (fun q : Nat => io (ad co q a a && ad co q a c && ad co q a c)) = fun _ => 0 := by funext q; simp [ad, io]
    rw [this, sg_zero]; simp [io]
  · by_cases e2 : a = c
    · subst e2
      have : (fun q : Nat => io (ad co q a b && ad co q a a && ad co q b a)) = fun _ => 0 := by funext q; simp [ad, io]
      rw [this, sg_zero]; simp [io]
    · by_cases e3 : b = c
      · subst e3
        have : (fun q : Nat => io (ad co q a b && ad co q a b && ad co q b b)) = fun _ => 0 := by funext q; simp [ad, io]
        rw [this, sg_zero]; simp [io]
      · have e' : ¬ (a : Int) = b := by omega
        have e2' : ¬ (a : Int) = c := by omega
        have e3' : ¬ (b : Int) = c := by omega
        by_cases q : co a b = co a c ∧ co a b = co b c
        · have : (fun w : Nat => io (ad co w a b && ad co w a c && ad co w b c)) = fun w : Nat => io (decide (co a b = (w : Int))) := by
            funext w
            simp [ad, e', e2', e3', ← q.1, ← q.2]
          rw [this, sg_pick k _ (hr a b ha hb e)]
          simp [io, e, e2, e3, ← q.1, ← q.2]
        · have : (fun w : Nat => io (ad co w a b && ad co w a c && ad co w b c)) = fun _ => 0 := by
            funext w
            have : ¬ (co a b = w ∧ co a c = w ∧ co b c = w) := fun ⟨z1, z2, z3⟩ => q ⟨z1.trans z2.symm, z1.trans z3.symm⟩
            by_cases z1 : co a b = w
            · by_cases z2 : co a c = w
              · have z3 : ¬ co b c = w := fun z3 => this ⟨z1, z2, z3⟩
                simp [ad, z3, io]
              · simp [ad, z2, io]
            · simp [ad, z1, io]
          rw [this, sg_zero]
          by_cases q1 : co a b = co a c
          · have q2 : ¬ co a b = co b c := fun z => q ⟨q1, z⟩
            simp [q2, io]
          · simp [q1, io]

omit hr in
/-- Two angles at least in three points that have not one colour. -/
theorem angle_le (a b c : Nat) : 2 * io (d3 a b c) - 2 * M3 co a b c ≤ W co a b c + W co b c a + W co c a b := by
  unfold W M3 d3
  rw [hc b a, hc c a, hc c b]
  by_cases e : a = b
  · simp [e, io]
  · by_cases e2 : a = c
    · simp [e2, io]
    · by_cases e3 : b = c
      · simp [e3, io]
      · have f1 : ¬ b = a := fun h => e h.symm
        have f2 : ¬ c = a := fun h => e2 h.symm
        have f3 : ¬ c = b := fun h => e3 h.symm
        by_cases q1 : co a b = co a c
        · by_cases q2 : co a b = co b c
          · simp [e, e2, e3, f1, f2, f3, ← q1, ← q2, io]
          · have q3 : ¬ co b c = co a b := fun h => q2 h.symm
            have q4 : ¬ co a c = co b c := fun h => q2 (q1.trans h)
            simp [e, e2, e3, f1, f2, f3, q1, q4, io]
            simp [show ¬ co b c = co a c from fun h => q4 h.symm]
        · have q5 : ¬ co a c = co a b := fun h => q1 h.symm
          by_cases q2 : co b c = co a b
          · have q3 : ¬ co a c = co b c := fun h => q1 (q2.symm.trans h.symm)
            simp [e, e2, e3, f1, f2, f3, q1, q3, io]
            split <;> omega
          · simp [e, e2, e3, f1, f2, f3, q1, q2, io]
            split <;> omega
omit hr in
theorem angle_eq (a b c : Nat) (h2 : ∀ u v : Nat, u ∈ [a, b, c] → v ∈ [a, b, c] → u ≠ v → co u v = 0 ∨ co u v = 1) : 2 * io (d3 a b c) - 2 * M3 co a b c = W co a b c + W co b c a + W co c a b := by
  unfold W M3 d3
  rw [hc b a, hc c a, hc c b]
  by_cases e : a = b
  · simp [e, io]
  · by_cases e2 : a = c
    · simp [e2, io]
    · by_cases e3 : b = c
      · simp [e3, io]
      · have f1 : ¬ b = a := fun h => e h.symm
        have f2 : ¬ c = a := fun h => e2 h.symm
        have f3 : ¬ c = b := fun h => e3 h.symm
        rcases h2 a b (by simp) (by simp) e with p | p <;> rcases h2 a c (by simp) (by simp) e2 with q | q <;> rcases h2 b c (by simp) (by simp) e3 with r | r <;> simp [e, e2, e3, f1, f2, f3, p, q, r, io]

omit hr hc in
theorem rot1 (f : Nat → Nat → Nat → Int) : (sg n fun a => sg n fun b => sg n fun c => f b c a) = sg n fun a => sg n fun b => sg n fun c => f a b c := by
  have : (sg n fun a => sg n fun b => sg n fun c => f b c a) = sg n fun b => sg n fun a => sg n fun c => f b c a := sg_comm n n _
  rw [this]
  exact sg_congr fun b _ => sg_comm n n _
omit hr hc in
theorem all3 (hn : 2 ≤ n ∨ n ≤ 1) : (sg n fun a => sg n fun b => sg n fun c => io (d3 a b c)) = n * (n - 1) * (n - 2) := by
  have one : ∀ a b : Nat, a < n → b < n → (sg n fun c => io (d3 a b c)) = io (decide (a ≠ b)) * (n - 2) := fun a b ha hb => by
    by_cases e : a = b
    · have : (fun c => io (d3 a b c)) = fun _ => 0 := by funext c; simp [d3, e, io]
      rw [this, sg_zero]; simp [e, io]
    · have h1 : sg n (fun c => io (d3 a b c) + (io (decide ((a : Int) = (c : Int))) + io (decide ((b : Int) = (c : Int))))) = n := by
        have : sg n (fun c => io (d3 a b c) + (io (decide ((a : Int) = (c : Int))) + io (decide ((b : Int) = (c : Int))))) = sg n fun _ => 1 := sg_congr fun c _ => by
          unfold d3
          by_cases e1 : a = c
          · have : ¬ (b : Int) = c := by omega
            have : ¬ b = c := by omega
            have : ¬ a = b := e
            have e1' : (a : Int) = c := by omega
            simp [io, e1, *]
          · by_cases e2 : b = c
            · have : ¬ (a : Int) = c := by omega
              have e2' : (b : Int) = c := by omega
              simp [io, e1, e2, *]
            · have : ¬ (a : Int) = c := by omega
              have : ¬ (b : Int) = c := by omega
              simp [io, e1, e2, e, *]
        rw [this, sg_const]; omega
      rw [sg_add, sg_add, sg_pick n a (by omega), sg_pick n b (by omega)] at h1
      have : io (decide (a ≠ b)) = 1 := by simp [io, e]
      rw [this]; omega
  have two : ∀ a : Nat, a < n → (sg n fun b => sg n fun c => io (d3 a b c)) = (n - 1) * (n - 2) := fun a ha => by
    have : (sg n fun b => sg n fun c => io (d3 a b c)) = sg n fun b => (n - 2) * io (decide (a ≠ b)) := sg_congr fun b hb => by rw [one a b ha hb, Int.mul_comm]
    rw [this, sg_mul]
    have h1 : sg n (fun b => io (decide (a ≠ b)) + io (decide ((a : Int) = (b : Int)))) = n := by
      have : sg n (fun b => io (decide (a ≠ b)) + io (decide ((a : Int) = (b : Int)))) = sg n fun _ => 1 := sg_congr fun b _ => by
        by_cases e : a = b
        · subst e; simp [io]
        · have : ¬ (a : Int) = b := by omega
          simp [io, e, this]
      rw [this, sg_const]; omega
    rw [sg_add, sg_pick n a (by omega)] at h1
    rw [show sg n (fun b => io (decide (a ≠ b))) = n - 1 by omega, Int.mul_comm]
  have : (sg n fun a => sg n fun b => sg n fun c => io (d3 a b c)) = sg n fun _ => ((n : Int) - 1) * (n - 2) := sg_congr fun a ha => two a ha
  rw [this, sg_const, Int.mul_assoc]

/-- All angles. -/
def AN (co : Int → Int → Int) (n k : Nat) : Int := sg n fun a => pr k fun c => dg co n c a
def TN (co : Int → Int → Int) (n k : Nat) : Int := sg k fun c => ((cl (ad co c) 3 (ir 0 n)).length : Int)

omit hc in
theorem angles_sum : 6 * AN co n k = sg n fun a => sg n fun b => sg n fun c => W co a b c + W co b c a + W co c a b := by
  have h : 2 * AN co n k = sg n fun a => sg n fun b => sg n fun c => W co a b c := by
    unfold AN
    rw [← sg_mul]
    exact sg_congr fun a ha => angles_at co n k hr ha
  have e1 : (sg n fun a => sg n fun b => sg n fun c => W co a b c + W co b c a + W co c a b) = (sg n fun a => sg n fun b => sg n fun c => W co a b c) + (sg n fun a => sg n fun b => sg n fun c => W co b c a) + (sg n fun a => sg n fun b => sg n fun c => W co c a b) := by
    have : ∀ a : Nat, (sg n fun b => sg n fun c => W co a b c + W co b c a + W co c a b) = (sg n fun b => sg n fun c => W co a b c) + (sg n fun b => sg n fun c => W co b c a) + (sg n fun b => sg n fun c => W co c a b) := fun a => by
      have : ∀ b : Nat, (sg n fun c => W co a b c + W co b c a + W co c a b) = (sg n fun c => W co a b c) + (sg n fun c => W co b c a) + (sg n fun c => W co c a b) := fun b => by
        rw [sg_add, sg_add]
      rw [sg_congr fun b _ => this b, sg_add, sg_add]
    rw [sg_congr fun a _ => this a, sg_add, sg_add]
  have r1 := rot1 n fun a b c => W co a b c
  have r2 := rot1 n fun a b c => W co b c a
  have r3 : (sg n fun a => sg n fun b => sg n fun c => W co c a b) = sg n fun a => sg n fun b => sg n fun c => W co a b c := by
    rw [← r1, ← r2]
  rw [e1, r1, r3]
  omega

theorem sets_six : (sg n fun a => sg n fun b => sg n fun c => 2 * io (d3 a b c) - 2 * M3 co a b c) = 2 * (n * (n - 1) * (n - 2)) - 12 * TN co n k := by
  have h1 := all3 n (by omega)
  have h2 := tri_all co hc n k hr
  have e : (sg n fun a => sg n fun b => sg n fun c => 2 * io (d3 a b c) - 2 * M3 co a b c) = 2 * (sg n fun a => sg n fun b => sg n fun c => io (d3 a b c)) + (-2) * (sg n fun a => sg n fun b => sg n fun c => M3 co a b c) := by
    have : ∀ a b : Nat, (sg n fun c => 2 * io (d3 a b c) - 2 * M3 co a b c) = 2 * (sg n fun c => io (d3 a b c)) + (-2) * (sg n fun c => M3 co a b c) := fun a b => by
      rw [← sg_mul, ← sg_mul, ← sg_add]
      exact sg_congr fun c _ => by omega
    have : ∀ a : Nat, (sg n fun b => sg n fun c => 2 * io (d3 a b c) - 2 * M3 co a b c) = 2 * (sg n fun b => sg n fun c => io (d3 a b c)) + (-2) * (sg n fun b => sg n fun c => M3 co a b c) := fun a => by
      rw [sg_congr fun b _ => this a b, sg_add, sg_mul, sg_mul]
    rw [sg_congr fun a _ => this a, sg_add, sg_mul, sg_mul]
  rw [e, h1, ← h2]
  unfold TN
  omega

/-- Each three points that have not one colour have two angles at least. -/
theorem angles_ge : n * (n - 1) * (n - 2) - 6 * TN co n k ≤ 3 * AN co n k := by
  have h1 := angles_sum co n k hr
  have h2 := sets_six co hc n k hr
  have h3 : (sg n fun a => sg n fun b => sg n fun c => 2 * io (d3 a b c) - 2 * M3 co a b c) ≤ sg n fun a => sg n fun b => sg n fun c => W co a b c + W co b c a + W co c a b := sg_le fun a _ => sg_le fun b _ => sg_le fun c _ => angle_le co hc a b c
  omega
theorem angles_two (hk : k ≤ 2) : n * (n - 1) * (n - 2) - 6 * TN co n k = 3 * AN co n k := by
  have h1 := angles_sum co n k hr
  have h2 := sets_six co hc n k hr
  have h3 : (sg n fun a => sg n fun b => sg n fun c => 2 * io (d3 a b c) - 2 * M3 co a b c) = sg n fun a => sg n fun b => sg n fun c => W co a b c + W co b c a + W co c a b := sg_congr fun a ha => sg_congr fun b hb => sg_congr fun c hc' => angle_eq co hc a b c fun u v hu hv huv => by
    have lt : ∀ u : Nat, u ∈ [a, b, c] → u < n := fun u hu => by
      simp at hu
      rcases hu with rfl | rfl | rfl <;> assumption
    have := hr u v (lt u hu) (lt v hv) huv
    omega
  omega
theorem TN_le : 6 * TN co n k ≤ n * (n - 1) * (n - 2) := by
  have h1 := all3 n (by omega)
  have h2 := tri_all co hc n k hr
  have h3 : (sg n fun a => sg n fun b => sg n fun c => M3 co a b c) ≤ sg n fun a => sg n fun b => sg n fun c => io (d3 a b c) := sg_le fun a _ => sg_le fun b _ => sg_le fun c _ => by
    unfold M3
    rw [io_and]
    have q1 := io_range (d3 a b c)
    have q2 := io_range (decide (co a b = co a c) && decide (co a b = co b c))
    cases h : d3 a b c
    · simp [io]
    · simp [io]; split <;> omega
  unfold TN
  omega
omit hc in
/-- With two colours: at most so many angles at a point. -/
theorem angles_le (hk : k ≤ 2) (hn : n ≤ 17) : AN co n k ≤ n * (((n : Int) - 1) * (n - 1) / 4) := by
  unfold AN
  rw [← sg_const]
  refine sg_le fun a ha => ?_
  have hd := dg_sum co n k hr ha
  have pos : ∀ c : Int, 0 ≤ dg co n c a := fun c => by
    have : (sg n fun _ => 0) ≤ dg co n c a := sg_le fun b _ => (io_range _).1
    rw [sg_zero] at this; exact this
  have key : ∀ i j : Fin 18, ((i.val : Int) * j.val) ≤ ((i.val : Int) + j.val) * (i.val + j.val) / 4 := by decide +kernel
  match k, hk with
  | 0, _ => simp only [pr, sg] at hd ⊢; exact Int.ediv_nonneg (by rw [← hd]; decide) (by decide)
  | 1, _ => 
    simp only [pr, sg] at hd ⊢
    have e : ((n : Int) - 1) = ((n - 1 : Nat) : Int) := by omega
    rw [e, ← Int.natCast_mul]
    omega
  | 2, _ =>
    simp only [pr, sg, Int.zero_add] at hd ⊢
    have p0 := pos ((0 : Nat) : Int)
    have p1 := pos ((1 : Nat) : Int)
    obtain ⟨i, hi⟩ := nat_of p0
    obtain ⟨j, hj⟩ := nat_of p1
    have := key ⟨i, by omega⟩ ⟨j, by omega⟩
    simp only at this
    rw [hi, hj] at hd ⊢
    rw [← hd, Int.mul_comm (j : Int)]
    exact this
end
end Go.Proofs.Ytfoijbdnkkaceaa
