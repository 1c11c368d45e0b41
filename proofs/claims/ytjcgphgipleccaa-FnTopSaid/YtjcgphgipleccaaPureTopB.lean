/- Plain laws: extensions of renumbered colourings, and triangles among six points. No conditions beyond those that each lemma states. -/
import Derived.Test.YtjcgphgipleccaaPureTopA
set_option linter.unusedVariables false
set_option linter.unusedSimpArgs false
namespace Go.Proofs.Ytjcgphgipleccaa
open Go Go.RowKit Ab

theorem mem_exts {K : Nat} {ok : List Int → Nat → Bool} : ∀ (n : Nat) (l e : List Int), e.length = l.length + n → e.take l.length = l → (∀ i, l.length ≤ i → i < e.length → ∃ c : Nat, c < K ∧ e.getD i 0 = (c : Int) ∧ ok (e.take i) c = true) → e ∈ exts K ok n l
  | 0, l, e, h1, h2, _ => by
    rw [exts_zero, List.mem_singleton]
    rw [List.take_of_length_le (by omega)] at h2
    exact h2
  | n + 1, l, e, h1, h2, h3 => by
    obtain ⟨c, c1, c2, c3⟩ := h3 l.length (Nat.le_refl _) (by omega)
    rw [exts]
    refine List.mem_flatMap.2 ⟨c, List.mem_range.2 c1, ?_⟩
    rw [h2] at c3
    rw [c3, if_pos rfl]
    have hlt : l.length < e.length := by omega
    have ht : e.take (l.length + 1) = l ++ [(c : Int)] := by
      rw [List.take_succ_eq_append_getElem hlt, h2]
      have : e[l.length] = (c : Int) := by rw [← c2]; simp [List.getD, hlt]
      rw [this]
    refine mem_exts n _ e (by simp; omega) (by simpa using ht) fun i hi hi2 => h3 i (by simp at hi; omega) hi2
theorem exts_nodup {K : Nat} {ok : List Int → Nat → Bool} : ∀ (n : Nat) (l : List Int), (exts K ok n l).Nodup
  | 0, l => by rw [exts_zero]; simp
  | n + 1, l => by
    rw [exts]
    have key : ∀ m, ((List.range m).flatMap fun c => if ok l c then exts K ok n (l ++ [(c : Int)]) else []).Nodup := by
      intro m
      induction m with
      | zero => simp
      | succ m ih =>
        rw [List.range_succ, List.flatMap_append, List.nodup_append]
        refine ⟨ih, ?_, fun a ha b hb e => ?_⟩
        · simp only [List.flatMap_cons, List.flatMap_nil, List.append_nil]
          split
          · exact exts_nodup n _
          · simp
        · subst e
          obtain ⟨c, hc, h1⟩ := List.mem_flatMap.1 ha
          have hcm := List.mem_range.1 hc
          simp only [List.flatMap_cons, List.flatMap_nil, List.append_nil] at hb
          split at h1
          · split at hb
            · have e1 := (exts_ok n _ a h1).1
              have e2 := (exts_ok n _ a hb).1
              rw [List.length_append, List.length_singleton] at e1 e2
              rw [e1] at e2
              have := List.append_cancel_left e2
              simp at this
              omega
            · simp at hb
          · simp at h1
    exact key K

/-- Without a triangle of one colour that has the new point. -/
def goodE (x : Col) (e : List Int) : Prop := e.length = x.p.toNat ∧ (∀ z ∈ e, 0 ≤ z ∧ z < x.k) ∧ ∀ p i : Nat, p < x.p.toNat → i < x.p.toNat → p ≠ i → e.getD p 0 = e.getD i 0 → x.cc p i ≠ e.getD p 0
theorem cl_one {adj : Int → Int → Bool} (l : List Int) : cl adj 1 l = [] ↔ l = [] := by
  cases l with
  | nil => rw [cl_nil]; simp
  | cons a t => rw [show (1 : Nat) = 0 + 1 from rfl, cl_cons, cl_zero]; simp
theorem mem_EX3 {x : Col} (hx : x.is) {e : List Int} (hk : x.k = 2) : e ∈ EX x [3, 3] ↔ goodE x e := by
  have hp := hx.1
  have hK : x.k.toNat = 2 := by omega
  have hok : ∀ (l : List Int) (c : Nat), c < 2 → (okX x [3, 3] l c = true ↔ ∀ p : Nat, p < l.length → l.getD p 0 = (c : Int) → ¬ (aB x c p l.length = true)) := fun l c hc => by
    unfold okX
    have h3 : (([3, 3] : List Int).getD c 0 - 2).toNat = 1 := by
      have : c = 0 ∨ c = 1 := by omega
      rcases this with rfl | rfl <;> rfl
    rw [h3, decide_eq_true_iff, cl_one]
    unfold nearL
    rw [List.filter_eq_nil_iff]
    constructor
    · intro h p hp he ha
      have := h p (mem_ir.2 (by omega))
      rw [Int.toNat_natCast, decide_eq_true he, ha] at this
      simp at this
    · intro h z hz hb
      have hm := mem_ir.1 hz
      obtain ⟨p, rfl⟩ : ∃ p : Nat, z = p := ⟨z.toNat, by omega⟩
      rw [Bool.and_eq_true, decide_eq_true_eq, Int.toNat_natCast] at hb
      exact h p (by omega) hb.1 hb.2
  constructor
  · intro h
    have hl := EX_len e h
    have hr := exts_range (K := x.k.toNat) (ok := okX x [3, 3]) x.p.toNat [] (fun z hz => by simp at hz) e h
    have hall := (exts_ok _ _ e h).2
    refine ⟨hl, fun z hz => by have := hr z hz; omega, ?_⟩
    have key : ∀ p i : Nat, i < x.p.toNat → p < i → e.getD p 0 = e.getD i 0 → x.cc p i ≠ e.getD p 0 := fun p i hi hpi he hc => by
      obtain ⟨c, c1, c2, c3⟩ := hall i (by simp) (by omega)
      have hle : (e.take i).length = i := by simp; omega
      have hg : (e.take i).getD p 0 = e.getD p 0 := by simp [List.getD, List.getElem?_take, hpi]
      have := (hok (e.take i) c (by omega)).1 c3 p (by omega) (by rw [hg, he, c2])
      rw [hle] at this
      apply this
      unfold aB
      rw [decide_eq_true_eq]
      exact ⟨by omega, by rw [hc, he, c2]⟩
    intro p i hp2 hi hne he
    rcases Nat.lt_or_gt_of_ne hne with w | w
    · exact key p i hi w he
    · rw [cc_comm, he]
      exact key i p hp2 w he.symm
  · rintro ⟨hl, hr, hg⟩
    refine mem_exts _ _ e (by simp [hl]) (by simp) fun i _ hi => ?_
    have hz := hr _ (mem_getD.2 ⟨i, hi, rfl⟩)
    refine ⟨(e.getD i 0).toNat, by omega, by omega, ?_⟩
    have hle : (e.take i).length = i := by simp; omega
    rw [hok _ _ (by omega)]
    intro p hpi he ha
    rw [hle] at hpi
    have hgg : (e.take i).getD p 0 = e.getD p 0 := by simp [List.getD, List.getElem?_take, hpi]
    rw [hgg, show (((e.getD i 0).toNat : Nat) : Int) = e.getD i 0 by omega] at he
    rw [hle, show (((e.getD i 0).toNat : Nat) : Int) = e.getD i 0 by omega] at ha
    unfold aB at ha
    rw [decide_eq_true_eq] at ha
    exact hg p i (by omega) (by omega) (by omega) he (by rw [ha.2, he])

/-- Colours of a new point, for the renumbered ones. -/
def turnE (l : List Int) (N : Nat) (e : List Int) : List Int := mapL N fun q => e.getD (inv l N q) 0
theorem turn_get {l : List Int} {N : Nat} (e : List Int) {q : Nat} (hq : q < N) : (turnE l N e).getD q 0 = e.getD (inv l N q) 0 := mapL_get _ _ _ hq
theorem turn_good {x : Col} (hx : x.is) {l : List Int} (ho : isOrd l x.p) {e : List Int} (h : goodE x e) : goodE (ren x l) (turnE l x.p.toNat e) := by
  have hp := hx.1
  have on := ord_nat hp ho
  have e1 := ren_p x hx ho
  have e2 := ren_k x hx ho
  obtain ⟨h1, h2, h3⟩ := h
  refine ⟨by rw [e1]; exact mapL_length _ _, fun z hz => ?_, fun p i hp2 hi hne he => ?_⟩
  · obtain ⟨q, hq, rfl⟩ := mem_getD.1 hz
    have hqn : q < x.p.toNat := by have := mapL_length x.p.toNat (fun q => e.getD (inv l x.p.toNat q) 0); unfold turnE at hq; omega
    rw [turn_get e hqn, e2]
    exact h2 _ (mem_getD.2 ⟨_, by rw [h1]; exact (inv_ok on hqn).1, rfl⟩)
  · rw [e1] at hp2 hi
    rw [turn_get e hp2, turn_get e hi] at he
    rw [turn_get e hp2]
    obtain ⟨a1, a2⟩ := inv_ok on hp2
    obtain ⟨b1, b2⟩ := inv_ok on hi
    have hne2 : inv l x.p.toNat p ≠ inv l x.p.toNat i := fun q => hne (by rw [q, b2] at a2; omega)
    have := ren_cc hx ho (a := inv l x.p.toNat p) (b := inv l x.p.toNat i) (by omega) (by omega) hne2
    rw [a2, b2] at this
    rw [this]
    exact h3 _ _ a1 b1 hne2 he
theorem EX_le {x : Col} (hx : x.is) (hk : x.k = 2) {l : List Int} (ho : isOrd l x.p) : (EX x [3, 3]).length ≤ (EX (ren x l) [3, 3]).length := by
  have hp := hx.1
  have on := ord_nat hp ho
  have hn : (EX x [3, 3]).Nodup := exts_nodup _ _
  have h1 : ((EX x [3, 3]).map (turnE l x.p.toNat)).Nodup := nodup_map_on _ _ hn fun a ha b hb e => by
    have la := EX_len a ha
    have lb := EX_len b hb
    refine List.ext_getElem (by omega) fun i i1 i2 => ?_
    obtain ⟨q, eq1, hq⟩ := ord_at on (i := i) (by omega)
    have hinv : inv l x.p.toNat q = i := by
      have := inv_ok on hq
      exact ord_ne on this.1 (by omega) (by rw [this.2, eq1])
    have hg : (turnE l x.p.toNat a).getD q 0 = (turnE l x.p.toNat b).getD q 0 := by rw [e]
    rw [turn_get a hq, turn_get b hq, hinv] at hg
    have e1 : a.getD i 0 = a[i] := by simp [List.getD, i1]
    have e2 : b.getD i 0 = b[i] := by simp [List.getD, i2]
    rw [e1, e2] at hg
    exact hg
  have := sub_len _ (EX (ren x l) [3, 3]) h1 fun a ha => by
    obtain ⟨e, he, rfl⟩ := List.mem_map.1 ha
    exact (mem_EX3 (ren_is hx ho) (by rw [ren_k x hx ho]; exact hk)).2 (turn_good hx ho ((mem_EX3 hx hk).1 he))
  rw [List.length_map] at this
  exact this
theorem EX_same {x : Col} (hx : x.is) (hk : x.k = 2) {l : List Int} (ho : isOrd l x.p) : (EX (ren x l) [3, 3]).length = (EX x [3, 3]).length := by
  have h1 := EX_le hx hk ho
  obtain ⟨h2, h3⟩ := ren_ren hx ho
  have h4 := EX_le (ren_is hx ho) (by rw [ren_k x hx ho]; exact hk) h2
  rw [h3] at h4
  omega

/-! ### The program's number of extensions -/
theorem degI_val {k : Nat} (hk : 5000 ≤ k) (x : Col) (sizes : List Int) (hl : sizes.length ≤ 1000) : ∃ o, impl_ExtensionsByDegree k x sizes = some (o, eS x sizes 12) ∧ (eS x sizes 12 = 0 → o = some (DG x sizes)) ∧ (o.getD []).length ≤ 100 ∧ (eS x sizes 12 ≠ 0 → o = none) := by
  unfold impl_ExtensionsByDegree impl_always
  rw [implExt_val hk x sizes hl 12, Option.bind_some]
  by_cases h : eS x sizes 12 = 0
  · obtain ⟨hi, hz, ha, h12⟩ := eS_zero h
    obtain ⟨hp, hk4⟩ := is_range hi
    have hw : w64 (x.p + 1) = x.p + 1 := w64_id (by omega)
    have hdl : (DG x sizes).length = x.p.toNat + 1 := by unfold DG; rw [runD_len]; simp
    refine ⟨some (DG x sizes), ?_, fun _ => rfl, by simp only [Option.getD_some]; omega, fun q => absurd h q⟩
    rw [h, if_neg (by simp), hw, if_pos ⟨by omega, by omega, by omega⟩]
    unfold impl_Colouring_extend_on_ExtensionsByDegree_c1
    obtain ⟨cs', _, _, e, _⟩ := run_ExtensionsByDegree_c1 x (by omega) (by omega) sizes hz cbD (fun s => s.length = x.p.toNat + 1) (fun k cs s h1 h2 h3 => ⟨cbD_val x (by omega) k cs s h1 h2 h3, fun _ => by simp [cbD]; exact h3⟩)
      x.p.toNat (List.replicate 17 0) 0 (List.replicate (x.p + 1).toNat 0) k (by omega) (by simp) (by simp; omega) (by omega)
    rw [e, List.take_zero, show (x.p + 1).toNat = x.p.toNat + 1 by omega]
    rfl
  · exact ⟨none, by rw [if_pos (by simpa using h)], fun q => absurd q h, by simp, fun _ => rfl⟩
theorem countI_val {k : Nat} (hk : 5000 ≤ k) (x : Col) (sizes : List Int) (hl : sizes.length ≤ 1000) : impl_CountExtensions k x sizes = some (if eS x sizes 12 = 0 then ((EX x sizes).length : Int) else 0, eS x sizes 12) := by
  obtain ⟨o, e1, e3, e4, e5⟩ := degI_val hk x sizes hl
  unfold impl_CountExtensions
  rw [e1, Option.bind_some]
  by_cases h : eS x sizes 12 = 0
  · obtain ⟨hi, hz, ha, h12⟩ := eS_zero h
    obtain ⟨hp, hk4⟩ := is_range hi
    obtain rfl := e3 h
    simp only [Option.getD_some] at e4
    dsimp only
    rw [implSum_val _ k (by omega) (by omega), if_pos h, DG_sum (by omega) hk4]; rfl
  · obtain rfl := e5 h
    dsimp only
    rw [implSum_val [] k (by simp; omega) (by simp), if_neg h]; rfl

/-! ### What avoids -/
theorem avoids3 {x : Col} : avoidsP x [3, 3] ↔ gw x 0 < 3 ∧ gw x 1 < 3 := by
  have key : ∀ c : Int, cl (aB x c) 3 (pts x) = [] ↔ gw x c < 3 := fun c => by
    have := gw_cl x c 3
    constructor
    · intro h
      rcases Nat.lt_or_ge (gw x c) 3 with w | w
      · exact w
      · exact absurd h (this.1 w)
    · intro h
      rcases Classical.em (cl (aB x c) 3 (pts x) = []) with w | w
      · exact w
      · have := this.2 w; omega
  rw [← key 0, ← key 1]
  unfold avoidsP
  constructor
  · exact fun h => ⟨h 0 (by simp), h 1 (by simp)⟩
  · rintro ⟨h1, h2⟩ c hc
    have : c = 0 ∨ c = 1 := by simp at hc; omega
    rcases this with rfl | rfl
    · exact h1
    · exact h2
/-- Six points with two colours have a triangle of one colour. -/
theorem five (f : Nat → Bool) : ∃ i j k : Nat, i < j ∧ j < k ∧ k < 5 ∧ f i = f j ∧ f i = f k := by
  have key : ∀ b0 b1 b2 b3 b4 : Bool, (b0 = b1 ∧ b0 = b2) ∨ (b0 = b1 ∧ b0 = b3) ∨ (b0 = b1 ∧ b0 = b4) ∨ (b0 = b2 ∧ b0 = b3) ∨ (b0 = b2 ∧ b0 = b4) ∨ (b0 = b3 ∧ b0 = b4) ∨ (b1 = b2 ∧ b1 = b3) ∨ (b1 = b2 ∧ b1 = b4) ∨ (b1 = b3 ∧ b1 = b4) ∨ (b2 = b3 ∧ b2 = b4) := by decide
  rcases key (f 0) (f 1) (f 2) (f 3) (f 4) with h | h | h | h | h | h | h | h | h | h
  · exact ⟨0, 1, 2, by omega, by omega, by omega, h⟩
  · exact ⟨0, 1, 3, by omega, by omega, by omega, h⟩
  · exact ⟨0, 1, 4, by omega, by omega, by omega, h⟩
  · exact ⟨0, 2, 3, by omega, by omega, by omega, h⟩
  · exact ⟨0, 2, 4, by omega, by omega, by omega, h⟩
  · exact ⟨0, 3, 4, by omega, by omega, by omega, h⟩
  · exact ⟨1, 2, 3, by omega, by omega, by omega, h⟩
  · exact ⟨1, 2, 4, by omega, by omega, by omega, h⟩
  · exact ⟨1, 3, 4, by omega, by omega, by omega, h⟩
  · exact ⟨2, 3, 4, by omega, by omega, by omega, h⟩
theorem six_mono (g : Nat → Nat → Bool) : ∃ a b c : Nat, a < b ∧ b < c ∧ c < 6 ∧ g a b = g a c ∧ g a b = g b c := by
  obtain ⟨i, j, k, h1, h2, h3, h4, h5⟩ := five fun i => g i 5
  have h4 : g i 5 = g j 5 := h4
  have h5 : g i 5 = g k 5 := h5
  by_cases e1 : g i j = g i 5
  · exact ⟨i, j, 5, h1, by omega, by omega, e1, by rw [e1, h4]⟩
  by_cases e2 : g i k = g i 5
  · exact ⟨i, k, 5, by omega, by omega, by omega, e2, by rw [e2, h5]⟩
  by_cases e3 : g j k = g j 5
  · exact ⟨j, k, 5, h2, by omega, by omega, e3, by rw [e3, ← h4, h5]⟩
  refine ⟨i, j, k, h1, h2, by omega, ?_, ?_⟩
  · revert e1 e2
    cases g i j <;> cases g i k <;> cases g i 5 <;> simp
  · rw [← h4] at e3
    revert e1 e3
    cases g i j <;> cases g j k <;> cases g i 5 <;> simp
theorem six_no {x : Col} (hx : x.is) (h6 : x.p = 6) (hk : x.k = 2) : ¬ avoidsP x [3, 3] := by
  intro hav
  have hp : pts x = ir 0 6 := by unfold pts; rw [h6]; rfl
  obtain ⟨a, b, c, ha, hb, hc, m1, m2⟩ := six_mono fun a b => decide (x.cc a b = 1)
  have r1 := is_cc hx (a := a) (b := b) (by omega) (by omega) (by omega)
  have r2 := is_cc hx (a := a) (b := c) (by omega) (by omega) (by omega)
  have r3 := is_cc hx (a := b) (b := c) (by omega) (by omega) (by omega)
  rw [decide_eq_decide] at m1 m2
  have q1 : x.cc a c = x.cc a b := by
    by_cases h : x.cc a b = 1
    · rw [h, m1.1 h]
    · have : ¬ x.cc a c = 1 := fun q => h (m1.2 q)
      omega
  have q2 : x.cc b c = x.cc a b := by
    by_cases h : x.cc a b = 1
    · rw [h, m2.1 h]
    · have : ¬ x.cc b c = 1 := fun q => h (m2.2 q)
      omega
  have hmem : ∀ col : Int, x.cc a b = col → cl (aB x col) 3 (pts x) ≠ [] := fun col e => by
    refine List.ne_nil_of_mem ((mem_cl _ _ _ _).2 ⟨(?_ : [(a : Int), (b : Int), (c : Int)].Sublist _), ?_, rfl⟩)
    · have hs : ([(a : Int), (b : Int), (c : Int)]) = (ir 0 6).filter fun z => decide (z ∈ [(a : Int), (b : Int), (c : Int)]) := by
        refine pw_ext _ _ (by simp; omega) ((ir_pw 0 6).filter _) fun z => ?_
        rw [List.mem_filter, decide_eq_true_eq]
        constructor
        · intro h
          refine ⟨mem_ir.2 ?_, h⟩
          simp at h
          omega
        · exact fun h => h.2
      rw [hp, hs]
      exact List.filter_sublist
    · have e1 : aB x col a b = true := by unfold aB; rw [decide_eq_true_eq]; exact ⟨by omega, e⟩
      have e2 : aB x col a c = true := by unfold aB; rw [decide_eq_true_eq]; exact ⟨by omega, by rw [q1, e]⟩
      have e3 : aB x col b c = true := by unfold aB; rw [decide_eq_true_eq]; exact ⟨by omega, by rw [q2, e]⟩
      simp [e1, e2, e3]
  have : x.cc a b = 0 ∨ x.cc a b = 1 := by omega
  rcases this with h | h
  · exact hmem 0 h (hav 0 (by simp))
  · exact hmem 1 h (hav 1 (by simp))
end Go.Proofs.Ytjcgphgipleccaa
