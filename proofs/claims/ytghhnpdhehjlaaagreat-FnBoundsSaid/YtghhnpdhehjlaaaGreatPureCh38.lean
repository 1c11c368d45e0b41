/- Plain Lean for the laws: the bound by neighbours, and why a colouring that avoids sizes has fewer points. No program in sight. No conditions beyond those that each lemma states. -/
import Derived.Test.YtghhnpdhehjlaaaGreatMat
import Derived.Test.YtghhnpdhehjlaaaGreatSr
import Derived.Test.YtghhnpdhehjlaaaGreatPKit
import Derived.Test.YtghhnpdhehjlaaaGreatPBits
import Derived.Test.YtghhnpdhehjlaaaGreatClqB
import Derived.Test.YtghhnpdhehjlaaaGreatTri
import Derived.Test.YtghhnpdhehjlaaaGreatMk
import Derived.Test.YtghhnpdhehjlaaaGreatGen38
set_option linter.unusedVariables false
set_option linter.unusedSimpArgs false
namespace Go.Proofs.YtghhnpdhehjlaaaGreat
open Go Go.RowKit Ab

theorem srt_perm (l : List Int) : (sorted l).Perm l := List.mergeSort_perm l _
theorem srt_pw (l : List Int) : (sorted l).Pairwise (· ≤ ·) := by
  have := List.pairwise_mergeSort (le := fun x y : Int => decide (x ≤ y)) (fun a b c h1 h2 => by simp at *; omega) (fun a b => by simp; omega) l
  exact this.imp fun h => by simpa using h

/-! ### The bound -/
def rst (s : List Int) : List Int := s.filter fun x => !decide (x = 2)
def dcr (s : List Int) (i : Nat) : List Int := s.set i (s.getD i 0 - 1)
def sm : List Int → Int
  | [] => 0
  | a :: l => a + sm l
def evn (l : List Int) : Bool := l.all fun v => decide (v.tmod 2 = 0)
def ow (f : List Int → Int) (s : List Int) : List Int := (List.range s.length).map fun i => f (sorted (dcr s i))
def tot (f : List Int → Int) (s : List Int) : Int := sm (ow f s) + (2 - s.length) - (if s.length = 2 ∧ evn (ow f s) = true then 1 else 0)
def nbB (f : List Int → Int) (s : List Int) : Int :=
  if s.getD 0 0 = 1 then 1 else if (rst s).length = 0 then 2 else if (rst s).length = 1 then (rst s).getD 0 0 else if (rst s).length < s.length then f (rst s) else tot f s
def nbF : Nat → List Int → Int
  | 0, _ => 0
  | d + 1, s => nbB (nbF d) s
def mz : List Int → Nat
  | [] => 0
  | a :: l => a.toNat + mz l
def ph : List Int → Nat
  | [] => 0
  | a :: l => (a - 2).toNat + ph l
def nb8 (s : List Int) : Int := nbF (mz s + 1) s

structure wfs (s : List Int) : Prop where
  ne : s ≠ []
  len : s.length ≤ 4
  pw : s.Pairwise (· ≤ ·)
  rg : ∀ z ∈ s, 1 ≤ z ∧ z ≤ 8

theorem sm_app : ∀ a b : List Int, sm (a ++ b) = sm a + sm b
  | [], b => by simp [sm]
  | x :: a, b => by simp [sm, sm_app a b]; omega
theorem mz_perm {s t : List Int} (h : s.Perm t) : mz s = mz t := by
  induction h with
  | nil => rfl
  | cons a _ ih => simp [mz, ih]
  | swap a b l => simp [mz]; omega
  | trans _ _ h1 h2 => exact h1.trans h2
theorem ph_perm {s t : List Int} (h : s.Perm t) : ph s = ph t := by
  induction h with
  | nil => rfl
  | cons a _ ih => simp [ph, ih]
  | swap a b l => simp [ph]; omega
  | trans _ _ h1 h2 => exact h1.trans h2
theorem rst_mz : ∀ s : List Int, mz (rst s) + 2 * (s.length - (rst s).length) = mz s ∧ ph (rst s) = ph s ∧ (rst s).length ≤ s.length
  | [] => by simp [rst, mz, ph]
  | a :: s => by
    obtain ⟨h1, h2, h3⟩ := rst_mz s
    by_cases e : a = 2
    · subst e
      have : rst (2 :: s) = rst s := by simp [rst]
      rw [this]
      simp [mz, ph]; omega
    · have : rst (a :: s) = a :: rst s := by simp [rst, e]
      rw [this]
      simp [mz, ph]; omega
theorem dcr_mz : ∀ (s : List Int) (i : Nat), i < s.length → 1 ≤ s.getD i 0 → mz (dcr s i) + 1 = mz s
  | a :: s, 0, _, h => by
    have h' : 1 ≤ a := h
    show (a - 1).toNat + mz s + 1 = a.toNat + mz s
    omega
  | a :: s, i + 1, hi, h => by
    have := dcr_mz s i (by simpa using hi) (by simpa using h)
    have e : dcr (a :: s) (i + 1) = a :: dcr s i := by simp [dcr]
    rw [e, mz, mz]; omega
theorem dcr_ph : ∀ (s : List Int) (i : Nat), i < s.length → 3 ≤ s.getD i 0 → ph (dcr s i) + 1 = ph s
  | a :: s, 0, _, h => by
    have h' : 3 ≤ a := h
    show (a - 1 - 2).toNat + ph s + 1 = (a - 2).toNat + ph s
    omega
  | a :: s, i + 1, hi, h => by
    have := dcr_ph s i (by simpa using hi) (by simpa using h)
    have e : dcr (a :: s) (i + 1) = a :: dcr s i := by simp [dcr]
    rw [e, ph, ph]; omega
theorem dcr_length (s : List Int) (i : Nat) : (dcr s i).length = s.length := by simp [dcr]
theorem getD_mem' {s : List Int} {i : Nat} (h : i < s.length) : s.getD i 0 ∈ s := by
  rw [List.getD_eq_getElem?_getD, List.getElem?_eq_getElem h]; exact List.getElem_mem h

theorem wfs.two {s : List Int} (h : wfs s) (h1 : ¬ s.getD 0 0 = 1) : ∀ z ∈ s, 2 ≤ z := by
  intro z hz
  cases s with
  | nil => cases hz
  | cons a t =>
    have h1' : ¬ a = 1 := h1
    have ha := h.rg a (List.mem_cons_self ..)
    rcases List.mem_cons.1 hz with rfl | hz
    · omega
    · have := (List.pairwise_cons.1 h.pw).1 z hz; omega
theorem wfs.rest {s : List Int} (h : wfs s) (h0 : ¬ (rst s).length = 0) : wfs (rst s) :=
  ⟨fun e => h0 (by rw [e]; rfl), Nat.le_trans (List.length_filter_le _ _) h.len, h.pw.sublist List.filter_sublist, fun z hz => h.rg z (List.mem_filter.1 hz).1⟩
theorem rst_all {s : List Int} (h : ¬ (rst s).length < s.length) : ∀ z ∈ s, z ≠ 2 := by
  have : (rst s).length = s.length := Nat.le_antisymm (List.length_filter_le _ _) (by omega)
  intro z hz e
  have := List.length_filter_eq_length_iff.1 this z hz
  simp [e] at this
theorem wfs.three {s : List Int} (h : wfs s) (h1 : ¬ s.getD 0 0 = 1) (h2 : ¬ (rst s).length < s.length) : ∀ z ∈ s, 3 ≤ z := fun z hz => by
  have := h.two h1 z hz
  have := rst_all h2 z hz
  omega
theorem wfs.step {s : List Int} (h : wfs s) {i : Nat} (hi : i < s.length) (h3 : 3 ≤ s.getD i 0) : wfs (sorted (dcr s i)) ∧ mz (sorted (dcr s i)) + 1 = mz s ∧ ph (sorted (dcr s i)) + 1 = ph s := by
  have hp := srt_perm (dcr s i)
  refine ⟨⟨fun e => ?_, by rw [hp.length_eq, dcr_length]; exact h.len, srt_pw _, fun z hz => ?_⟩, by rw [mz_perm hp]; exact dcr_mz s i hi (by omega), by rw [ph_perm hp]; exact dcr_ph s i hi h3⟩
  · have := hp.length_eq
    rw [e, dcr_length] at this
    simp at this; omega
  · have hz' := hp.mem_iff.1 hz
    rcases List.mem_or_eq_of_mem_set hz' with hm | rfl
    · exact h.rg z hm
    · have := h.rg _ (getD_mem' hi); omega

theorem ow_congr {f g : List Int → Int} {s : List Int} (h : ∀ i, i < s.length → f (sorted (dcr s i)) = g (sorted (dcr s i))) : ow f s = ow g s :=
  List.map_congr_left fun i hi => h i (List.mem_range.1 hi)
theorem nbB_congr {f g : List Int → Int} {s : List Int} (h : wfs s) (hfg : ∀ t, wfs t → mz t < mz s → f t = g t) : nbB f s = nbB g s := by
  unfold nbB
  by_cases h1 : s.getD 0 0 = 1
  · rw [if_pos h1, if_pos h1]
  rw [if_neg h1, if_neg h1]
  by_cases h2 : (rst s).length = 0
  · rw [if_pos h2, if_pos h2]
  rw [if_neg h2, if_neg h2]
  by_cases h3 : (rst s).length = 1
  · rw [if_pos h3, if_pos h3]
  rw [if_neg h3, if_neg h3]
  by_cases h4 : (rst s).length < s.length
  · rw [if_pos h4, if_pos h4]
    have := rst_mz s
    exact hfg _ (h.rest h2) (by omega)
  · rw [if_neg h4, if_neg h4]
    have e : ow f s = ow g s := ow_congr fun i hi => by
      obtain ⟨w1, w2, _⟩ := h.step hi (h.three h1 h4 _ (getD_mem' hi))
      exact hfg _ w1 (by omega)
    unfold tot
    rw [e]
theorem nbF_ind : ∀ (d d' : Nat) (s : List Int), wfs s → mz s < d → mz s < d' → nbF d s = nbF d' s := by
  intro d
  induction d with
  | zero => intro d' s _ h; omega
  | succ d ih =>
    intro d' s hs h1 h2
    obtain ⟨e, rfl⟩ : ∃ e, d' = e + 1 := ⟨d' - 1, by omega⟩
    exact nbB_congr hs fun t ht hm => ih e t ht (by omega) (by omega)
theorem nb8_eq {s : List Int} (h : wfs s) : nb8 s = nbB nb8 s := by
  show nbB (nbF (mz s)) s = _
  exact nbB_congr h fun t ht hm => nbF_ind _ _ t ht (by omega) (by omega)

theorem sm_le : ∀ (l : List Int) (c : Int), (∀ z ∈ l, z ≤ c) → sm l ≤ l.length * c
  | [], c, _ => by simp [sm]
  | a :: l, c, h => by
    have h1 := sm_le l c fun z hz => h z (List.mem_cons_of_mem _ hz)
    have h2 := h a (List.mem_cons_self ..)
    rw [sm, List.length_cons, Int.natCast_add, Int.add_mul]
    simp; omega
theorem sm_ge : ∀ (l : List Int) (c : Int), (∀ z ∈ l, c ≤ z) → l.length * c ≤ sm l
  | [], c, _ => by simp [sm]
  | a :: l, c, h => by
    have h1 := sm_ge l c fun z hz => h z (List.mem_cons_of_mem _ hz)
    have h2 := h a (List.mem_cons_self ..)
    rw [sm, List.length_cons, Int.natCast_add, Int.add_mul]
    simp; omega
theorem sm_even : ∀ (l : List Int), evn l = true → ∃ z, sm l = 2 * z
  | [], _ => ⟨0, rfl⟩
  | a :: l, h => by
    simp [evn] at h
    obtain ⟨z, hz⟩ := sm_even l (by simp [evn]; exact h.2)
    have : a.tmod 2 = 0 := h.1
    have h2 := Int.mul_tdiv_add_tmod a 2
    rw [this] at h2
    refine ⟨a.tdiv 2 + z, ?_⟩
    rw [sm, hz]
    omega
theorem ow_length (f : List Int → Int) (s : List Int) : (ow f s).length = s.length := by simp [ow]
theorem ow_mem {f : List Int → Int} {s : List Int} {z : Int} (h : z ∈ ow f s) : ∃ i, i < s.length ∧ z = f (sorted (dcr s i)) := by
  obtain ⟨i, hi, e⟩ := List.mem_map.1 h
  exact ⟨i, List.mem_range.1 hi, e.symm⟩
theorem nb8_range : ∀ (n : Nat) (s : List Int), mz s = n → wfs s → 1 ≤ nb8 s ∧ nb8 s ≤ 8 * ((4 ^ ph s : Nat) : Int) := by
  intro n
  induction n using Nat.strongRecOn with
  | _ n ih =>
  intro s hn h
  have h4p : 1 ≤ 4 ^ ph s := Nat.pow_pos (by decide)
  rw [nb8_eq h]
  unfold nbB
  split
  · omega
  rename_i h1
  split
  · omega
  rename_i h2
  split
  · rename_i h3
    have := h.rg _ (List.mem_filter.1 (getD_mem' (s := rst s) (i := 0) (by omega))).1
    omega
  rename_i h3
  split
  · rename_i h4
    have hr := rst_mz s
    have := ih _ (by omega) (rst s) rfl (h.rest h2)
    rw [hr.2.1] at this
    exact this
  · rename_i h4
    have hl2 : 2 ≤ s.length := by
      have := (rst_mz s).2.2; omega
    have hl4 := h.len
    have hph : 1 ≤ ph s := by
      obtain ⟨_, _, h5⟩ := h.step (i := 0) (by omega) (h.three h1 h4 _ (getD_mem' (by omega)))
      omega
    have key : ∀ z ∈ ow nb8 s, 1 ≤ z ∧ z ≤ 8 * ((4 ^ (ph s - 1) : Nat) : Int) := fun z hz => by
      obtain ⟨i, hi, rfl⟩ := ow_mem hz
      obtain ⟨w1, w2, w3⟩ := h.step hi (h.three h1 h4 _ (getD_mem' hi))
      have := ih _ (by omega) _ rfl w1
      rw [show ph (sorted (dcr s i)) = ph s - 1 by omega] at this
      exact this
    have e1 := sm_le (ow nb8 s) _ fun z hz => (key z hz).2
    have e2 := sm_ge (ow nb8 s) 1 fun z hz => (key z hz).1
    rw [ow_length] at e1 e2
    have e3 : 4 ^ ph s = 4 * 4 ^ (ph s - 1) := by
      obtain ⟨q, hq⟩ : ∃ q, ph s = q + 1 := ⟨ph s - 1, by omega⟩
      rw [hq, Nat.pow_succ, Nat.add_sub_cancel, Nat.mul_comm]
    have e4 : (s.length : Int) * (8 * ((4 ^ (ph s - 1) : Nat) : Int)) ≤ 4 * (8 * ((4 ^ (ph s - 1) : Nat) : Int)) := Int.mul_le_mul_of_nonneg_right (by omega) (by omega)
    unfold tot
    rw [e3]
    generalize 4 ^ (ph s - 1) = q at *
    constructor
    · split
      · rename_i h5
        obtain ⟨z, hz⟩ := sm_even _ h5.2
        omega
      · omega
    · split <;> omega

theorem srt_of {s t : List Int} (hp : s.Perm t) (ht : t.Pairwise (· ≤ ·)) : sorted s = t :=
  ((srt_perm s).trans hp).eq_of_pairwise (le := fun a b : Int => a ≤ b) (fun a b _ _ h1 h2 => by omega) (srt_pw s) ht
theorem srt_congr {s t : List Int} (hp : s.Perm t) : sorted s = sorted t := srt_of (hp.trans (srt_perm t).symm) (srt_pw t)
def nbv (s : List Int) : Int := nb8 (sorted s)
theorem nbv_perm {s t : List Int} (hp : s.Perm t) : nbv s = nbv t := by unfold nbv; rw [srt_congr hp]
theorem nbv_nil : nbv [] = 2 := by
  unfold nbv
  have : sorted [] = [] := srt_of (.refl _) .nil
  rw [this]; rfl

structure wfu (s : List Int) : Prop where
  ne : s ≠ []
  len : s.length ≤ 4
  rg : ∀ z ∈ s, 1 ≤ z ∧ z ≤ 8
theorem wfu.srt {s : List Int} (h : wfu s) : wfs (sorted s) :=
  ⟨fun e => h.ne (by have := (srt_perm s).length_eq; rw [e] at this; exact List.eq_nil_of_length_eq_zero this.symm), by rw [(srt_perm s).length_eq]; exact h.len, srt_pw s, fun z hz => h.rg z ((srt_perm s).mem_iff.1 hz)⟩
theorem head_mem {s : List Int} (h : s ≠ []) : s.getD 0 0 ∈ s := by
  cases s with
  | nil => exact absurd rfl h
  | cons a t => exact List.mem_cons_self ..
theorem nbv_one {s : List Int} (h : wfu s) (h1 : (1 : Int) ∈ s) : nbv s = 1 := by
  have hw := h.srt
  unfold nbv
  rw [nb8_eq hw]
  unfold nbB
  rw [if_pos]
  have h1' := (srt_perm s).mem_iff.2 h1
  cases e : sorted s with
  | nil => rw [e] at h1'; cases h1'
  | cons a t =>
    rw [e] at h1' hw
    show a = 1
    have ha := hw.rg a (List.mem_cons_self ..)
    rcases List.mem_cons.1 h1' with e1 | h2
    · exact e1.symm
    · have := (List.pairwise_cons.1 hw.pw).1 1 h2; omega
theorem srt_head {s : List Int} (h : wfu s) (h1 : (1 : Int) ∉ s) : ¬ (sorted s).getD 0 0 = 1 := fun e => h1 (by
  have := head_mem h.srt.ne
  rw [e] at this
  exact (srt_perm s).mem_iff.1 this)
theorem rst_perm {s t : List Int} (h : s.Perm t) : (rst s).Perm (rst t) := h.filter _
theorem rst_srt (s : List Int) : rst (sorted s) = sorted (rst s) := (srt_of (rst_perm (srt_perm s)).symm ((srt_pw s).sublist List.filter_sublist)).symm
theorem rst_rst (s : List Int) : rst (rst s) = rst s := List.filter_eq_self.2 fun z hz => (List.mem_filter.1 hz).2
theorem nbv_rst {s : List Int} (h : wfu s) (h1 : (1 : Int) ∉ s) : nbv s = nbv (rst s) := by
  have hw := h.srt
  have hh := srt_head h h1
  have hl : (rst (sorted s)).length = (rst s).length := (rst_perm (srt_perm s)).length_eq
  have e : nbv s = nbB nb8 (sorted s) := nb8_eq hw
  rw [e]
  unfold nbB
  rw [if_neg hh]
  by_cases h2 : (rst (sorted s)).length = 0
  · have hnil : rst s = [] := List.eq_nil_of_length_eq_zero (by omega)
    rw [if_pos h2, hnil, nbv_nil]
  rw [if_neg h2]
  by_cases h3 : (rst (sorted s)).length = 1
  · rw [if_pos h3, rst_srt]
    obtain ⟨m, hm⟩ : ∃ m, rst s = [m] := by
      match h : rst s, (hl ▸ h3 : (rst s).length = 1) with
      | [m], _ => exact ⟨m, rfl⟩
    have hmm : m ∈ rst s := by rw [hm]; simp
    obtain ⟨m1, m2⟩ := List.mem_filter.1 hmm
    have m3 := h.rg m m1
    have m4 : m ≠ 1 := fun e => h1 (e ▸ m1)
    have m5 : m ≠ 2 := by simpa using m2
    have es : sorted [m] = [m] := srt_of (.refl _) (List.pairwise_singleton ..)
    have hw1 : wfs [m] := ⟨by simp, by simp, List.pairwise_singleton .., fun z hz => by rw [List.mem_singleton] at hz; subst hz; exact m3⟩
    unfold nbv
    rw [hm, es, nb8_eq hw1]
    unfold nbB
    have er : rst [m] = [m] := by simp [rst, m5]
    have e1 : ([m] : List Int).getD 0 0 = m := rfl
    rw [er, e1, if_neg m4, if_neg (by simp), if_pos (by simp)]
  rw [if_neg h3]
  by_cases h4 : (rst (sorted s)).length < (sorted s).length
  · rw [if_pos h4, rst_srt]; rfl
  · rw [if_neg h4]
    have : rst s = s := List.filter_eq_self.2 fun z hz => by
      have := rst_all h4 z ((srt_perm s).mem_iff.2 hz)
      simp [this]
    rw [this, e]
    unfold nbB
    rw [if_neg hh, if_neg h2, if_neg h3, if_neg h4]
theorem nbv_range {s : List Int} (h : wfu s) : 1 ≤ nbv s ∧ nbv s ≤ 8 * ((4 ^ ph s : Nat) : Int) := by
  have := nb8_range _ (sorted s) rfl h.srt
  rw [ph_perm (srt_perm s)] at this
  exact this

/-! ### Sums over the places of a list -/
def SS (N : List Int → Int) : List Int → List Int → Int
  | _, [] => 0
  | P, a :: t => N (P ++ (a - 1) :: t) + SS N (P ++ [a]) t
theorem SS_pre {N : List Int → Int} (hN : ∀ s t, s.Perm t → N s = N t) : ∀ (l P P' : List Int), P.Perm P' → SS N P l = SS N P' l
  | [], _, _, _ => rfl
  | a :: t, P, P', h => by
    rw [SS, SS, hN _ _ (List.Perm.append_right _ h), SS_pre hN t _ _ (List.Perm.append_right _ h)]
theorem SS_perm {N : List Int → Int} (hN : ∀ s t, s.Perm t → N s = N t) {l l' : List Int} (h : l.Perm l') : ∀ P, SS N P l = SS N P l' := by
  induction h with
  | nil => intro P; rfl
  | cons a hp ih =>
    intro P
    rw [SS, SS, ih, hN _ _ (List.Perm.append_left P (.cons _ hp))]
  | swap a b l =>
    intro P
    have e1 : N (P ++ (b - 1) :: a :: l) = N ((P ++ [a]) ++ (b - 1) :: l) := hN _ _ (by
      rw [List.append_assoc]; exact List.Perm.append_left P (.swap ..))
    have e2 : N ((P ++ [b]) ++ (a - 1) :: l) = N (P ++ (a - 1) :: b :: l) := hN _ _ (by
      rw [List.append_assoc]; exact List.Perm.append_left P (.swap ..))
    have e3 : SS N (P ++ [b] ++ [a]) l = SS N (P ++ [a] ++ [b]) l := SS_pre hN l _ _ (by
      rw [List.append_assoc, List.append_assoc]; exact List.Perm.append_left P (.swap ..))
    simp only [SS]
    rw [e1, e2, e3]; omega
  | trans _ _ h1 h2 => intro P; rw [h1, h2]
theorem SS_sm (N : List Int → Int) : ∀ (s P : List Int), SS N P s = sm ((List.range s.length).map fun i => N (P ++ dcr s i))
  | [], P => rfl
  | a :: t, P => by
    rw [SS, SS_sm N t, List.length_cons, List.range_succ_eq_map, List.map_cons, sm, List.map_map]
    have e0 : dcr (a :: t) 0 = (a - 1) :: t := rfl
    have e1 : ((fun i => N (P ++ dcr (a :: t) i)) ∘ Nat.succ) = fun i => N (P ++ [a] ++ dcr t i) := by
      funext i
      have : dcr (a :: t) (i + 1) = a :: dcr t i := by simp [dcr]
      show N (P ++ dcr (a :: t) (i + 1)) = _
      rw [this, List.append_assoc]; rfl
    rw [e0, e1]
/-- Three sizes or more, none less than 3. -/
theorem nbv_sum {l : List Int} (h : wfu l) (h3 : ∀ z ∈ l, 3 ≤ z) (hl : 3 ≤ l.length) : nbv l = SS nbv [] l + (2 - l.length) := by
  have hw := h.srt
  have hp := srt_perm l
  have hr : rst l = l := List.filter_eq_self.2 fun z hz => by
    have := h3 z hz
    have : ¬ z = 2 := by omega
    simp [this]
  have hrs : rst (sorted l) = sorted l := by rw [rst_srt, hr]
  have hh := srt_head h (fun h1 => by have := h3 1 h1; omega)
  have e : nbv l = nbB nb8 (sorted l) := nb8_eq hw
  have hle := hp.length_eq
  rw [e]
  unfold nbB
  rw [hrs, if_neg hh, if_neg (by omega), if_neg (by omega), if_neg (by omega)]
  unfold tot
  rw [if_neg (by omega), SS_perm (fun s t => nbv_perm) hp.symm [], SS_sm, hle, Int.sub_zero]
  have : ow nb8 (sorted l) = (List.range (sorted l).length).map fun i => nbv ([] ++ dcr (sorted l) i) := rfl
  rw [this, hle]
/-- Two sizes, none less than 3. -/
theorem nbv_two {a b : Int} (ha : 3 ≤ a ∧ a ≤ 8) (hb : 3 ≤ b ∧ b ≤ 8) : nbv [a, b] = nbv [a - 1, b] + nbv [a, b - 1] - (if (nbv [a - 1, b]).tmod 2 = 0 ∧ (nbv [a, b - 1]).tmod 2 = 0 then 1 else 0) := by
  have main : ∀ a b : Int, (3 ≤ a ∧ a ≤ 8) → (3 ≤ b ∧ b ≤ 8) → a ≤ b → nbv [a, b] = nbv [a - 1, b] + nbv [a, b - 1] - (if (nbv [a - 1, b]).tmod 2 = 0 ∧ (nbv [a, b - 1]).tmod 2 = 0 then 1 else 0) := by
    intro a b ha hb hab
    have es : sorted [a, b] = [a, b] := srt_of (.refl _) (by simp; omega)
    have hw : wfs [a, b] := ⟨by simp, by simp, by simp; omega, fun z hz => by simp at hz; omega⟩
    have hr : rst [a, b] = [a, b] := by
      have h1 : ¬ a = 2 := by omega
      have h2 : ¬ b = 2 := by omega
      simp [rst, h1, h2]
    have e : nbv [a, b] = nbB nb8 [a, b] := by unfold nbv; rw [es]; exact nb8_eq hw
    have e0 : ([a, b] : List Int).getD 0 0 = a := rfl
    rw [e]
    unfold nbB
    rw [hr, e0, if_neg (by omega), if_neg (by simp), if_neg (by simp), if_neg (by simp)]
    unfold tot
    have how : ow nb8 [a, b] = [nbv [a - 1, b], nbv [a, b - 1]] := rfl
    rw [how]
    simp only [sm, evn, List.all_cons, List.all_nil, Bool.and_true, List.length_cons, List.length_nil, Bool.and_eq_true, decide_eq_true_iff, true_and]
    split <;> omega
  rcases Int.le_total a b with h | h
  · exact main a b ha hb h
  · have := main b a hb ha h
    have q1 := nbv_perm (show [a, b].Perm [b, a] from .swap ..)
    have q2 := nbv_perm (show [a - 1, b].Perm [b, a - 1] from .swap ..)
    have q3 := nbv_perm (show [a, b - 1].Perm [b - 1, a] from .swap ..)
    rw [q1, q2, q3, this]
    generalize nbv [b - 1, a] = A
    generalize nbv [b, a - 1] = B
    by_cases h1 : A.tmod 2 = 0 <;> by_cases h2 : B.tmod 2 = 0
    · rw [if_pos ⟨h1, h2⟩, if_pos ⟨h2, h1⟩]; omega
    · rw [if_neg (fun q => h2 q.2), if_neg (fun q => h2 q.1)]; omega
    · rw [if_neg (fun q => h1 q.1), if_neg (fun q => h1 q.2)]; omega
    · rw [if_neg (fun q => h1 q.1), if_neg (fun q => h1 q.2)]; omega

/-- The sum over the sizes above 2. -/
def SR (N : List Int → Int) : List Int → List Int → Int
  | _, [] => 0
  | P, a :: t => (if 2 < a then N (P ++ (a - 1) :: t) else 0) + SR N (P ++ [a]) t
theorem rst_app (a b : List Int) : rst (a ++ b) = rst a ++ rst b := List.filter_append ..
theorem SR_eq : ∀ (s P : List Int), (P ++ s).length ≤ 4 → (∀ z ∈ P ++ s, 2 ≤ z ∧ z ≤ 8) → SR nbv P s = SS nbv (rst P) (rst s)
  | [], P, _, _ => rfl
  | a :: t, P, hl, h => by
    have ha := h a (by simp)
    have ih := SR_eq t (P ++ [a]) (by simpa using hl) (by simpa using h)
    rw [SR, ih, rst_app]
    by_cases e : a = 2
    · subst e
      have e1 : rst (2 :: t) = rst t := by simp [rst]
      have e2 : rst [(2 : Int)] = [] := by simp [rst]
      rw [e1, e2, List.append_nil, if_neg (by omega)]; omega
    · have e1 : rst (a :: t) = a :: rst t := by simp [rst, e]
      have e2 : rst [a] = [a] := by simp [rst, e]
      rw [e1, e2, SS, if_pos (by omega)]
      have hz : ∀ z ∈ P ++ (a - 1) :: t, 2 ≤ z ∧ z ≤ 8 := fun z hz => by
        rcases List.mem_append.1 hz with hz | hz
        · exact h z (by simp [hz])
        · rcases List.mem_cons.1 hz with rfl | hz
          · omega
          · exact h z (by simp [hz])
      have hz2 : ∀ z ∈ rst P ++ (a - 1) :: rst t, 2 ≤ z ∧ z ≤ 8 := fun z hz' => by
        rcases List.mem_append.1 hz' with hz' | hz'
        · exact hz z (by simp [(List.mem_filter.1 hz').1])
        · rcases List.mem_cons.1 hz' with rfl | hz'
          · omega
          · exact hz z (by simp [(List.mem_filter.1 hz').1])
      have w1 : wfu (P ++ (a - 1) :: t) := ⟨by simp, by simp at hl ⊢; omega, fun z q => by have := hz z q; omega⟩
      have hlP := (rst_mz P).2.2
      have hlt := (rst_mz t).2.2
      have w2 : wfu (rst P ++ (a - 1) :: rst t) := ⟨by simp, by simp at hl ⊢; omega, fun z q => by have := hz2 z q; omega⟩
      have n1 : nbv (P ++ (a - 1) :: t) = nbv (rst P ++ (a - 1) :: rst t) := by
        rw [nbv_rst w1 (fun q => by have := hz 1 q; omega), nbv_rst w2 (fun q => by have := hz2 1 q; omega)]
        have e3 : ∀ X : List Int, rst ((a - 1) :: X) = rst [a - 1] ++ rst X := fun X => rst_app [a - 1] X
        rw [rst_app, rst_app, e3 t, e3 (rst t), rst_rst, rst_rst]
      rw [n1]

/-! ### Sums that stop at a limit -/
def cp (v : Int) : Int := if 1000000001 < v then 1000000001 else v
def cs : Int → List Int → Int
  | x, [] => x
  | x, v :: l => cs (cp (x + cp v)) l
theorem cs_eq : ∀ (l : List Int) (x : Int), (∀ v ∈ l, 1 ≤ v) → x ≤ 1000000001 → 1 - (l.length : Int) ≤ x → cs x l = cp (x + sm l)
  | [], x, _, h, _ => by
    rw [cs, sm, cp, if_neg (by omega)]; omega
  | v :: l, x, hv, h, h0 => by
    have hv1 := hv v (List.mem_cons_self ..)
    have hsl := sm_ge l 1 fun z hz => hv z (List.mem_cons_of_mem _ hz)
    rw [List.length_cons] at h0
    have b1 : 1 - (l.length : Int) ≤ cp (x + cp v) ∧ cp (x + cp v) ≤ 1000000001 := by
      unfold cp
      by_cases h1 : 1000000001 < v
      · rw [if_pos h1]; split <;> omega
      · rw [if_neg h1]; split <;> omega
    rw [cs, cs_eq l _ (fun z hz => hv z (List.mem_cons_of_mem _ hz)) b1.2 b1.1, sm]
    unfold cp
    by_cases h1 : 1000000001 < v
    · rw [if_pos h1]
      split <;> split <;> split <;> omega
    · rw [if_neg h1]
      split <;> split <;> split <;> omega

abbrev Rl := Int → Int → Bool
/-- There is a clique of m points among L. -/
def hasK (A : Rl) (m : Nat) (L : List Int) : Prop := ∃ K : List Int, K.length = m ∧ (∀ z ∈ K, z ∈ L) ∧ K.Pairwise (fun a b => A a b = true)
structure RF (F : List (Rl × Int)) (L : List Int) : Prop where
  sy : ∀ X ∈ F, ∀ a b, X.1 a b = X.1 b a
  ir : ∀ X ∈ F, ∀ a, X.1 a a = false
  nd : L.Nodup
  cv : ∀ a ∈ L, ∀ b ∈ L, a ≠ b → ∃ X ∈ F, X.1 a b = true
  av : ∀ X ∈ F, ¬ hasK X.1 X.2.toNat L
/-! ### The small cases -/
/-- A size of 2: no edge of that colour. -/
theorem RF.drop {F : List (Rl × Int)} {L : List Int} (h : RF F L) : RF (F.filter fun X => !decide (X.2 = 2)) L := by
  refine ⟨fun X hX => h.sy X (List.mem_filter.1 hX).1, fun X hX => h.ir X (List.mem_filter.1 hX).1, h.nd, fun a ha b hb e => ?_, fun X hX => h.av X (List.mem_filter.1 hX).1⟩
  obtain ⟨X, h1, h2⟩ := h.cv a ha b hb e
  refine ⟨X, List.mem_filter.2 ⟨h1, ?_⟩, h2⟩
  by_cases e2 : X.2 = 2
  · exfalso
    refine h.av X h1 ⟨[a, b], by rw [e2]; rfl, fun z hz => ?_, by simp [h2]⟩
    simp at hz
    rcases hz with rfl | rfl <;> assumption
  · simp [e2]
theorem map_drop (F : List (Rl × Int)) : (F.filter fun X => !decide (X.2 = 2)).map Prod.snd = rst (F.map Prod.snd) := by
  induction F with
  | nil => rfl
  | cons X F ih => by_cases e : X.2 = 2 <;> simp [rst, e] at ih ⊢ <;> exact ih
/-! ### The neighbours of a point -/
section
variable {F : List (Rl × Int)} {L : List Int} {s : List Int} {v : Nat → Int}
end

theorem in_eq (a b c : Int) : impl_in a b c = decide (b ≤ a ∧ a ≤ c) := by
  unfold impl_in letO
  by_cases h : b ≤ a <;> by_cases h' : a ≤ c <;> simp [h, h']

theorem specIn_eq (a b c : Int) : spec_l01In a b c = decide (b ≤ a ∧ a ≤ c) := by
  unfold spec_l01In letO
  by_cases h : b ≤ a <;> by_cases h' : a ≤ c <;> simp [h, h']

def tE (x : Col) : Int := w64 ((w64 (x.p * (w64 (x.p - 1)))).tdiv 2)

def okE (x : Col) (j : Int) : Prop := (j < tE x → ((x.get j.toNat).toNat : Int) < x.k) ∧ (tE x ≤ j → ((x.get j.toNat).toNat : Int) = 0)

/-- Numbers in range, colours in range on the edges, zero behind them. -/
def Col.is (x : Col) : Prop := (1 ≤ x.p ∧ x.p ≤ 17) ∧ (1 ≤ x.k ∧ x.k ≤ 4) ∧ ∀ j, 0 ≤ j → j < 136 → okE x j

open Classical in
theorem specIs_eq (k : Nat) (h : 137 ≤ k) (x : Col) : spec_l01Is k x = some (decide x.is) := by
  unfold spec_l01Is
  rw [specIn_eq, specIn_eq]
  by_cases hp : 1 ≤ x.p ∧ x.p ≤ 17
  · by_cases hk : 1 ≤ x.k ∧ x.k ≤ 4
    · have := loopAll (f := fun k' i => spec_l01Is_l0 k x k' i) 136 false (okE x) 0
        (fun k' i h0 h1 hq => by
          show spec_l01Is_l0 k x (k' + 1) i = _
          rw [spec_l01Is_l0, w64_succ h0 h1 (by omega)]
          obtain ⟨q1, q2⟩ := hq
          change (i < tE x → _) at q1
          by_cases hc : i < tE x
          · have e1 := q1 hc
            have e2 : ¬ tE x ≤ i := by omega
            have e3 : ¬ x.k ≤ ((x.get i.toNat).toNat : Int) := by omega
            unfold tE at hc e2
            simp [h0, h1, hc, e2, e3]
          · have e1 := q2 (by omega)
            have e2 : tE x ≤ i := by omega
            unfold tE at hc e2
            simp [h0, h1, hc, e2, e1])
        (fun k' i h0 h1 hq => by
          show spec_l01Is_l0 k x (k' + 1) i = _
          rw [spec_l01Is_l0]
          by_cases hc : i < tE x
          · have e2 : ¬ tE x ≤ i := by omega
            have e3 : x.k ≤ ((x.get i.toNat).toNat : Int) := by
              apply Int.not_lt.1
              intro e; exact hq ⟨fun _ => e, fun h => (e2 h).elim⟩
            unfold tE at hc e2
            simp [h0, h1, hc, e2, e3]
          · have e2 : tE x ≤ i := by omega
            have e3 : ¬ ((x.get i.toNat).toNat : Int) = 0 := by
              intro e; exact hq ⟨fun h => (hc h).elim, fun _ => e⟩
            unfold tE at hc e2
            have e5 : ¬ (x.get i.toNat).toNat = 0 := by omega
            simp [h0, h1, hc, e2, e5])
        (fun k' i h1 => by
          show spec_l01Is_l0 k x (k' + 1) i = _
          rw [spec_l01Is_l0]
          have : ¬ i < 136 := by omega
          simp [this]) k 0 (by omega) (by omega)
      simp only [hp, hk, decide_true, Bool.not_true, Bool.false_eq_true, if_false, letO, and_self]
      rw [this]
      by_cases ha : ∀ j, 0 ≤ j → j < 136 → okE x j
      · have : x.is := ⟨hp, hk, ha⟩
        rw [if_pos ha]; simp [this]
      · have : ¬ x.is := fun h => ha h.2.2
        simp only [if_neg ha, this]
        simp
    · have : ¬ x.is := fun h => hk h.2.1
      simp [hp, hk, letO, this]
  · have : ¬ x.is := fun h => hp h.1
    simp [hp, letO, this]

open Classical in
theorem isColouring_eq (k : Nat) (h : 137 ≤ k) (x : Col) : impl_Colouring_isColouring k x = some (decide x.is) := by
  unfold impl_Colouring_isColouring
  rw [in_eq, in_eq]
  by_cases hp : 1 ≤ x.p ∧ x.p ≤ 17
  · by_cases hk : 1 ≤ x.k ∧ x.k ≤ 4
    · have := loopAll (f := fun k' i => impl_Colouring_isColouring_l0 k x k' i) 136 false (okE x) 0
        (fun k' i h0 h1 hq => by
          show impl_Colouring_isColouring_l0 k x (k' + 1) i = _
          rw [impl_Colouring_isColouring_l0, w64_succ h0 h1 (by omega)]
          obtain ⟨q1, q2⟩ := hq
          change (i < tE x → ((x.e.get i.toNat).toNat : Int) < x.k) at q1
          change (tE x ≤ i → ((x.e.get i.toNat).toNat : Int) = 0) at q2
          change (if _ then _ else _) = _
          have hE : impl_Colouring_edges x = tE x := rfl
          by_cases hc : i < tE x
          · have e1 := q1 hc
            have e2 : ¬ tE x ≤ i := by omega
            have e3 : ¬ x.k ≤ ((x.e.get i.toNat).toNat : Int) := by omega
            simp [h0, h1, hc, e2, e3, hE, letO]
          · have e1 := q2 (by omega)
            have e2 : tE x ≤ i := by omega
            have e3 : ¬ x.k ≤ ((x.e.get i.toNat).toNat : Int) := by omega
            rw [e1] at e3
            simp [h0, h1, hc, e2, e1, e3, hE, letO])
        (fun k' i h0 h1 hq => by
          show impl_Colouring_isColouring_l0 k x (k' + 1) i = _
          rw [impl_Colouring_isColouring_l0]
          have hE : impl_Colouring_edges x = tE x := rfl
          by_cases e3 : x.k ≤ ((x.e.get i.toNat).toNat : Int)
          · simp [h0, h1, e3, letO]
          · have e2 : tE x ≤ i := by
              apply Int.not_lt.1
              intro hc; exact hq ⟨fun _ => by change ((x.e.get i.toNat).toNat : Int) < x.k; omega, fun h => by omega⟩
            have e4 : ¬ ((x.e.get i.toNat).toNat : Int) = 0 := by
              intro e; exact hq ⟨fun h => by omega, fun _ => e⟩
            have e5 : ¬ (x.e.get i.toNat).toNat = 0 := by omega
            simp [h0, h1, e2, e3, e5, hE, letO])
        (fun k' i h1 => by
          show impl_Colouring_isColouring_l0 k x (k' + 1) i = _
          rw [impl_Colouring_isColouring_l0]
          have : ¬ i < 136 := by omega
          simp [this]) k 0 (by omega) (by omega)
      simp only [hp, hk, decide_true, Bool.not_true, Bool.false_eq_true, if_false, letO, and_self]
      rw [this]
      by_cases ha : ∀ j, 0 ≤ j → j < 136 → okE x j
      · have : x.is := ⟨hp, hk, ha⟩
        rw [if_pos ha]; simp [this]
      · have : ¬ x.is := fun h => ha h.2.2
        simp only [if_neg ha, this]
        simp
    · have : ¬ x.is := fun h => hk h.2.1
      simp [hp, hk, letO, this]
  · have : ¬ x.is := fun h => hp h.1
    simp [hp, letO, this]

theorem number_eq (i j : Int) (hi : 0 ≤ i ∧ i < 17) (hj : 0 ≤ j ∧ j < 17) : impl_number i j = (eN i.toNat j.toNat : Int) := by
  have : ∀ i, i < 17 → ∀ j, j < 17 → impl_number (i : Nat) (j : Nat) = (eN i j : Int) := by decide +kernel
  have h := this i.toNat (by omega) j.toNat (by omega)
  rwa [Int.toNat_of_nonneg hi.1, Int.toNat_of_nonneg hj.1] at h

theorem edge_eq (i j : Int) (hi : 0 ≤ i ∧ i < 17) (hj : 0 ≤ j ∧ j < 17) : spec_l01Edge i j = (eN i.toNat j.toNat : Int) := by
  have : ∀ i, i < 17 → ∀ j, j < 17 → spec_l01Edge (i : Nat) (j : Nat) = (eN i j : Int) := by decide +kernel
  have h := this i.toNat (by omega) j.toNat (by omega)
  rwa [Int.toNat_of_nonneg hi.1, Int.toNat_of_nonneg hj.1] at h

def Col.cc (x : Col) (i j : Int) : Int := ((x.e.get (eN i.toNat j.toNat)).toNat : Int)

theorem specAt_eq (x : Col) (i j : Int) (h0 : 0 ≤ i) (h : i < j) (hj : 0 ≤ j) (hj' : j < 17) : spec_l01At x i j = some (x.cc i j) := by
  unfold spec_l01At
  rw [edge_eq i j (by omega) (by omega)]
  have := eN_136 (i := i.toNat) (j := j.toNat) (by omega) (by omega) (by omega)
  rw [if_pos (by omega)]
  rfl

theorem getD_app' {α : Type} (l m : List α) (d : α) (i : Nat) (h : l.length ≤ i) : (l ++ m).getD i d = m.getD (i - l.length) d := by
  simp only [List.getD]; rw [List.getElem?_append_right h]

theorem cc_comm (x : Col) (i j : Int) : x.cc i j = x.cc j i := by unfold Col.cc; rw [eN_comm]

theorem implAt_ne (x : Col) (i j : Int) (h0 : 0 ≤ i) (h1 : i < 17) (hj : 0 ≤ j) (hj' : j < 17) (h : i ≠ j) : impl_Colouring_at x i j = some (x.cc i j) := by
  unfold impl_Colouring_at
  rw [number_eq i j (by omega) (by omega)]
  have := eN_136 (i := i.toNat) (j := j.toNat) (by omega) (by omega) (by omega)
  rw [if_pos (by omega)]
  rfl

theorem specAt_ne (x : Col) (i j : Int) (h0 : 0 ≤ i) (h1 : i < 17) (hj : 0 ≤ j) (hj' : j < 17) (h : i ≠ j) : spec_l01At x i j = some (x.cc i j) := by
  unfold spec_l01At
  rw [edge_eq i j ⟨h0, h1⟩ ⟨hj, hj'⟩]
  have := eN_136 (i := i.toNat) (j := j.toNat) (by omega) (by omega) (by omega)
  rw [if_pos ⟨by omega, by omega⟩]
  rfl

theorem like_refl (k : Nat) (l : List Int) (hk : l.length + 1 ≤ k) (hl : (l.length : Int) ≤ 1099511627776) : laws_likeInts k l l = some true := by
  unfold laws_likeInts
  have := loopAll (f := fun k' i => laws_likeInts_l0 l l k' i) (l.length : Int) false (fun _ => True) 0
    (fun k' i h0 h1 _ => by
      show laws_likeInts_l0 l l (k' + 1) i = _
      rw [laws_likeInts_l0, w64_succ h0 h1 (by omega)]
      simp [h0, h1])
    (fun k' i h0 h1 hq => (hq trivial).elim)
    (fun k' i h1 => by
      show laws_likeInts_l0 l l (k' + 1) i = _
      rw [laws_likeInts_l0]
      have : ¬ i < (l.length : Int) := by omega
      simp [this]) k 0 (by omega) (by omega)
  rw [this]; simp

theorem code_cases {k : Nat} (hk : 5000 ≤ k) (x : Col) : (x.is → impl_Colouring_code k x (some true) = some 0 ∧ impl_Colouring_code k x (some false) = some 2) ∧ (¬ x.is → ∀ b, impl_Colouring_code k x (some b) = some 1) := by
  unfold impl_Colouring_code
  rw [isColouring_eq k (by omega)]
  constructor
  · intro h; simp [h]
  · intro h b; simp [h]

def mapL (m : Nat) (f : Nat → Int) : List Int := (List.range m).map f

theorem mapL_length (m : Nat) (f : Nat → Int) : (mapL m f).length = m := by simp [mapL]

theorem mapL_succ (m : Nat) (f : Nat → Int) : mapL (m + 1) f = mapL m f ++ [f m] := by simp [mapL, List.range_succ]

/-- A loop that collects a list. -/
theorem collect (F : Nat → Int → List Int → Option (List Int)) (m : Nat) (f : Nat → Int) (hstep : ∀ (k' i : Nat) (s : List Int), i < m → s.length ≤ i → F (k' + 1) i s = F k' ((i + 1 : Nat) : Int) (s ++ [f i])) (hfin : ∀ (k' : Nat) (s : List Int), F (k' + 1) m s = some s) (k : Nat) (hk : m < k) : F k 0 [] = some (mapL m f) := by
  have key : ∀ (d i k : Nat), m - i = d → i ≤ m → d < k → F k i (mapL i f) = some (mapL m f) := by
    intro d
    induction d with
    | zero =>
      intro i k h1 h2 h3
      obtain ⟨k, rfl⟩ : ∃ q, k = q + 1 := ⟨k - 1, by omega⟩
      obtain rfl : i = m := by omega
      exact hfin k _
    | succ d ih =>
      intro i k h1 h2 h3
      obtain ⟨k, rfl⟩ : ∃ q, k = q + 1 := ⟨k - 1, by omega⟩
      rw [hstep k i _ (by omega) (by rw [mapL_length]; exact Nat.le_refl _), ← mapL_succ]
      exact ih (i + 1) k (by omega) (by omega) (by omega)
  exact key m 0 k (by omega) (by omega) hk

theorem mem_getD {l : List Int} {x : Int} : x ∈ l ↔ ∃ a, a < l.length ∧ l.getD a 0 = x := by
  constructor
  · intro h
    obtain ⟨a, ha, e⟩ := List.getElem_of_mem h
    exact ⟨a, ha, by simp [List.getD, ha, e]⟩
  · rintro ⟨a, ha, rfl⟩
    simp [List.getD, ha]

theorem anyF_val (k : Nat) (l : List Int) (f : Int → Option Bool) (S : Int → Bool) (hf : ∀ z ∈ l, f z = some (S z)) (hk : l.length + 1 ≤ k) (hl : (l.length : Int) ≤ 1099511627776) : slices_ContainsFunc k l f = some (l.any S) := by
  unfold slices_ContainsFunc slices_IndexFunc
  have hget : ∀ i : Nat, i < l.length → l.getD i 0 ∈ l := fun i hi => by
    have e : l.getD i 0 = l[i] := by simp [List.getD, hi]
    rw [e]; exact List.getElem_mem hi
  have := loopI (f := fun k' i (_ : Unit) => slices_IndexFunc_l0 l f k' i) (l.length : Int) 0
    (fun i _ => i ≤ l.length ∧ ∀ a : Nat, (a : Int) < i → S (l.getD a 0) = false) (fun r => (l.any S = false ∧ r = .inl ()) ∨ (l.any S = true ∧ ∃ i : Int, 0 ≤ i ∧ r = .inr i)) ?_ ?_ k 0 () (by omega) (by omega) ⟨by omega, fun a h => by omega⟩
  · obtain ⟨r, e, h⟩ := this
    rw [e]
    rcases h with ⟨h, rfl⟩ | ⟨h, i, hi, rfl⟩
    · simp [h]
    · simp [h, hi]
  · intro k' i _ h0 h1 ⟨_, q2⟩
    obtain ⟨m, rfl⟩ := nat_of h0
    have hm : m < l.length := by omega
    have hj := hf _ (hget m hm)
    cases hc : S (l.getD m 0) with
    | false =>
      left
      rw [hc] at hj
      refine ⟨(), ?_, by omega, fun a ha => ?_⟩
      · show slices_IndexFunc_l0 l _ (k' + 1) m = _
        rw [slices_IndexFunc_l0, w64_succ h0 h1 (by omega)]
        simp only [Int.toNat_natCast, h1, h0, decide_true, if_true, and_self, hj, Option.bind_some, Bool.false_eq_true, if_false]
      · by_cases e : a = m
        · subst e; exact hc
        · exact q2 a (by omega)
    | true =>
      right
      rw [hc] at hj
      refine ⟨.inr m, ?_, .inr ⟨?_, m, h0, rfl⟩⟩
      · show slices_IndexFunc_l0 l _ (k' + 1) m = _
        rw [slices_IndexFunc_l0]
        simp only [Int.toNat_natCast, h1, h0, decide_true, if_true, and_self, hj, Option.bind_some]
      · rw [List.any_eq_true]
        exact ⟨_, hget m hm, hc⟩
  · intro k' i _ h0 h1 ⟨q1, q2⟩
    refine ⟨.inl (), ?_, .inl ⟨?_, rfl⟩⟩
    · show slices_IndexFunc_l0 l _ (k' + 1) i = _
      rw [slices_IndexFunc_l0]
      have : ¬ i < (l.length : Int) := by omega
      simp [this]
    · rw [List.any_eq_false]
      intro z hz
      obtain ⟨a, ha, rfl⟩ := List.getElem_of_mem hz
      have := q2 a (by omega)
      have e : l.getD a 0 = l[a] := by simp [List.getD, ha]
      rw [e] at this
      simp [this]

theorem areIn_val (k : Nat) (l : List Int) (many lo hi : Int) (hk : l.length + 1 ≤ k) (hl : (l.length : Int) ≤ 1099511627776) : impl_areIn k l many lo hi = some (decide ((l.length : Int) = many ∧ ∀ z ∈ l, lo ≤ z ∧ z ≤ hi)) := by
  unfold impl_areIn impl_size
  by_cases h : (l.length : Int) = many
  · rw [decide_eq_true h, if_pos rfl, anyF_val k l (fun a0 => some (impl_areIn_c1 a0 lo hi)) (fun z => !decide (lo ≤ z ∧ z ≤ hi)) (fun z _ => by unfold impl_areIn_c1; rw [in_eq]) hk hl]
    simp only [Option.bind_some]
    congr 1
    rw [Bool.eq_iff_iff, decide_eq_true_iff, Bool.not_eq_true', List.any_eq_false]
    constructor
    · intro q
      exact ⟨h, fun z hz => by simpa using q z hz⟩
    · rintro ⟨_, q⟩ z hz
      simpa using q z hz
  · rw [decide_eq_false h]
    simp [h]

/-! ### Walks that stop -/
def runL {α σ : Type} (cb : α → σ → Option (Bool × σ)) : List α → σ → Option (Bool × σ)
  | [], s => some (true, s)
  | a :: t, s => (cb a s).bind fun r => if r.1 then runL cb t r.2 else some (false, r.2)
theorem runL_app {α σ : Type} (cb : α → σ → Option (Bool × σ)) (b : List α) : ∀ (a : List α) (s : σ), runL cb (a ++ b) s = (runL cb a s).bind fun r => if r.1 then runL cb b r.2 else some (false, r.2)
  | [], s => by simp [runL]
  | x :: a, s => by
    rw [List.cons_append, runL, runL]
    cases h : cb x s with
    | none => rfl
    | some r =>
      simp only [Option.bind_some]
      by_cases hr : r.1 = true
      · rw [if_pos hr, if_pos hr]; exact runL_app cb b a r.2
      · rw [if_neg hr, if_neg hr]; simp

/-! ### Points joined with all of a list -/
def aB (x : Col) (c a b : Int) : Bool := decide (a ≠ b ∧ x.cc a b = c)
theorem aB_comm (x : Col) (c a b : Int) : aB x c a b = aB x c b a := by
  unfold aB
  rw [cc_comm x a b]
  by_cases h : a = b
  · subst h; rfl
  · have : ¬ b = a := fun e => h e.symm
    simp [h, this]
theorem aB_irr (x : Col) (c a : Int) : aB x c a a = false := by simp [aB]
def goesB (x : Col) (c : Int) (l : List Int) (q : Int) : Bool := l.all fun i => aB x c i q
def inR (l : List Int) : Prop := ∀ z ∈ l, 0 ≤ z ∧ z < 17

theorem goes_val (k : Nat) (x : Col) (c : Int) (l : List Int) (q : Int) (hk : l.length + 1 ≤ k) (hl : (l.length : Int) ≤ 1099511627776) (hr : inR l) (hq : 0 ≤ q ∧ q < 17) : impl_Colouring_goesWith k x c l q = some (goesB x c l q) := by
  unfold impl_Colouring_goesWith slices_ContainsFunc slices_IndexFunc
  have hget : ∀ i : Nat, i < l.length → l.getD i 0 ∈ l := fun i hi => by
    have e : l.getD i 0 = l[i] := by simp [List.getD, hi]
    rw [e]; exact List.getElem_mem hi
  have hj : ∀ i : Nat, i < l.length → impl_Colouring_goesWith_c1 (l.getD i 0) x q c = some (!decide (l.getD i 0 ≠ q ∧ x.cc (l.getD i 0) q = c)) := by
    intro i hi
    have hz := hr _ (hget i hi)
    generalize l.getD i 0 = v at hz
    unfold impl_Colouring_goesWith_c1 impl_Colouring_joins
    by_cases e : v = q
    · subst e; simp
    · rw [implAt_ne x v q hz.1 hz.2 hq.1 hq.2 e]
      simp [e]
  have := loopI (f := fun k' i (_ : Unit) => slices_IndexFunc_l0 l (fun a0 => impl_Colouring_goesWith_c1 a0 x q c) k' i) (l.length : Int) 0
    (fun i _ => i ≤ l.length ∧ ∀ a : Nat, (a : Int) < i → (l.getD a 0 ≠ q ∧ x.cc (l.getD a 0) q = c)) (fun r => (goesB x c l q = true ∧ r = .inl ()) ∨ (goesB x c l q = false ∧ ∃ i : Int, 0 ≤ i ∧ r = .inr i)) ?_ ?_ k 0 () (by omega) (by omega) ⟨by omega, fun a h => by omega⟩
  · obtain ⟨r, e, h⟩ := this
    rw [e]
    rcases h with ⟨h, rfl⟩ | ⟨h, i, hi, rfl⟩
    · simp [h]
    · simp [h, hi]
  · intro k' i _ h0 h1 ⟨_, q2⟩
    obtain ⟨m, rfl⟩ := nat_of h0
    have hm : m < l.length := by omega
    by_cases hc : l.getD m 0 ≠ q ∧ x.cc (l.getD m 0) q = c
    · left
      refine ⟨(), ?_, by omega, fun a ha => ?_⟩
      · show slices_IndexFunc_l0 l _ (k' + 1) m = _
        rw [slices_IndexFunc_l0, w64_succ h0 h1 (by omega)]
        have := hj m hm
        rw [decide_eq_true hc] at this
        simp only [Int.toNat_natCast, h1, h0, decide_true, if_true, and_self, this, Option.bind_some, Bool.not_true, Bool.false_eq_true, if_false]
      · by_cases e : a = m
        · subst e; exact hc
        · exact q2 a (by omega)
    · right
      refine ⟨.inr m, ?_, .inr ⟨?_, m, h0, rfl⟩⟩
      · show slices_IndexFunc_l0 l _ (k' + 1) m = _
        rw [slices_IndexFunc_l0]
        have := hj m hm
        rw [decide_eq_false hc] at this
        simp only [Int.toNat_natCast, h1, h0, decide_true, if_true, and_self, this, Option.bind_some, Bool.not_false]
      · unfold goesB
        rw [List.all_eq_false]
        exact ⟨_, hget m hm, by unfold aB; simpa using hc⟩
  · intro k' i _ h0 h1 ⟨q1, q2⟩
    refine ⟨.inl (), ?_, .inl ⟨?_, rfl⟩⟩
    · show slices_IndexFunc_l0 l _ (k' + 1) i = _
      rw [slices_IndexFunc_l0]
      have : ¬ i < (l.length : Int) := by omega
      simp [this]
    · unfold goesB
      rw [List.all_eq_true]
      intro z hz
      obtain ⟨a, ha, rfl⟩ := List.getElem_of_mem hz
      have := q2 a (by omega)
      have e : l.getD a 0 = l[a] := by simp [List.getD, ha]
      rw [e] at this
      exact decide_eq_true this

/-! ### Points with which a clique goes on -/
def fromL (l : List Int) : Int := if 0 < l.length then l.getD (l.length - 1) 0 + 1 else 0
theorem fromL_snoc (l : List Int) (q : Int) : fromL (l ++ [q]) = q + 1 := by
  unfold fromL
  rw [if_pos (by simp)]
  have : (l ++ [q]).length - 1 = l.length := by simp
  rw [this, getD_app' _ _ _ _ (Nat.le_refl _)]
  simp
/-- The points with which a clique goes on. -/
def fr (x : Col) (c : Int) (l : List Int) : List Int := (ir (fromL l).toNat x.p.toNat).filter fun q => goesB x c l q
theorem goesB_snoc (x : Col) (c : Int) (l : List Int) (q z : Int) : goesB x c (l ++ [q]) z = (goesB x c l z && aB x c q z) := by
  unfold goesB; simp
theorem fr_snoc (x : Col) (c : Int) (l : List Int) (q : Nat) : fr x c (l ++ [(q : Int)]) = ((ir (q + 1) x.p.toNat).filter fun z => goesB x c l z).filter (aB x c q) := by
  unfold fr
  rw [fromL_snoc, show ((q : Int) + 1).toNat = q + 1 by omega, List.filter_filter]
  apply List.filter_congr
  intro z _
  rw [goesB_snoc, Bool.and_comm]
theorem fr_nil (x : Col) (c : Int) : fr x c [] = ir 0 x.p.toNat := by
  exact List.filter_eq_self.2 fun a _ => rfl

/-! ### A walk over all cliques, as the program does it -/
theorem clq_run {σ : Type} (x : Col) (hp : 1 ≤ x.p ∧ x.p ≤ 17) (c : Int) (cb : List Int → σ → Option (Bool × σ)) (F : Nat → List Int → σ → Option (Bool × σ)) (L : Nat → List Int → Nat → Int → σ → Option (Sum σ (Bool × σ)))
    (hF : ∀ k l s, l.length ≤ 100 → F (k + 1) l s = (cb l s).bind fun r => if !r.1 then some (false, r.2) else
      ((if decide (0 < (l.length : Int)) then (if 0 ≤ w64 ((l.length : Int) - 1) ∧ w64 ((l.length : Int) - 1) < (l.length : Int) then some (w64 ((l.getD (w64 ((l.length : Int) - 1)).toNat 0) + 1)) else none) else some 0) : Option (Int)).bind fun f => (L k l k f r.2).bind fun os => (match os with | .inl s => some (true, s) | .inr rr => some rr))
    (hL : ∀ k l k0 q s, l.length ≤ 100 → L k l (k0 + 1) q s = (if q < x.p then ((impl_Colouring_goesWith k x c l q).bind fun g => if g then (F k (l ++ [q]) s).bind fun r => if r.1 then L k l k0 (w64 (q + 1)) r.2 else some (.inr (false, r.2)) else L k l k0 (w64 (q + 1)) s) else some (.inl s))) :
    ∀ (d k : Nat) (l : List Int) (s : σ), inR l → l.length + d ≤ 100 → 0 ≤ fromL l → fromL l ≤ x.p → x.p - fromL l < d → d + 100 ≤ k → F k l s = runL cb (([] :: ac (aB x c) (fr x c l)).map (l ++ ·)) s := by
  intro d
  induction d with
  | zero => intro k l s _ _ _ h1 h2; omega
  | succ d ih =>
    intro k l s hr hlen h0 h1 h2 hk
    obtain ⟨k, rfl⟩ : ∃ q, k = q + 1 := ⟨k - 1, by omega⟩
    rw [hF k l s (by omega), List.map_cons, List.append_nil, runL]
    cases hcb : cb l s with
    | none => rfl
    | some r =>
      simp only [Option.bind_some]
      by_cases hr1 : r.1 = true
      · rw [hr1]
        simp only [Bool.not_true, Bool.false_eq_true, if_false, if_true]
        have hfrom : ((if decide (0 < (l.length : Int)) then (if 0 ≤ w64 ((l.length : Int) - 1) ∧ w64 ((l.length : Int) - 1) < (l.length : Int) then some (w64 ((l.getD (w64 ((l.length : Int) - 1)).toNat 0) + 1)) else none) else some 0) : Option (Int)) = some (fromL l) := by
          unfold fromL
          by_cases hp0 : 0 < l.length
          · have e : ((l.length : Int) - 1).toNat = l.length - 1 := by omega
            have hz : 0 ≤ l.getD (l.length - 1) 0 ∧ l.getD (l.length - 1) 0 < 17 := by
              have e2 : l.getD (l.length - 1) 0 = l[l.length - 1] := by simp [List.getD, show l.length - 1 < l.length by omega]
              rw [e2]; exact hr _ (List.getElem_mem _)
            rw [w64_id (n := (l.length : Int) - 1) (by omega), e, if_pos (by simpa using hp0), if_pos (by omega), w64_id (by omega), if_pos hp0]
          · have : ¬ 0 < (l.length : Int) := by omega
            simp [hp0, this]
        rw [hfrom]
        simp only [Option.bind_some]
        have loop : ∀ (k0 : Nat) (q : Nat) (s : σ), (x.p - q).toNat < k0 → fromL l ≤ q → (q : Int) ≤ x.p → L k l k0 q s = (runL cb ((ac (aB x c) ((ir q x.p.toNat).filter fun z => goesB x c l z)).map (l ++ ·)) s).bind fun r => if r.1 then some (.inl r.2) else some (.inr (false, r.2)) := by
          intro k0
          induction k0 with
          | zero => intro q s h; omega
          | succ k0 ihq =>
            intro q s g0 g1 g2
            rw [hL k l k0 q s (by omega)]
            by_cases hq : (q : Int) < x.p
            · rw [if_pos hq, ir_next (by omega), List.filter_cons, goes_val k x c l q (by omega) (by omega) hr (by omega)]
              simp only [Option.bind_some]
              have hnext : ∀ s, L k l k0 (w64 ((q : Int) + 1)) s = (runL cb ((ac (aB x c) ((ir (q + 1) x.p.toNat).filter fun z => goesB x c l z)).map (l ++ ·)) s).bind fun r => if r.1 then some (.inl r.2) else some (.inr (false, r.2)) := fun s => by
                rw [w64_id (by omega)]
                exact ihq (q + 1) s (by omega) (by omega) (by omega)
              by_cases hg : goesB x c l (q : Int) = true
              · have hrec := ih k (l ++ [(q : Int)]) s (fun z hz => by
                  rcases List.mem_append.1 hz with hz | hz
                  · exact hr z hz
                  · simp at hz; omega) (by simp; omega) (by rw [fromL_snoc]; omega) (by rw [fromL_snoc]; omega) (by rw [fromL_snoc]; omega) (by omega)
                rw [hg]
                simp only [if_true]
                rw [hrec, ac_cons, List.map_append, runL_app, List.map_map, fr_snoc]
                have hfun : ((fun x => l ++ x) ∘ fun x => (q : Int) :: x) = fun x => (l ++ [(q : Int)]) ++ x := by
                  funext z; simp
                rw [hfun]
                cases hrun : runL cb (([] :: ac (aB x c) (List.filter (aB x c q) (List.filter (fun z => goesB x c l z) (ir (q + 1) x.p.toNat)))).map fun x => (l ++ [(q : Int)]) ++ x) s with
                | none => rfl
                | some r =>
                  simp only [Option.bind_some]
                  by_cases hr2 : r.1 = true
                  · rw [hr2]
                    simp only [if_true]
                    exact hnext r.2
                  · have hr3 : r.1 = false := by simpa using hr2
                    rw [hr3]
                    simp
              · rw [if_neg hg, if_neg hg]
                exact hnext s
            · rw [ir_end (by omega), if_neg hq]
              simp [ac_nil, runL]
        obtain ⟨f, hf⟩ := nat_of h0
        rw [hf, loop k f r.2 (by omega) (by omega) (by omega)]
        have e : fr x c l = (ir f x.p.toNat).filter fun z => goesB x c l z := by
          unfold fr
          rw [hf]; rfl
        rw [e]
        cases hrun : runL cb ((ac (aB x c) ((ir f x.p.toNat).filter fun z => goesB x c l z)).map (l ++ ·)) r.2 with
        | none => rfl
        | some z =>
          simp only [Option.bind_some]
          by_cases hz : z.1 = true
          · rw [if_pos hz]
            simp only [Option.bind_some]
            rw [← hz]
          · have hz' : z.1 = false := by simpa using hz
            rw [if_neg hz]
            simp only [Option.bind_some]
            rw [← hz']
      · have hr3 : r.1 = false := by simpa using hr1
        rw [hr3]
        simp

/-- All points, and all cliques of a colour. -/
def pts (x : Col) : List Int := ir 0 x.p.toNat
def acl (x : Col) (c : Int) : List (List Int) := [] :: ac (aB x c) (pts x)

theorem clq_all {σ : Type} (x : Col) (hp : 1 ≤ x.p ∧ x.p ≤ 17) (c : Int) (cb : List Int → σ → Option (Bool × σ)) (F : Nat → List Int → σ → Option (Bool × σ)) (L : Nat → List Int → Nat → Int → σ → Option (Sum σ (Bool × σ)))
    (hF : ∀ k l s, l.length ≤ 100 → F (k + 1) l s = (cb l s).bind fun r => if !r.1 then some (false, r.2) else
      ((if decide (0 < (l.length : Int)) then (if 0 ≤ w64 ((l.length : Int) - 1) ∧ w64 ((l.length : Int) - 1) < (l.length : Int) then some (w64 ((l.getD (w64 ((l.length : Int) - 1)).toNat 0) + 1)) else none) else some 0) : Option (Int)).bind fun f => (L k l k f r.2).bind fun os => (match os with | .inl s => some (true, s) | .inr rr => some rr))
    (hL : ∀ k l k0 q s, l.length ≤ 100 → L k l (k0 + 1) q s = (if q < x.p then ((impl_Colouring_goesWith k x c l q).bind fun g => if g then (F k (l ++ [q]) s).bind fun r => if r.1 then L k l k0 (w64 (q + 1)) r.2 else some (.inr (false, r.2)) else L k l k0 (w64 (q + 1)) s) else some (.inl s)))
    (k : Nat) (hk : 120 ≤ k) (s : σ) : F k [] s = runL cb (acl x c) s := by
  rw [clq_run x hp c cb F L hF hL 20 k [] s (fun z hz => by simp at hz) (by simp) (by simp [fromL]) (by simp [fromL]; omega) (by simp [fromL]; omega) (by omega), fr_nil]
  have : (([] :: ac (aB x c) (ir 0 x.p.toNat)).map fun z => ([] : List Int) ++ z) = [] :: ac (aB x c) (ir 0 x.p.toNat) := by
    conv => rhs; rw [← List.map_id ([] :: ac (aB x c) (ir 0 x.p.toNat))]
    rfl
  rw [this]; rfl

/-! ### The first list of some length -/
theorem run_grt : ∀ (Ls : List (List Int)) (s : List Int), runL (fun l s => some (impl_Colouring_greatest_c1 l s)) Ls s = some (true, grt Ls s)
  | [], s => rfl
  | a :: t, s => by
    rw [runL]
    simp only [Option.bind_some]
    have e : impl_Colouring_greatest_c1 a s = (true, if s.length < a.length then a else s) := by
      unfold impl_Colouring_greatest_c1 letO
      by_cases h : s.length < a.length
      · have : (s.length : Int) < a.length := by omega
        simp [h, this]
      · have : ¬ (s.length : Int) < a.length := by omega
        simp [h, this]
    rw [e]
    simp only [if_true]
    rw [run_grt t]; rfl

theorem greatest_eq {k : Nat} (hk : 5000 ≤ k) (x : Col) (hp : 1 ≤ x.p ∧ x.p ≤ 17) (c : Int) : impl_Colouring_greatest k x c = some (grt (acl x c) []) := by
  unfold impl_Colouring_greatest
  have := clq_all x hp c (fun l s => some (impl_Colouring_greatest_c1 l s)) (fun k l s => impl_Colouring_cliques_on_greatest_c1 k x c l s) (fun k l k0 q s => impl_Colouring_cliques_on_greatest_c1_l0 k (impl_Colouring_cliques_on_greatest_c1 k) x c l k0 q s)
    (fun k l s _ => by
      show impl_Colouring_cliques_on_greatest_c1 (k + 1) x c l s = _
      rw [impl_Colouring_cliques_on_greatest_c1, impl_Colouring_cliques_on_greatest_c1_body]
      simp only [Option.bind_some]
      congr 1; congr 1; funext f; congr 1; funext os; cases os <;> rfl) (fun k l k0 q s hl => by
      rw [impl_Colouring_cliques_on_greatest_c1_l0]
      by_cases hq : q < x.p
      · simp only [hq, decide_true, if_true]
        cases impl_Colouring_goesWith k x c l q with
        | none => rfl
        | some g =>
          cases g with
          | false => simp
          | true =>
            have hl1 : l.length ≤ 1099511627776 := by omega
            have hl2 : l.length + 1 ≤ 1099511627776 := by omega
            cases l with
            | nil => 
              simp only [Option.bind_some, if_true, List.isEmpty_nil, List.length_cons, List.length_nil, List.nil_append]
              cases impl_Colouring_cliques_on_greatest_c1 k x c [q] s with
              | none => rfl
              | some r => cases h : r.1 <;> simp [h]
            | cons a t =>
              simp only [Option.bind_some, if_true, List.isEmpty_cons, Bool.false_eq_true, if_false, cloneA, hl1, List.length_singleton, hl2]
              cases impl_Colouring_cliques_on_greatest_c1 k x c ((a :: t) ++ [q]) s with
              | none => rfl
              | some r => cases h : r.1 <;> simp [h]
      · simp [hq]) k (by omega) []
  rw [show impl_Colouring_cliques_on_greatest_c1 k x c [] [] = _ from this, run_grt]
  rfl

def pad (s : List Int) : List Int := splicedL ([0, 0, 0, 0] : List Int) 0 4 s
theorem pad_eq {s : List Int} (h : s.length ≤ 4) : pad s = s ++ ([0, 0, 0, 0] : List Int).drop s.length := by
  unfold pad splicedL
  rw [List.take_zero, List.nil_append, List.take_of_length_le h, Nat.zero_add, Nat.min_eq_left h]
theorem pad_length {s : List Int} (h : s.length ≤ 4) : (pad s).length = 4 := by
  rw [pad_eq h]; simp; omega
theorem pad_back {s : List Int} (h : wfs s) : (pad s).filter (fun x => !decide (x = 0)) = s := by
  rw [pad_eq h.len, List.filter_append]
  have e1 : s.filter (fun x => !decide (x = 0)) = s := List.filter_eq_self.2 fun z hz => by
    have := h.rg z hz
    have : ¬ z = 0 := by omega
    simp [this]
  have e2 : ((([0, 0, 0, 0] : List Int).drop s.length).filter (fun x => !decide (x = 0))) = [] := List.filter_eq_nil_iff.2 fun z hz => by
    have := List.mem_of_mem_drop hz
    simp at this
    simp [this]
  rw [e1, e2, List.append_nil]
theorem pad_ok {s : List Int} (h : wfs s) : okK (.l (pad s)) = true := by
  unfold okK
  rw [List.all_eq_true]
  intro z hz
  rw [pad_eq h.len] at hz
  rcases List.mem_append.1 hz with hz | hz
  · have := h.rg z hz; simp [okI]; omega
  · have := List.mem_of_mem_drop hz
    simp at this
    subst this; decide

/-- What the table holds. -/
def GN (M : List (MK × Int)) : Prop := ∀ key v, lookM M (.l key) = some v → ∃ t, wfs t ∧ pad t = key ∧ v = nb8 t
theorem GN_nil : GN [] := fun u v h => by simp [lookM] at h
theorem GN_put {M : List (MK × Int)} (h : GN M) {s : List Int} (hs : wfs s) : GN ((MK.l (pad s), nb8 s) :: M) := by
  intro t v hv
  unfold lookM at hv
  cases e : (MK.l (pad s)).beq (MK.l t) with
  | true =>
    rw [e, cond_true] at hv
    have := (MK.beq_iff _ _).1 e
    simp at this
    exact ⟨s, hs, this, (Option.some.inj hv).symm⟩
  | false => rw [e, cond_false] at hv; exact h t v hv

def cB : Nat → Nat
  | 0 => 2
  | n + 1 => 2 + 4 * cB n
theorem cB_max : ∀ n, n ≤ 24 → cB n ≤ 2000000000000000 := by decide
theorem cB_two (n : Nat) : 2 ≤ cB n := by cases n <;> simp [cB]
theorem p4_max : ∀ n, n ≤ 24 → 8 * 4 ^ n ≤ 4000000000000000 := by decide
theorem ph_le : ∀ s : List Int, (∀ z ∈ s, 1 ≤ z ∧ z ≤ 8) → ph s ≤ 6 * s.length
  | [], _ => by simp [ph]
  | a :: s, h => by
    have h1 := ph_le s fun z hz => h z (List.mem_cons_of_mem _ hz)
    have h2 := h a (List.mem_cons_self ..)
    rw [ph, List.length_cons]; omega
theorem mz_le : ∀ s : List Int, (∀ z ∈ s, 1 ≤ z ∧ z ≤ 8) → mz s ≤ 8 * s.length
  | [], _ => by simp [mz]
  | a :: s, h => by
    have h1 := mz_le s fun z hz => h z (List.mem_cons_of_mem _ hz)
    have h2 := h a (List.mem_cons_self ..)
    rw [mz, List.length_cons]; omega
theorem wfs.ph24 {s : List Int} (h : wfs s) : ph s ≤ 24 := by
  have := ph_le s h.rg
  have := h.len
  omega
theorem wfs.small {s : List Int} (h : wfs s) : 1 ≤ nb8 s ∧ nb8 s ≤ 4000000000000000 := by
  have h1 := nb8_range _ s rfl h
  have h2 := p4_max _ h.ph24
  generalize 4 ^ ph s = q at *
  omega

def owN (s : List Int) (i : Nat) : List Int := (List.range i).map fun j => nb8 (sorted (dcr s j))
theorem owN_succ (s : List Int) (i : Nat) : owN s (i + 1) = owN s i ++ [nb8 (sorted (dcr s i))] := by simp [owN, List.range_succ]
theorem evn_snoc (l : List Int) (a : Int) : evn (l ++ [a]) = (evn l && decide (a.tmod 2 = 0)) := by simp [evn]
theorem owN_rg {s : List Int} (h : wfs s) (h3 : ∀ z ∈ s, 3 ≤ z) {i : Nat} (hi : i ≤ s.length) : 0 ≤ sm (owN s i) ∧ sm (owN s i) ≤ 16000000000000000 := by
  have hz : ∀ z ∈ owN s i, 1 ≤ z ∧ z ≤ 4000000000000000 := fun z hz => by
    obtain ⟨j, hj, rfl⟩ := List.mem_map.1 hz
    rw [List.mem_range] at hj
    exact (h.step (i := j) (by omega) (h3 _ (getD_mem' (by omega)))).1.small
  have hl : (owN s i).length = i := by simp [owN]
  have h1 := sm_le _ 4000000000000000 fun z h => (hz z h).2
  have h2 := sm_ge _ 0 fun z h => by have := hz z h; omega
  rw [hl] at h1 h2
  have := h.len
  omega

theorem nb_val : ∀ (n : Nat) (s : List Int) (k : Nat) (M : List (MK × Int)), mz s = n → wfs s → n + 50 ≤ k → GN M → M.length + cB (ph s) < 4000000000000000000 →
    ∃ M', impl_neighbourBound k s M = some (nb8 s, M') ∧ GN M' ∧ M'.length + (if (rst s).length < s.length then 0 else 1) ≤ M.length + cB (ph s) := by
  intro n
  induction n using Nat.strongRecOn with
  | _ n ih =>
  intro s k M hn h hk hG hM
  obtain ⟨k, rfl⟩ : ∃ k', k = k' + 1 := ⟨k - 1, by omega⟩
  have hpl := pad_length h.len
  have hpo := pad_ok h
  have hc2 := cB_two (ph s)
  have hl4 := h.len
  have hl1 : 1 ≤ s.length := by
    cases s with
    | nil => exact absurd rfl h.ne
    | cons _ _ => simp
  have hne : s.isEmpty = false := by
    cases s with
    | nil => exact absurd rfl h.ne
    | cons _ _ => rfl
  have hsm := h.small
  have hcB := cB_max _ h.ph24
  rw [impl_neighbourBound]
  unfold impl_neighbourBound_body
  have epad : splicedL ([0, 0, 0, 0] : List Int) 0 4 s = pad s := rfl
  rw [epad, if_pos hpl, if_pos ⟨hpo, hpl⟩]
  cases hlk : lookM M (.l (pad s)) with
  | some v =>
    obtain ⟨t, ht, e1, e2⟩ := hG _ _ hlk
    have : t = s := by rw [← pad_back ht, e1, pad_back h]
    subst this
    simp only [Option.isSome_some, if_true, Option.getD_some]
    exact ⟨M, by rw [e2], hG, by split <;> omega⟩
  | none =>
    have hcl : cloneA s = some s := by unfold cloneA; rw [if_pos (by omega)]
    have hdel : delI s = some (rst s) := by unfold delI; rw [if_pos (by omega)]; rfl
    simp only [Option.isSome_none, Bool.false_eq_true, if_false]
    rw [hne, if_neg (by simp), hcl, Option.bind_some, hdel, Option.bind_some, if_pos (by omega)]
    have e := nb8_eq h
    have hgo : ∀ (X : Option (Int × List (MK × Int))) (M1 : List (MK × Int)), X = some (nb8 s, M1) → GN M1 → M1.length + 1 + (if (rst s).length < s.length then 0 else 1) ≤ M.length + cB (ph s) →
        ∃ M', (X.bind fun s34 => (if (pad s).length = 4 then (if (okK (MK.l (pad s)) = true ∧ (pad s).length = 4) ∧ okI s34.1 = true ∧ s34.2.length < 4611686018427387904 then some (s34.1, ((MK.l (pad s), s34.1) :: s34.2)) else none) else none)) = some (nb8 s, M') ∧ GN M' ∧ M'.length + (if (rst s).length < s.length then 0 else 1) ≤ M.length + cB (ph s) := by
      rintro X M1 rfl hG1 hl
      have hok : okI (nb8 s) = true := by simp [okI]; omega
      have hlt : M1.length < 4611686018427387904 := by omega
      rw [Option.bind_some, if_pos hpl, if_pos ⟨⟨hpo, hpl⟩, hok, hlt⟩]
      exact ⟨_, rfl, GN_put hG1 h, by rw [List.length_cons]; omega⟩
    unfold nbB at e
    by_cases h1 : s.getD 0 0 = 1
    · rw [if_pos h1] at e
      refine hgo _ M ?_ hG (by split <;> omega)
      rw [show (0 : Int).toNat = 0 from rfl, decide_eq_true h1, if_pos rfl, e]
    rw [if_neg h1] at e
    rw [show (0 : Int).toNat = 0 from rfl, decide_eq_false h1, if_neg (by simp)]
    by_cases h2 : (rst s).length = 0
    · rw [if_pos h2] at e
      refine hgo _ M ?_ hG (by split <;> omega)
      rw [decide_eq_true (by omega), if_pos rfl, e]
    rw [if_neg h2] at e
    rw [decide_eq_false (by omega), if_neg (by simp)]
    by_cases h3 : (rst s).length = 1
    · rw [if_pos h3] at e
      refine hgo _ M ?_ hG (by split <;> omega)
      rw [decide_eq_true (by omega), if_pos rfl, if_pos (by omega), e]
    rw [if_neg h3] at e
    rw [decide_eq_false (by omega), if_neg (by simp)]
    have hr := rst_mz s
    by_cases h4 : (rst s).length < s.length
    · rw [if_pos h4] at e
      have hrr : ¬ (rst (rst s)).length < (rst s).length := by
        have : rst (rst s) = rst s := List.filter_eq_self.2 fun z hz => (List.mem_filter.1 hz).2
        rw [this]; omega
      obtain ⟨M1, e1, hG1, hl1'⟩ := ih (mz (rst s)) (by omega) (rst s) k M rfl (h.rest h2) (by omega) hG (by rw [hr.2.1]; exact hM)
      rw [if_neg hrr, hr.2.1] at hl1'
      refine hgo _ M1 ?_ hG1 (by rw [if_pos h4]; omega)
      rw [decide_eq_true (by omega), if_pos rfl, e1, Option.bind_some, e]
    · rw [if_neg h4] at e
      rw [decide_eq_false (by omega), if_neg (by simp)]
      have h33 := h.three h1 h4
      have hl2 : 2 ≤ s.length := by omega
      have hph : 1 ≤ ph s := by
        obtain ⟨_, _, h5⟩ := h.step (i := 0) (by omega) (h33 _ (getD_mem' (by omega)))
        omega
      have hcs : cB (ph s) = 2 + 4 * cB (ph s - 1) := by
        obtain ⟨q, hq⟩ : ∃ q, ph s = q + 1 := ⟨ph s - 1, by omega⟩
        rw [hq]; rfl
      obtain ⟨res, f1, M1, hres, hG1, hM1⟩ := loopI (fun k' i (σ : Int × Bool × List (MK × Int)) => impl_neighbourBound_l0 (impl_neighbourBound k) s k' σ.1 σ.2.1 i σ.2.2) (s.length : Int) 0
        (fun i σ => ∃ im : Nat, i = im ∧ im ≤ s.length ∧ σ.1 = sm (owN s im) ∧ σ.2.1 = evn (owN s im) ∧ GN σ.2.2 ∧ σ.2.2.length ≤ M.length + im * cB (ph s - 1))
        (fun r => ∃ M1, r = (sm (owN s s.length), evn (owN s s.length), M1) ∧ GN M1 ∧ M1.length ≤ M.length + s.length * cB (ph s - 1))
        (fun k' i σ h0 hb hI => by
          obtain ⟨im, rfl, him, e1, e2, hGσ, hlσ⟩ := hI
          left
          have hi : im < s.length := by omega
          obtain ⟨w1, w2, w3⟩ := h.step hi (h33 _ (getD_mem' hi))
          have hr0 := owN_rg h h33 (i := im) (by omega)
          have hw := w1.small
          have hg3 := h.rg _ (getD_mem' hi)
          have hmul : im * cB (ph s - 1) + cB (ph s - 1) = (im + 1) * cB (ph s - 1) := by rw [Nat.succ_mul]
          have hmul2 : (im + 1) * cB (ph s - 1) ≤ 4 * cB (ph s - 1) := Nat.mul_le_mul_right _ (by omega)
          have hwi : w64 ((im : Int) + 1) = ((im : Int) + 1) := w64_id (by omega)
          obtain ⟨M1, e3, hG1, hl1'⟩ := ih (mz (sorted (dcr s im))) (by omega) (sorted (dcr s im)) k σ.2.2 rfl w1 (by omega) hGσ (by rw [show ph (sorted (dcr s im)) = ph s - 1 by omega]; omega)
          rw [show ph (sorted (dcr s im)) = ph s - 1 by omega] at hl1'
          have hdc : s.set (im : Int).toNat (w64 ((s.getD (im : Int).toNat 0) - 1)) = dcr s im := by
            rw [Int.toNat_natCast, w64_id (by omega)]; rfl
          have hso : sortI (dcr s im) = some (sorted (dcr s im)) := by
            unfold sortI; rw [if_pos (by rw [dcr_length]; omega)]
          rw [impl_neighbourBound_l0, decide_eq_true hb, if_pos rfl, hne, if_neg (by simp), hcl, Option.bind_some, if_pos (by omega), if_pos (by omega), hdc, hso, Option.bind_some, e3]
          simp only [Option.bind_some]
          rw [e1, e2, hwi, w64_id (by omega)]
          refine ⟨(sm (owN s (im + 1)), evn (owN s (im + 1)), M1), ?_, im + 1, by omega, by omega, rfl, rfl, hG1, by
            have : M1.length ≤ σ.2.2.length + cB (ph s - 1) := by omega
            simp only; omega⟩
          rw [owN_succ, sm_app, evn_snoc]
          cases evn (owN s im) <;> simp [sm])
        (fun k' i σ h0 hb hI => by
          obtain ⟨im, rfl, him, e1, e2, hGσ, hlσ⟩ := hI
          have : im = s.length := by omega
          subst this
          rw [impl_neighbourBound_l0, decide_eq_false (by omega), if_neg (by simp)]
          exact ⟨_, rfl, σ.2.2, by rw [e1, e2], hGσ, hlσ⟩)
        k 0 (0, true, M) (by omega) (by omega) ⟨0, rfl, by omega, rfl, rfl, hG, by simp⟩
      try simp only at f1
      rw [hres] at f1
      have how : owN s s.length = ow nb8 s := rfl
      have hr0 := owN_rg h h33 (i := s.length) (by omega)
      have hmul3 : s.length * cB (ph s - 1) ≤ 4 * cB (ph s - 1) := Nat.mul_le_mul_right _ hl4
      refine hgo _ M1 ?_ hG1 (by rw [if_neg h4]; omega)
      rw [f1, Option.bind_some]
      unfold tot at e
      rw [← how] at e
      have hw1 : w64 (2 - impl_size s) = 2 - s.length := by unfold impl_size; rw [w64_id (by omega)]
      simp only [letO]
      rw [hw1, w64_id (n := sm (owN s s.length) + (2 - (s.length : Int))) (by omega)]
      by_cases h5 : s.length = 2 ∧ evn (owN s s.length) = true
      · rw [if_pos h5] at e
        rw [decide_eq_true (by omega), if_pos rfl, h5.2, if_pos rfl, w64_id (by omega), e]
      · rw [if_neg h5, Int.sub_zero] at e
        have : (if decide ((s.length : Int) = 2) = true then evn (owN s s.length) else false) = false := by
          by_cases h6 : s.length = 2
          · rw [decide_eq_true (by omega), if_pos rfl]
            cases h7 : evn (owN s s.length)
            · rfl
            · exact absurd ⟨h6, h7⟩ h5
          · rw [decide_eq_false (by omega), if_neg (by simp)]
        rw [this, if_neg (by simp), e]

/-- The program's bound by neighbours. -/
theorem implNb_val {k : Nat} (hk : 5000 ≤ k) (sizes : List Int) (hl : sizes.length ≤ 1000) : impl_NeighbourBound k sizes = some (if (1 ≤ sizes.length ∧ sizes.length ≤ 4) ∧ ∀ z ∈ sizes, 1 ≤ z ∧ z ≤ 8 then (if 1000000000 < nb8 (sorted sizes) then (0, 3) else (nb8 (sorted sizes), 0)) else (0, 2)) := by
  unfold impl_NeighbourBound impl_size
  rw [in_eq, areIn_val k sizes _ 1 8 (by omega) (by omega)]
  by_cases h1 : 1 ≤ sizes.length ∧ sizes.length ≤ 4
  · rw [decide_eq_true (show 1 ≤ (sizes.length : Int) ∧ (sizes.length : Int) ≤ 4 by omega)]
    by_cases h2 : ∀ z ∈ sizes, 1 ≤ z ∧ z ≤ 8
    · have hp := srt_perm sizes
      have hw : wfs (sorted sizes) := ⟨fun e => by
        have := hp.length_eq
        rw [e] at this
        simp at this; omega, by rw [hp.length_eq]; exact h1.2, srt_pw _, fun z hz => h2 z (hp.mem_iff.1 hz)⟩
      have hmz := mz_le _ hw.rg
      have hwl := hw.len
      have hcB := cB_max _ hw.ph24
      obtain ⟨M', e1, _, _⟩ := nb_val _ (sorted sizes) k [] rfl hw (by omega) GN_nil (by simp; omega)
      have hso : sortedI sizes = some (sorted sizes) := by unfold sortedI; rw [if_pos (by omega)]
      have hcc : (1 ≤ sizes.length ∧ sizes.length ≤ 4) ∧ ∀ z ∈ sizes, 1 ≤ z ∧ z ≤ 8 := ⟨h1, h2⟩
      have hdd : (sizes.length : Int) = (sizes.length : Int) ∧ ∀ z ∈ sizes, 1 ≤ z ∧ z ≤ 8 := ⟨rfl, h2⟩
      rw [if_pos hcc, decide_eq_true hdd]
      simp only [Bool.not_true, Bool.false_eq_true, if_false, Option.bind_some]
      rw [hso, Option.bind_some, e1, Option.bind_some]
      by_cases h3 : 1000000000 < nb8 (sorted sizes)
      · rw [decide_eq_true h3, if_pos rfl, if_pos h3]
      · rw [decide_eq_false h3, if_neg (by simp), if_neg h3]
    · have hcc : ¬ ((1 ≤ sizes.length ∧ sizes.length ≤ 4) ∧ ∀ z ∈ sizes, 1 ≤ z ∧ z ≤ 8) := fun h => h2 h.2
      have hdd : ¬ ((sizes.length : Int) = (sizes.length : Int) ∧ ∀ z ∈ sizes, 1 ≤ z ∧ z ≤ 8) := fun h => h2 h.2
      rw [if_neg hcc, decide_eq_false hdd]
      rfl
  · have hcc : ¬ ((1 ≤ sizes.length ∧ sizes.length ≤ 4) ∧ ∀ z ∈ sizes, 1 ≤ z ∧ z ≤ 8) := fun h => h1 h.1
    rw [if_neg hcc, decide_eq_false (show ¬ (1 ≤ (sizes.length : Int) ∧ (sizes.length : Int) ≤ 4) by omega)]
    rfl

/-! ### Codes -/
def cdn : List Int → Nat
  | [] => 0
  | a :: t => a.toNat * 9 ^ t.length + cdn t
theorem cdn_snoc : ∀ (t : List Int) (a : Int), cdn (t ++ [a]) = cdn t * 9 + a.toNat
  | [], a => by simp [cdn]
  | b :: t, a => by
    rw [List.cons_append, cdn, cdn, cdn_snoc t a, List.length_append, List.length_singleton, Nat.pow_succ, Nat.add_mul, Nat.mul_assoc]
    omega
theorem cdn_lt : ∀ t : List Int, (∀ z ∈ t, 0 ≤ z ∧ z ≤ 8) → cdn t < 9 ^ t.length
  | [], _ => by simp [cdn]
  | a :: t, h => by
    have h1 := cdn_lt t fun z hz => h z (List.mem_cons_of_mem _ hz)
    have h2 := h a (List.mem_cons_self ..)
    rw [cdn, List.length_cons, Nat.pow_succ]
    have : a.toNat * 9 ^ t.length ≤ 8 * 9 ^ t.length := Nat.mul_le_mul_right _ (by omega)
    omega
theorem cdn_dcr : ∀ (s : List Int) (i : Nat), i < s.length → 1 ≤ s.getD i 0 → cdn (dcr s i) + 9 ^ (s.length - 1 - i) = cdn s
  | a :: t, 0, _, h => by
    have h' : 1 ≤ a := h
    have e : dcr (a :: t) 0 = (a - 1) :: t := rfl
    obtain ⟨n, hn⟩ : ∃ n : Nat, a.toNat = n + 1 := ⟨a.toNat - 1, by omega⟩
    rw [e, cdn, cdn, hn, show (a - 1).toNat = n by omega, Nat.succ_mul, List.length_cons, show t.length + 1 - 1 - 0 = t.length by omega]
    omega
  | a :: t, i + 1, hi, h => by
    have ih := cdn_dcr t i (by simpa using hi) (by simpa using h)
    have e : dcr (a :: t) (i + 1) = a :: dcr t i := by simp [dcr]
    rw [e, cdn, cdn, dcr_length, List.length_cons, show t.length + 1 - 1 - (i + 1) = t.length - 1 - i by omega]
    omega
def digs : Nat → Nat → List Int
  | 0, _ => []
  | j + 1, r => digs j (r / 9) ++ [((r % 9 : Nat) : Int)]
theorem digs_length : ∀ j r, (digs j r).length = j
  | 0, _ => rfl
  | j + 1, r => by rw [digs, List.length_append, digs_length j]; rfl
theorem digs_cdn : ∀ (j r : Nat), r / 9 ^ j = 0 → cdn (digs j r) = r
  | 0, r, h => by simp at h; simp [digs, cdn, h]
  | j + 1, r, h => by
    have h1 : r / 9 / 9 ^ j = 0 := by
      rw [Nat.div_div_eq_div_mul, Nat.mul_comm, ← Nat.pow_succ]; exact h
    rw [digs, cdn_snoc, digs_cdn j _ h1, Int.toNat_natCast]; omega
theorem cdn_digs : ∀ (j : Nat) (t : List Int), t.length = j → (∀ z ∈ t, 0 ≤ z ∧ z ≤ 8) → digs j (cdn t) = t
  | 0, t, h, _ => by rw [List.eq_nil_of_length_eq_zero h]; rfl
  | j + 1, t, h, hr => by
    obtain ⟨t', a, rfl⟩ : ∃ t' a, t = t' ++ [a] := ⟨t.dropLast, t.getLast (by intro e; rw [e] at h; cases h), (List.dropLast_concat_getLast _).symm⟩
    have ha := hr a (by simp)
    rw [cdn_snoc, digs, show (cdn t' * 9 + a.toNat) / 9 = cdn t' by omega, cdn_digs j t' (by simpa using h) (fun z hz => hr z (by simp [hz])), show (((cdn t' * 9 + a.toNat) % 9 : Nat) : Int) = a by omega]
theorem take_snoc {s : List Int} {i : Nat} (h : i < s.length) : s.take (i + 1) = s.take i ++ [s.getD i 0] := by
  rw [List.take_add_one, List.getElem?_eq_getElem h, List.getD_eq_getElem?_getD, List.getElem?_eq_getElem h]; rfl
theorem pow9 {n : Nat} (h : n ≤ 4) : 9 ^ n ≤ 6561 := (Nat.pow_le_pow_right (by decide) h : 9 ^ n ≤ 9 ^ 4)
theorem cdn_take_lt {s : List Int} (hr : ∀ z ∈ s, 1 ≤ z ∧ z ≤ 8) (hl : s.length ≤ 4) (i : Nat) : cdn (s.take i) < 6561 := by
  have h1 := cdn_lt (s.take i) fun z hz => by have := hr z (List.mem_of_mem_take hz); omega
  have h2 := pow9 (n := (s.take i).length) (by rw [List.length_take]; omega)
  omega
theorem rst_snoc (s : List Int) (a : Int) : rst (s ++ [a]) = if a = 2 then rst s else rst s ++ [a] := by
  rw [rst_app]
  by_cases h : a = 2 <;> simp [rst, h]

/-! ### Two sizes at most -/
theorem scan_val {k : Nat} (hk : 100 ≤ k) {s : List Int} (hr : ∀ z ∈ s, 1 ≤ z ∧ z ≤ 8) (hl : s.length ≤ 4) : spec_l08Bound_l0 s k 0 ([] : List Int) = some (if (1 : Int) ∈ s then .inr 1 else .inl (rst s)) := by
  obtain ⟨r, h1, rfl⟩ := loopI (fun k' i (L : List Int) => spec_l08Bound_l0 s k' i L) (s.length : Int) 0
    (fun i L => ∃ n : Nat, i = n ∧ n ≤ s.length ∧ L = rst (s.take n) ∧ (1 : Int) ∉ s.take n) (fun r => r = if (1 : Int) ∈ s then .inr 1 else .inl (rst s))
    (fun k' i L h0 hi hI => by
      obtain ⟨n, rfl, hn, rfl, h1⟩ := hI
      have hns : n < s.length := by omega
      have hg := hr _ (getD_mem' hns)
      have hw : w64 ((n : Int) + 1) = ((n : Int) + 1) := w64_id (by omega)
      have hrl : (rst (s.take n)).length ≤ 4 := by
        have := (rst_mz (s.take n)).2.2
        rw [List.length_take] at this; omega
      rw [spec_l08Bound_l0, decide_eq_true hi, if_pos rfl, if_pos (by omega), Int.toNat_natCast]
      by_cases e1 : s.getD n 0 = 1
      · right
        refine ⟨.inr 1, ?_, ?_⟩
        · rw [decide_eq_true e1]; rfl
        · rw [if_pos]; rw [← e1]; exact getD_mem' hns
      · left
        refine ⟨rst (s.take (n + 1)), ?_, n + 1, by omega, by omega, rfl, ?_⟩
        · rw [decide_eq_false e1, if_neg (by simp), if_pos (by omega), take_snoc hns, rst_snoc]
          by_cases e2 : s.getD n 0 = 2
          · rw [if_pos e2, decide_eq_false (by omega), if_neg (by simp), hw]; rfl
          · rw [if_neg e2, decide_eq_true (by omega), if_pos rfl, if_pos (by omega), if_pos (by simp; omega), hw]; rfl
        · rw [take_snoc hns]
          intro hm
          rcases List.mem_append.1 hm with hm | hm
          · exact h1 hm
          · rw [List.mem_singleton] at hm; exact e1 hm.symm)
    (fun k' i L h0 hi hI => by
      obtain ⟨n, rfl, hn, rfl, h1⟩ := hI
      have : n = s.length := by omega
      subst this
      rw [spec_l08Bound_l0, decide_eq_false (by omega), if_neg (by simp)]
      rw [List.take_length] at h1 ⊢
      exact ⟨_, rfl, by rw [if_neg h1]⟩)
    k 0 [] (by omega) (by omega) ⟨0, rfl, by omega, by simp [rst], by simp⟩
  exact h1
theorem two_small {s : List Int} (h : wfu s) (hl : s.length ≤ 2) : 1 ≤ nbv s ∧ nbv s ≤ 134217728 := by
  have h1 := nbv_range h
  have h2 := ph_le s h.rg
  have h3 : 4 ^ ph s ≤ 4 ^ 12 := Nat.pow_le_pow_right (by decide) (by omega)
  have h4 : (4 : Nat) ^ 12 = 16777216 := by decide
  rw [h4] at h3
  generalize 4 ^ ph s = q at *
  omega
theorem sb_val : ∀ (n : Nat) (s : List Int) (k : Nat), mz s = n → s.length ≤ 2 → (∀ z ∈ s, 1 ≤ z ∧ z ≤ 8) → n + 200 ≤ k → spec_l08Bound k s = some (nbv s) := by
  intro n
  induction n using Nat.strongRecOn with
  | _ n ih =>
  intro s k hn hl hr hk
  obtain ⟨k, rfl⟩ : ∃ q, k = q + 1 := ⟨k - 1, by omega⟩
  rw [spec_l08Bound]
  unfold spec_l08Bound_body
  rw [scan_val (by omega) hr (by omega), Option.bind_some]
  by_cases hs : s = []
  · subst hs
    rw [nbv_nil]; rfl
  have hw : wfu s := ⟨hs, by omega, hr⟩
  by_cases h1 : (1 : Int) ∈ s
  · rw [if_pos h1, nbv_one hw h1]
  rw [if_neg h1, nbv_rst hw h1]
  have hrl := (rst_mz s).2.2
  have hr3 : ∀ z ∈ rst s, 3 ≤ z ∧ z ≤ 8 := fun z hz => by
    obtain ⟨z1, z2⟩ := List.mem_filter.1 hz
    have z3 := hr z z1
    have z4 : z ≠ 1 := fun e => h1 (e ▸ z1)
    have z5 : z ≠ 2 := by simpa using z2
    omega
  have hmz : mz (rst s) ≤ mz s := by have := (rst_mz s).1; omega
  have hrl2 : (rst s).length ≤ 2 := by omega
  generalize rst s = t at *
  simp only
  match t, hrl2 with
  | [], _ => rw [nbv_nil]; rfl
  | [m], _ =>
    have hm := hr3 m (by simp)
    have e : nbv [m] = m := by
      have es : sorted [m] = [m] := srt_of (.refl _) (List.pairwise_singleton ..)
      have hw1 : wfs [m] := ⟨by simp, by simp, List.pairwise_singleton .., fun z hz => by rw [List.mem_singleton] at hz; subst hz; omega⟩
      unfold nbv
      rw [es, nb8_eq hw1]
      unfold nbB
      have h2 : ¬ m = 2 := by omega
      have er : rst [m] = [m] := by simp [rst, h2]
      have e1 : ([m] : List Int).getD 0 0 = m := rfl
      rw [er, e1, if_neg (by omega), if_neg (by simp), if_pos (by simp)]
    rw [e]; rfl
  | [a, b], _ =>
    have ha := hr3 a (by simp)
    have hb := hr3 b (by simp)
    have hmm : mz [a, b] = a.toNat + (b.toNat + 0) := rfl
    obtain ⟨k, rfl⟩ : ∃ q, k = q + 3 := ⟨k - 3, by omega⟩
    have r1 := ih (mz [a - 1, b]) (by simp [mz] at hmz ⊢; omega) [a - 1, b] (k + 3) rfl (by simp) (fun z hz => by simp at hz; omega) (by simp [mz] at hmz ⊢; omega)
    have r2 := ih (mz [a, b - 1]) (by simp [mz] at hmz ⊢; omega) [a, b - 1] (k + 3) rfl (by simp) (fun z hz => by simp at hz; omega) (by simp [mz] at hmz ⊢; omega)
    have s1 := two_small (s := [a - 1, b]) ⟨by simp, by simp, fun z hz => by simp at hz; omega⟩ (by simp)
    have s2 := two_small (s := [a, b - 1]) ⟨by simp, by simp, fun z hz => by simp at hz; omega⟩ (by simp)
    have hown : spec_l01Own [a, b] = some [a, b] := by
      unfold spec_l01Own; rw [if_pos (by simp)]; rfl
    have wa : w64 (a - 1) = a - 1 := w64_id (by omega)
    have wb : w64 (b - 1) = b - 1 := w64_id (by omega)
    have hlen : (([a, b] : List Int).length : Int) = 2 := rfl
    have w0 : w64 (2 - 2) = 0 := by decide
    have w1 : w64 ((0 : Int) + 1) = 1 := by decide
    have w2 : w64 ((1 : Int) + 1) = 2 := by decide
    have st : ∀ (q : Nat) (x : Int) (ev : Bool), spec_l08Bound_l1 (spec_l08Bound (k + 3)) [a, b] (q + 1) x ev 0 = spec_l08Bound_l1 (spec_l08Bound (k + 3)) [a, b] q (cp (w64 (x + nbv [a - 1, b]))) (ev && decide ((nbv [a - 1, b]).tmod 2 = 0)) 1 := by
      intro q x ev
      have e0 : ([a, b] : List Int).set (0 : Int).toNat (w64 ((([a, b] : List Int).getD (0 : Int).toNat 0) - 1)) = [a - 1, b] := by
        show [w64 (a - 1), b] = _; rw [wa]
      rw [spec_l08Bound_l1, hlen, decide_eq_true (by omega), if_pos rfl, hown, Option.bind_some, hlen, if_pos (by omega), if_pos (by omega), e0, r1, Option.bind_some]
      cases ev <;> rw [← w1] <;> rfl
    have st1 : ∀ (q : Nat) (x : Int) (ev : Bool), spec_l08Bound_l1 (spec_l08Bound (k + 3)) [a, b] (q + 1) x ev 1 = spec_l08Bound_l1 (spec_l08Bound (k + 3)) [a, b] q (cp (w64 (x + nbv [a, b - 1]))) (ev && decide ((nbv [a, b - 1]).tmod 2 = 0)) 2 := by
      intro q x ev
      have e0 : ([a, b] : List Int).set (1 : Int).toNat (w64 ((([a, b] : List Int).getD (1 : Int).toNat 0) - 1)) = [a, b - 1] := by
        show [a, w64 (b - 1)] = _; rw [wb]
      rw [spec_l08Bound_l1, hlen, decide_eq_true (by omega), if_pos rfl, hown, Option.bind_some, hlen, if_pos (by omega), if_pos (by omega), e0, r2, Option.bind_some]
      cases ev <;> rw [← w2] <;> rfl
    have st2 : ∀ (q : Nat) (x : Int) (ev : Bool), spec_l08Bound_l1 (spec_l08Bound (k + 3)) [a, b] (q + 1) x ev 2 = some (x, ev) := by
      intro q x ev
      rw [spec_l08Bound_l1, hlen, decide_eq_false (by omega), if_neg (by simp)]
    rw [hlen, decide_eq_false (by decide), decide_eq_false (by decide), w0]
    simp only [Bool.false_eq_true, if_false]
    rw [st, st1, st2, Option.bind_some, nbv_two ha hb]
    generalize nbv [a - 1, b] = A at *
    generalize nbv [a, b - 1] = B at *
    have c1 : cp (w64 (0 + A)) = A := by rw [w64_id (by omega)]; unfold cp; rw [if_neg (by omega)]; omega
    have c2 : cp (w64 (A + B)) = A + B := by rw [w64_id (by omega)]; unfold cp; rw [if_neg (by omega)]
    rw [c1, c2]
    have e9 : w64 (A + B - 1) = A + B - 1 := w64_id (by omega)
    by_cases h1 : A.tmod 2 = 0 <;> by_cases h2 : B.tmod 2 = 0
    · have hh : A.tmod 2 = 0 ∧ B.tmod 2 = 0 := ⟨h1, h2⟩
      have e8 : (if A.tmod 2 = 0 ∧ B.tmod 2 = 0 then (1 : Int) else 0) = 1 := if_pos hh
      rw [e8, decide_eq_true h1, decide_eq_true h2]
      show some (w64 (A + B - 1)) = _
      rw [e9]
    · have hh : ¬ (A.tmod 2 = 0 ∧ B.tmod 2 = 0) := fun q => h2 q.2
      have e8 : (if A.tmod 2 = 0 ∧ B.tmod 2 = 0 then (1 : Int) else 0) = 0 := if_neg hh
      rw [e8, decide_eq_true h1, decide_eq_false h2, Int.sub_zero]; rfl
    · have hh : ¬ (A.tmod 2 = 0 ∧ B.tmod 2 = 0) := fun q => h1 q.1
      have e8 : (if A.tmod 2 = 0 ∧ B.tmod 2 = 0 then (1 : Int) else 0) = 0 := if_neg hh
      rw [e8, decide_eq_false h1, decide_eq_true h2, Int.sub_zero]; rfl
    · have hh : ¬ (A.tmod 2 = 0 ∧ B.tmod 2 = 0) := fun q => h1 q.1
      have e8 : (if A.tmod 2 = 0 ∧ B.tmod 2 = 0 then (1 : Int) else 0) = 0 := if_neg hh
      rw [e8, decide_eq_false h1, decide_eq_false h2, Int.sub_zero]; rfl

/-! ### A step of the table -/
theorem scan2_val {k : Nat} (hk : 100 ≤ k) {s : List Int} (hr : ∀ z ∈ s, 1 ≤ z ∧ z ≤ 8) (hl : s.length ≤ 4) : spec_l08Step_l0 s k 0 0 ([] : List Int) = some (if (1 : Int) ∈ s then .inr 1 else .inl ((cdn s : Int), rst s)) := by
  obtain ⟨r, h1, rfl⟩ := loopI (fun k' i (σ : Int × List Int) => spec_l08Step_l0 s k' σ.1 i σ.2) (s.length : Int) 0
    (fun i σ => ∃ n : Nat, i = n ∧ n ≤ s.length ∧ σ.1 = (cdn (s.take n) : Int) ∧ σ.2 = rst (s.take n) ∧ (1 : Int) ∉ s.take n) (fun r => r = if (1 : Int) ∈ s then .inr 1 else .inl ((cdn s : Int), rst s))
    (fun k' i σ h0 hi hI => by
      obtain ⟨n, rfl, hn, e0, e1', h1⟩ := hI
      have hns : n < s.length := by omega
      have hg := hr _ (getD_mem' hns)
      have hw : w64 ((n : Int) + 1) = ((n : Int) + 1) := w64_id (by omega)
      have hct := cdn_take_lt hr hl n
      have hrl : (rst (s.take n)).length ≤ 4 := by
        have := (rst_mz (s.take n)).2.2
        rw [List.length_take] at this; omega
      have hcode : w64 (w64 (σ.1 * 9) + s.getD n 0) = ((cdn (s.take (n + 1)) : Nat) : Int) := by
        rw [e0, w64_id (n := ((cdn (s.take n) : Nat) : Int) * 9) (by omega), w64_id (by omega), take_snoc hns, cdn_snoc]
        omega
      rw [spec_l08Step_l0, decide_eq_true hi, if_pos rfl, if_pos (by omega), if_pos (by omega), Int.toNat_natCast]
      by_cases e1 : s.getD n 0 = 1
      · right
        refine ⟨.inr 1, ?_, ?_⟩
        · rw [decide_eq_true e1]; rfl
        · rw [if_pos]; rw [← e1]; exact getD_mem' hns
      · left
        refine ⟨((cdn (s.take (n + 1)) : Nat), rst (s.take (n + 1))), ?_, n + 1, by omega, by omega, rfl, rfl, ?_⟩
        · rw [decide_eq_false e1, if_neg (by simp), if_pos (by omega)]
          have er : rst (s.take (n + 1)) = if s.getD n 0 = 2 then rst (s.take n) else rst (s.take n) ++ [s.getD n 0] := by rw [take_snoc hns, rst_snoc]
          rw [er, ← hcode]
          by_cases e2 : s.getD n 0 = 2
          · rw [if_pos e2, decide_eq_false (by omega), if_neg (by simp), hw, ← e1']; rfl
          · rw [if_neg e2, decide_eq_true (by omega), if_pos rfl, if_pos (by omega), if_pos (by rw [e1']; simp; omega), hw, ← e1']; rfl
        · rw [take_snoc hns]
          intro hm
          rcases List.mem_append.1 hm with hm | hm
          · exact h1 hm
          · rw [List.mem_singleton] at hm; exact e1 hm.symm)
    (fun k' i σ h0 hi hI => by
      obtain ⟨n, rfl, hn, e0, e1', h1⟩ := hI
      have : n = s.length := by omega
      subst this
      rw [spec_l08Step_l0, decide_eq_false (by omega), if_neg (by simp), e0, e1']
      rw [List.take_length] at h1 ⊢
      exact ⟨_, rfl, by rw [if_neg h1]⟩)
    k 0 (0, []) (by omega) (by omega) ⟨0, rfl, by omega, by simp [cdn], by simp [rst], by simp⟩
  exact h1
def prt (s : List Int) : Nat → List Int
  | 0 => []
  | j + 1 => (if 2 < s.getD j 0 then [nbv (dcr s j)] else []) ++ prt s j
theorem sm_prt (s : List Int) : ∀ j, sm (prt s j) = sm ((List.range j).map fun i => if 2 < s.getD i 0 then nbv (dcr s i) else 0)
  | 0 => rfl
  | j + 1 => by
    have e : sm ([j].map fun i => if 2 < s.getD i 0 then nbv (dcr s i) else 0) = if 2 < s.getD j 0 then nbv (dcr s j) else 0 := Int.add_zero _
    have e2 : sm (if 2 < s.getD j 0 then [nbv (dcr s j)] else []) = if 2 < s.getD j 0 then nbv (dcr s j) else 0 := by
      split
      · exact Int.add_zero _
      · rfl
    rw [prt, sm_app, sm_prt s j, List.range_succ, List.map_append, sm_app, e, e2, Int.add_comm]
theorem SR_sm (N : List Int → Int) : ∀ (s P : List Int), SR N P s = sm ((List.range s.length).map fun i => if 2 < s.getD i 0 then N (P ++ dcr s i) else 0)
  | [], P => rfl
  | a :: t, P => by
    rw [SR, SR_sm N t, List.length_cons, List.range_succ_eq_map, List.map_cons, sm, List.map_map]
    have e0 : dcr (a :: t) 0 = (a - 1) :: t := rfl
    have e1 : ((fun i => if 2 < (a :: t).getD i 0 then N (P ++ dcr (a :: t) i) else 0) ∘ Nat.succ) = fun i => if 2 < t.getD i 0 then N (P ++ [a] ++ dcr t i) else 0 := by
      funext i
      have : dcr (a :: t) (i + 1) = a :: dcr t i := by simp [dcr]
      show (if 2 < (a :: t).getD (i + 1) 0 then N (P ++ dcr (a :: t) (i + 1)) else 0) = _
      rw [this, List.append_assoc]; simp
    rw [e0, e1]; rfl
theorem prt_len {s : List Int} (h2 : ∀ z ∈ s, 2 ≤ z) : ∀ j, j ≤ s.length → (prt s j).length = (rst (s.take j)).length
  | 0, _ => by simp [prt, rst]
  | j + 1, hj => by
    have hg := h2 _ (getD_mem' (show j < s.length by omega))
    rw [prt, List.length_append, prt_len h2 j (by omega), take_snoc (by omega), rst_snoc]
    by_cases e : s.getD j 0 = 2
    · rw [if_pos e, if_neg (by omega)]; simp
    · rw [if_neg e, if_pos (by omega)]; simp; omega
theorem dcr_wfu {s : List Int} (hr : ∀ z ∈ s, 2 ≤ z ∧ z ≤ 8) (hl : s.length ≤ 4) {i : Nat} (hi : i < s.length) (h2 : 2 < s.getD i 0) : wfu (dcr s i) ∧ ∀ z ∈ dcr s i, 2 ≤ z ∧ z ≤ 8 := by
  have key : ∀ z ∈ dcr s i, 2 ≤ z ∧ z ≤ 8 := fun z hz => by
    rcases List.mem_or_eq_of_mem_set hz with hm | rfl
    · exact hr z hm
    · have := hr _ (getD_mem' hi); omega
  exact ⟨⟨fun e => by have := dcr_length s i; rw [e] at this; simp at this; omega, by rw [dcr_length]; exact hl, fun z hz => by have := key z hz; omega⟩, key⟩
theorem prt_pos {s : List Int} (hr : ∀ z ∈ s, 2 ≤ z ∧ z ≤ 8) (hl : s.length ≤ 4) : ∀ j, j ≤ s.length → ∀ v ∈ prt s j, 1 ≤ v
  | 0, _, v, h => by cases h
  | j + 1, hj, v, h => by
    rcases List.mem_append.1 h with h | h
    · by_cases h2 : 2 < s.getD j 0
      · rw [if_pos h2, List.mem_singleton] at h
        subst h
        exact (nbv_range (dcr_wfu hr hl (by omega) h2).1).1
      · rw [if_neg h2] at h; cases h
    · exact prt_pos hr hl j (by omega) v h
/-- What the table must hold for a step. -/
def TS (s T : List Int) : Prop := T.length = 6561 ∧ ∀ i, i < s.length → 2 < s.getD i 0 → T.getD (cdn s - 9 ^ (s.length - 1 - i)) 0 = cp (nbv (dcr s i))
theorem step_loop {s T : List Int} (hr : ∀ z ∈ s, 2 ≤ z ∧ z ≤ 8) (hl : s.length ≤ 4) (hT : TS s T) (L : List Int) : ∀ (j k : Nat) (x : Int), j ≤ s.length → j < k → -4 ≤ x → x ≤ 1000000001 →
    spec_l08Step_l1 T s ((cdn s : Int), L) k x ((9 ^ (s.length - j) : Nat) : Int) ((j : Int) - 1) = some (cs x (prt s j)) := by
  have hcs : cdn s < 6561 := by
    have := cdn_take_lt (s := s) (fun z hz => by have := hr z hz; omega) hl s.length
    rwa [List.take_length] at this
  intro j
  induction j with
  | zero =>
    intro k x hj hk _ _
    obtain ⟨k, rfl⟩ : ∃ q, k = q + 1 := ⟨k - 1, by omega⟩
    rw [spec_l08Step_l1, decide_eq_false (by omega), if_neg (by simp)]; rfl
  | succ j ih =>
    intro k x hj hk h0 h1
    obtain ⟨k, rfl⟩ : ∃ q, k = q + 1 := ⟨k - 1, by omega⟩
    have hj1 : ((j + 1 : Nat) : Int) - 1 = (j : Int) := by omega
    have hp9 := pow9 (n := s.length - (j + 1)) (by omega)
    obtain ⟨W, hW⟩ : ∃ W, 9 ^ (s.length - (j + 1)) = W := ⟨_, rfl⟩
    have hWn : 9 ^ (s.length - j) = W * 9 := by rw [show s.length - j = (s.length - (j + 1)) + 1 by omega, Nat.pow_succ, hW]
    rw [hW] at hp9 ⊢
    rw [hWn] at ih
    have hw9 : w64 (((W : Nat) : Int) * 9) = ((W * 9 : Nat) : Int) := by
      rw [w64_id (by omega)]; omega
    have hwj : w64 ((j : Int) - 1) = (j : Int) - 1 := w64_id (by omega)
    rw [spec_l08Step_l1, hj1, decide_eq_true (by omega), if_pos rfl, if_pos (by omega), Int.toNat_natCast, hw9, hwj]
    by_cases h2 : 2 < s.getD j 0
    · have hd := cdn_dcr s j (by omega) (by omega)
      have ht := hT.2 j (by omega) h2
      have hnv := nbv_range (dcr_wfu hr hl (by omega) h2).1
      have hcpv : 1 ≤ cp (nbv (dcr s j)) ∧ cp (nbv (dcr s j)) ≤ 1000000001 := by unfold cp; split <;> omega
      have hex : s.length - 1 - j = s.length - (j + 1) := by omega
      rw [hex, hW] at hd ht
      have hidx : w64 ((cdn s : Int) - ((W : Nat) : Int)) = ((cdn s - W : Nat) : Int) := by
        rw [w64_id (by omega)]; omega
      have hlen := hT.1
      have hprt : prt s (j + 1) = nbv (dcr s j) :: prt s j := by rw [prt, if_pos h2]; rfl
      rw [decide_eq_true h2, if_pos rfl]
      simp only
      rw [hidx, if_pos (by omega), Int.toNat_natCast, ht, w64_id (n := x + cp (nbv (dcr s j))) (by omega), hprt, cs]
      simp only [Option.bind_some]
      have hcx : (if 1000000001 < x + cp (nbv (dcr s j)) then (1000000001 : Int) else x + cp (nbv (dcr s j))) = cp (x + cp (nbv (dcr s j))) := rfl
      rw [hcx]
      have hb : -4 ≤ cp (x + cp (nbv (dcr s j))) ∧ cp (x + cp (nbv (dcr s j))) ≤ 1000000001 := by
        generalize cp (nbv (dcr s j)) = q at *
        unfold cp; split <;> omega
      exact ih k _ (by omega) (by omega) hb.1 hb.2
    · have hprt : prt s (j + 1) = prt s j := by rw [prt, if_neg h2]; rfl
      rw [decide_eq_false h2, if_neg (by simp), hprt]
      simp only [Option.bind_some]
      exact ih k x (by omega) (by omega) h0 h1
theorem sstep_val {k : Nat} (hk : 5000 ≤ k) {s T : List Int} (hne : s ≠ []) (hr : ∀ z ∈ s, 1 ≤ z ∧ z ≤ 8) (hl : s.length ≤ 4) (hT : (1 : Int) ∉ s → TS s T) : spec_l08Step k T s = some (cp (nbv s)) := by
  have hw : wfu s := ⟨hne, hl, hr⟩
  unfold spec_l08Step
  rw [scan2_val (by omega) hr hl, Option.bind_some]
  by_cases h1 : (1 : Int) ∈ s
  · rw [if_pos h1, nbv_one hw h1]; rfl
  rw [if_neg h1]
  simp only
  have hr2 : ∀ z ∈ s, 2 ≤ z ∧ z ≤ 8 := fun z hz => by
    have := hr z hz
    have : z ≠ 1 := fun e => h1 (e ▸ hz)
    omega
  have hr3 : ∀ z ∈ rst s, 3 ≤ z ∧ z ≤ 8 := fun z hz => by
    obtain ⟨z1, z2⟩ := List.mem_filter.1 hz
    have := hr2 z z1
    have z5 : z ≠ 2 := by simpa using z2
    omega
  have hrl := (rst_mz s).2.2
  by_cases h3 : (rst s).length < 3
  · have hm := mz_le (rst s) fun z hz => by have := hr3 z hz; omega
    rw [decide_eq_true (by omega), if_pos rfl, sb_val _ (rst s) k rfl (by omega) (fun z hz => by have := hr3 z hz; omega) (by omega), Option.bind_some, ← nbv_rst hw h1]
    have hb : nbv s ≤ 134217728 := by
      rw [nbv_rst hw h1]
      by_cases he : rst s = []
      · rw [he, nbv_nil]; omega
      · exact (two_small ⟨he, by omega, fun z hz => by have := hr3 z hz; omega⟩ (by omega)).2
    unfold cp
    rw [if_neg (by omega)]
  · rw [decide_eq_false (by omega), if_neg (by simp)]
    have hw0 : w64 (2 - ((rst s).length : Int)) = 2 - ((rst s).length : Int) := w64_id (by omega)
    have hw1 : w64 ((s.length : Int) - 1) = (s.length : Int) - 1 := w64_id (by omega)
    have := step_loop hr2 hl (hT h1) (rst s) s.length k (2 - ((rst s).length : Int)) (Nat.le_refl _) (by omega) (by omega) (by omega)
    rw [Nat.sub_self, Nat.pow_zero] at this
    rw [hw0, hw1]
    have e1 : ((1 : Nat) : Int) = 1 := rfl
    rw [e1] at this
    rw [this, Option.bind_some]
    have hpl := prt_len (fun z hz => (hr2 z hz).1) s.length (Nat.le_refl _)
    rw [List.take_length] at hpl
    rw [cs_eq _ _ (prt_pos hr2 hl _ (Nat.le_refl _)) (by omega) (by rw [hpl]; omega)]
    have hwr : wfu (rst s) := ⟨fun e => by rw [e] at h3; simp at h3, by omega, fun z hz => by have := hr3 z hz; omega⟩
    have e2 : nbv s = sm (prt s s.length) + (2 - ((rst s).length : Int)) := by
      rw [nbv_rst hw h1, nbv_sum hwr (fun z hz => (hr3 z hz).1) (by omega), sm_prt]
      have e3 := SR_eq s [] (by simpa using hl) (by simpa using hr2)
      rw [SR_sm] at e3
      have e4 : rst ([] : List Int) = [] := rfl
      rw [e4] at e3
      rw [← e3]; rfl
    rw [e2, Int.add_comm]

/-! ### The table -/
theorem dec_loop (sizes : List Int) (hl : sizes.length ≤ 4) : ∀ (j k r : Nat) (fb : Bool) (own : List Int), j ≤ sizes.length → j < k → own.length = sizes.length → r < 6561 →
    ∃ fb', spec_l08Table_l1 sizes k (r : Int) fb ((j : Int) - 1) own = some (((r / 9 ^ j : Nat) : Int), fb', digs j r ++ own.drop j) ∧ (fb' = true ↔ fb = true ∧ ∀ i, i < j → 1 ≤ (digs j r).getD i 0 ∧ (digs j r).getD i 0 ≤ sizes.getD i 0) := by
  intro j
  induction j with
  | zero =>
    intro k r fb own hj hk ho hr
    obtain ⟨k, rfl⟩ : ∃ q, k = q + 1 := ⟨k - 1, by omega⟩
    rw [spec_l08Table_l1, decide_eq_false (by omega), if_neg (by simp)]
    exact ⟨fb, by simp [digs], by simp⟩
  | succ j ih =>
    intro k r fb own hj hk ho hr
    obtain ⟨k, rfl⟩ : ∃ q, k = q + 1 := ⟨k - 1, by omega⟩
    have hj1 : ((j + 1 : Nat) : Int) - 1 = (j : Int) := by omega
    have hwj : w64 ((j : Int) - 1) = (j : Int) - 1 := w64_id (by omega)
    have hm : ((r : Nat) : Int).tmod 9 = ((r % 9 : Nat) : Int) := rfl
    have hd : w64 (((r : Nat) : Int).tdiv 9) = ((r / 9 : Nat) : Int) := by
      have : ((r : Nat) : Int).tdiv 9 = ((r / 9 : Nat) : Int) := rfl
      rw [this, w64_id (by omega)]
    have hset : (own.set j ((r % 9 : Nat) : Int)).length = own.length := List.length_set ..
    have hget : (own.set j ((r % 9 : Nat) : Int)).getD j 0 = ((r % 9 : Nat) : Int) := by
      rw [List.getD_eq_getElem?_getD, List.getElem?_set_self (by omega)]; rfl
    obtain ⟨fb', e, hfb⟩ := ih k (r / 9) (fb && (decide (1 ≤ ((r % 9 : Nat) : Int)) && decide (((r % 9 : Nat) : Int) ≤ sizes.getD j 0))) (own.set j ((r % 9 : Nat) : Int)) (by omega) (by omega) (by rw [hset]; exact ho) (by omega)
    have hval : ((if fb = true then (if 0 ≤ (j : Int) ∧ (j : Int) < ((own.set j ((r % 9 : Nat) : Int)).length : Int) then (if decide (1 ≤ ((r % 9 : Nat) : Int)) = true then (if 0 ≤ (j : Int) ∧ (j : Int) < ((own.set j ((r % 9 : Nat) : Int)).length : Int) then (if 0 ≤ (j : Int) ∧ (j : Int) < (sizes.length : Int) then some (decide (((r % 9 : Nat) : Int) ≤ sizes.getD j 0)) else none) else none) else some false) else none) else some false) : Option Bool) = some (fb && (decide (1 ≤ ((r % 9 : Nat) : Int)) && decide (((r % 9 : Nat) : Int) ≤ sizes.getD j 0))) := by
      cases fb with
      | false => rfl
      | true =>
        rw [if_pos rfl, if_pos (by rw [hset]; omega)]
        by_cases h1 : (1 : Int) ≤ ((r % 9 : Nat) : Int)
        · rw [decide_eq_true h1, if_pos rfl, if_pos (by rw [hset]; omega), if_pos (by omega)]; rfl
        · rw [decide_eq_false h1, if_neg (by simp)]; rfl
    refine ⟨fb', ?_, ?_⟩
    · rw [spec_l08Table_l1, hj1, decide_eq_true (by omega), if_pos rfl, if_pos (by omega), Int.toNat_natCast, hm, hget, hval]
      simp only [Option.bind_some]
      rw [hd, hwj, e]
      have e1 : r / 9 / 9 ^ j = r / 9 ^ (j + 1) := by rw [Nat.div_div_eq_div_mul, Nat.mul_comm, ← Nat.pow_succ]
      have e2 : (own.set j ((r % 9 : Nat) : Int)).drop j = ((r % 9 : Nat) : Int) :: own.drop (j + 1) := by
        rw [List.drop_eq_getElem_cons (by omega), List.getElem_set_self, List.drop_set_of_lt (by omega)]
      rw [e1, e2, digs, List.append_assoc]; rfl
    · rw [hfb, Bool.and_eq_true, Bool.and_eq_true, decide_eq_true_iff, decide_eq_true_iff]
      have hlj := digs_length j (r / 9)
      have g1 : ∀ i, i < j → (digs (j + 1) r).getD i 0 = (digs j (r / 9)).getD i 0 := fun i hi => by
        rw [digs, List.getD_eq_getElem?_getD, List.getElem?_append_left (by omega), ← List.getD_eq_getElem?_getD]
      have g2 : (digs (j + 1) r).getD j 0 = ((r % 9 : Nat) : Int) := by
        rw [digs, List.getD_eq_getElem?_getD, List.getElem?_append_right (by omega), hlj, Nat.sub_self]; rfl
      constructor
      · rintro ⟨⟨h1, h2, h3⟩, h4⟩
        refine ⟨h1, fun i hi => ?_⟩
        by_cases e : i = j
        · subst e; rw [g2]; exact ⟨h2, h3⟩
        · rw [g1 i (by omega)]; exact h4 i (by omega)
      · rintro ⟨h1, h2⟩
        have := h2 j (by omega)
        rw [g2] at this
        exact ⟨⟨h1, this.1, this.2⟩, fun i hi => by rw [← g1 i hi]; exact h2 i (by omega)⟩
/-- Lists within the sizes. -/
def fit (sizes t : List Int) : Prop := t.length = sizes.length ∧ ∀ i, i < sizes.length → 1 ≤ t.getD i 0 ∧ t.getD i 0 ≤ sizes.getD i 0
theorem fit.rg {sizes t : List Int} (h : fit sizes t) (hs : ∀ z ∈ sizes, 1 ≤ z ∧ z ≤ 8) : ∀ z ∈ t, 1 ≤ z ∧ z ≤ 8 := fun z hz => by
  obtain ⟨i, hi, rfl⟩ := List.getElem_of_mem hz
  have h1 := h.2 i (by have := h.1; omega)
  have h2 := hs _ (getD_mem' (show i < sizes.length by have := h.1; omega))
  rw [List.getD_eq_getElem?_getD, List.getElem?_eq_getElem hi] at h1
  simp only [Option.getD_some] at h1
  omega
def TI (sizes : List Int) (C : Nat) (T : List Int) : Prop := T.length = 6561 ∧ ∀ t, fit sizes t → cdn t < C → T.getD (cdn t) 0 = cp (nbv t)
theorem table_val {k : Nat} (hk : 10000 ≤ k) {sizes : List Int} (hs : ∀ z ∈ sizes, 1 ≤ z ∧ z ≤ 8) (hl : 3 ≤ sizes.length ∧ sizes.length ≤ 4) : ∃ T, spec_l08Table_l0 k sizes k 0 (List.replicate (6561 : Int).toNat (0 : Int)) (List.replicate (sizes.length : Int).toNat (0 : Int)) = some T ∧ TI sizes 6561 T := by
  have h9 := pow9 hl.2
  obtain ⟨r, h1, h2⟩ := loopI (fun k' i (σ : List Int × List Int) => spec_l08Table_l0 k sizes k' i σ.1 σ.2) 6561 0
    (fun i σ => ∃ C : Nat, i = C ∧ C ≤ 6561 ∧ TI sizes C σ.1 ∧ σ.2.length = sizes.length) (fun T => TI sizes 6561 T)
    (fun k' i σ h0 hi hI => by
      obtain ⟨C, rfl, hC, hT, ho⟩ := hI
      left
      have hCl : C < 6561 := by omega
      have hlen := hT.1
      have hw : w64 ((C : Int) + 1) = ((C : Int) + 1) := w64_id (by omega)
      have hwl : w64 ((sizes.length : Int) - 1) = (sizes.length : Int) - 1 := w64_id (by omega)
      obtain ⟨fb, e, hfb⟩ := dec_loop sizes hl.2 sizes.length k C true σ.2 (Nat.le_refl _) (by omega) ho hCl
      have hdrop : σ.2.drop sizes.length = [] := List.drop_eq_nil_of_le (by omega)
      rw [hdrop, List.append_nil] at e
      have hdl := digs_length sizes.length C
      rw [spec_l08Table_l0, decide_eq_true (by omega), if_pos rfl, hwl, e, Option.bind_some]
      simp only [letO]
      by_cases hq : fb = true ∧ C / 9 ^ sizes.length = 0
      · have hfit : fit sizes (digs sizes.length C) := ⟨hdl, (hfb.1 hq.1).2⟩
        have hcd := digs_cdn sizes.length C hq.2
        have hrg := hfit.rg hs
        have hst := sstep_val (k := k) (by omega) (s := digs sizes.length C) (T := σ.1) (fun e => by rw [e] at hdl; simp at hdl; omega) hrg (by omega) (fun hn1 => ⟨hlen, fun i hi h2 => by
          have hd := cdn_dcr (digs sizes.length C) i hi (by omega)
          have hfd : fit sizes (dcr (digs sizes.length C) i) := ⟨by rw [dcr_length]; exact hdl, fun j hj => by
            have hj2 := hfit.2 j hj
            unfold dcr
            by_cases e : i = j
            · subst e
              rw [List.getD_eq_getElem?_getD, List.getElem?_set_self hi]
              simp only [Option.getD_some]; omega
            · rw [List.getD_eq_getElem?_getD, List.getElem?_set_ne e, ← List.getD_eq_getElem?_getD]; exact hj2⟩
          have hp : 1 ≤ 9 ^ ((digs sizes.length C).length - 1 - i) := Nat.pow_pos (by decide)
          have := hT.2 _ hfd (by omega)
          rwa [show cdn (dcr (digs sizes.length C) i) = cdn (digs sizes.length C) - 9 ^ ((digs sizes.length C).length - 1 - i) by omega] at this⟩)
        refine ⟨(σ.1.set C (cp (nbv (digs sizes.length C))), digs sizes.length C), ?_, C + 1, by omega, by omega, ⟨by rw [List.length_set]; exact hlen, fun t ht hct => ?_⟩, hdl⟩
        · rw [hq.1, if_pos rfl, hq.2, decide_eq_true (by rfl), if_pos rfl, hst, Option.bind_some, if_pos (by omega), Int.toNat_natCast, hw]; rfl
        · by_cases e : C = cdn t
          · have : t = digs sizes.length C := by
              rw [e]
              exact (cdn_digs sizes.length t ht.1 fun z hz => by have := ht.rg hs z hz; omega).symm
            rw [← e, this, List.getD_eq_getElem?_getD, List.getElem?_set_self (by omega)]; rfl
          · rw [List.getD_eq_getElem?_getD, List.getElem?_set_ne e, ← List.getD_eq_getElem?_getD]
            exact hT.2 t ht (by omega)
      · refine ⟨(σ.1, digs sizes.length C), ?_, C + 1, by omega, by omega, ⟨hlen, fun t ht hct => ?_⟩, hdl⟩
        · have hb : (if fb = true then decide (((C / 9 ^ sizes.length : Nat) : Int) = 0) else false) = false := by
            cases hf : fb with
            | false => rfl
            | true =>
              rw [if_pos rfl]
              exact decide_eq_false fun h => hq ⟨hf, by omega⟩
          rw [hb, if_neg (by simp), Option.bind_some, hw]
        · by_cases e : C = cdn t
          · exfalso
            have hd : digs sizes.length C = t := by
              rw [e]
              exact cdn_digs sizes.length t ht.1 fun z hz => by have := ht.rg hs z hz; omega
            have hlt := cdn_lt t fun z hz => by have := ht.rg hs z hz; omega
            rw [ht.1] at hlt
            refine hq ⟨hfb.2 ⟨rfl, by rw [hd]; exact ht.2⟩, ?_⟩
            rw [e]; exact Nat.div_eq_of_lt hlt
          · exact hT.2 t ht (by omega))
    (fun k' i σ h0 hi hI => by
      obtain ⟨C, rfl, hC, hT, ho⟩ := hI
      have : C = 6561 := by omega
      subst this
      have hlen := hT.1
      rw [spec_l08Table_l0, decide_eq_false (by omega), if_neg (by simp)]
      exact ⟨_, rfl, hT⟩)
    k 0 (List.replicate (6561 : Int).toNat (0 : Int), List.replicate (sizes.length : Int).toNat (0 : Int)) (by omega) (by omega) ⟨0, rfl, by omega, ⟨List.length_replicate .., fun t _ h => by omega⟩, by simp⟩
  exact ⟨r, h1, h2⟩
theorem code_val {k : Nat} (hk : 100 ≤ k) {s : List Int} (hr : ∀ z ∈ s, 1 ≤ z ∧ z ≤ 8) (hl : s.length ≤ 4) : spec_l08Table_l2 s k 0 0 = some (cdn s : Int) := by
  obtain ⟨r, h1, rfl⟩ := loopI (fun k' i (x : Int) => spec_l08Table_l2 s k' x i) (s.length : Int) 0
    (fun i x => ∃ n : Nat, i = n ∧ n ≤ s.length ∧ x = (cdn (s.take n) : Int)) (fun r => r = (cdn s : Int))
    (fun k' i x h0 hi hI => by
      obtain ⟨n, rfl, hn, rfl⟩ := hI
      left
      have hns : n < s.length := by omega
      have hg := hr _ (getD_mem' hns)
      have hct := cdn_take_lt hr hl n
      have hcode : w64 (w64 (((cdn (s.take n) : Nat) : Int) * 9) + s.getD n 0) = ((cdn (s.take (n + 1)) : Nat) : Int) := by
        rw [w64_id (n := ((cdn (s.take n) : Nat) : Int) * 9) (by omega), w64_id (by omega), take_snoc hns, cdn_snoc]
        omega
      rw [spec_l08Table_l2, decide_eq_true hi, if_pos rfl, if_pos (by omega), Int.toNat_natCast, hcode, w64_id (n := (n : Int) + 1) (by omega)]
      exact ⟨_, rfl, n + 1, by omega, by omega, rfl⟩)
    (fun k' i x h0 hi hI => by
      obtain ⟨n, rfl, hn, rfl⟩ := hI
      have : n = s.length := by omega
      subst this
      rw [spec_l08Table_l2, decide_eq_false (by omega), if_neg (by simp), List.take_length]
      exact ⟨_, rfl, rfl⟩)
    k 0 0 (by omega) (by omega) ⟨0, rfl, by omega, by simp [cdn]⟩
  exact h1
theorem tab_val {k : Nat} (hk : 10000 ≤ k) {sizes : List Int} (hs : ∀ z ∈ sizes, 1 ≤ z ∧ z ≤ 8) (hl : 1 ≤ sizes.length ∧ sizes.length ≤ 4) : spec_l08Table k sizes = some (cp (nbv sizes)) := by
  unfold spec_l08Table
  by_cases h3 : sizes.length < 3
  · have hm := mz_le sizes hs
    rw [decide_eq_true (by omega), if_pos rfl, sb_val _ sizes k rfl (by omega) hs (by omega), Option.bind_some]
    have hb := (two_small (s := sizes) ⟨fun e => by rw [e] at hl; simp at hl, hl.2, hs⟩ (by omega)).2
    unfold cp
    rw [if_neg (by omega)]
  · obtain ⟨T, h1, hT⟩ := table_val hk hs (sizes := sizes) ⟨by omega, hl.2⟩
    have hc := cdn_take_lt hs hl.2 sizes.length
    rw [List.take_length] at hc
    have hlen := hT.1
    rw [decide_eq_false (by omega), if_neg (by simp), if_pos (by decide), if_pos (by omega), h1, Option.bind_some, code_val (by omega) hs hl.2, Option.bind_some, if_pos (by omega), Int.toNat_natCast, hT.2 sizes ⟨rfl, fun i hi => ⟨(hs _ (getD_mem' hi)).1, Int.le_refl _⟩⟩ hc]
theorem specNb_val {k : Nat} (hk : 10000 ≤ k) (sizes : List Int) (hl : sizes.length ≤ 1000) : spec_NeighbourBound k sizes = some (if (1 ≤ sizes.length ∧ sizes.length ≤ 4) ∧ ∀ z ∈ sizes, 1 ≤ z ∧ z ≤ 8 then (if 1000000000 < nb8 (sorted sizes) then (0, 3) else (nb8 (sorted sizes), 0)) else (0, 2)) := by
  unfold spec_NeighbourBound
  by_cases h1 : 1 ≤ sizes.length ∧ sizes.length ≤ 4
  · have hb : (if decide ((sizes.length : Int) < 1) = true then true else decide (4 < (sizes.length : Int))) = false := by
      rw [decide_eq_false (by omega), if_neg (by simp), decide_eq_false (by omega)]
    simp only [letO]
    rw [hb]
    simp only [Bool.false_eq_true, if_false, Option.bind_some]
    rw [loopAll (f := fun k' i => spec_NeighbourBound_l0 sizes k' i) (sizes.length : Int) ((0 : Int), (2 : Int)) (fun i => 1 ≤ sizes.getD i.toNat 0 ∧ sizes.getD i.toNat 0 ≤ 8) 0 ?_ ?_ ?_ k 0 (by omega) (by omega), Option.bind_some]
    · by_cases hq : ∀ z ∈ sizes, 1 ≤ z ∧ z ≤ 8
      · have hcc : (1 ≤ sizes.length ∧ sizes.length ≤ 4) ∧ ∀ z ∈ sizes, 1 ≤ z ∧ z ≤ 8 := ⟨h1, hq⟩
        rw [if_pos hcc]
        have hall : ∀ j : Int, 0 ≤ j → j < (sizes.length : Int) → 1 ≤ sizes.getD j.toNat 0 ∧ sizes.getD j.toNat 0 ≤ 8 := fun j h0 h1 => hq _ (mem_getD.2 ⟨j.toNat, by omega, rfl⟩)
        rw [if_pos hall]
        simp only
        rw [tab_val hk hq h1, Option.bind_some]
        show (if decide (1000000000 < cp (nb8 (sorted sizes))) = true then some ((0 : Int), (3 : Int)) else some (cp (nb8 (sorted sizes)), 0)) = _
        unfold cp
        by_cases h : 1000000001 < nb8 (sorted sizes)
        · have h9 : 1000000000 < nb8 (sorted sizes) := by omega
          rw [if_pos h, if_pos h9]; rfl
        · rw [if_neg h]
          by_cases h2 : 1000000000 < nb8 (sorted sizes)
          · rw [decide_eq_true h2, if_pos rfl, if_pos h2]
          · rw [decide_eq_false h2, if_neg (by simp), if_neg h2]
      · have hcc : ¬ ((1 ≤ sizes.length ∧ sizes.length ≤ 4) ∧ ∀ z ∈ sizes, 1 ≤ z ∧ z ≤ 8) := fun h => hq h.2
        rw [if_neg hcc, if_neg]
        intro h2
        refine hq fun z hz => ?_
        obtain ⟨a, h3, h4⟩ := mem_getD.1 hz
        have := h2 a (by omega) (by omega)
        rw [Int.toNat_natCast, h4] at this
        exact this
    all_goals intro k' i h0
    · intro h1 hq
      show spec_NeighbourBound_l0 sizes (k' + 1) i = _
      rw [spec_NeighbourBound_l0, if_pos (decide_eq_true h1), if_pos ⟨h0, h1⟩, specIn_eq, decide_eq_true hq, if_neg (by simp), w64_succ h0 h1 (by omega)]
    · intro h1 hq
      show spec_NeighbourBound_l0 sizes (k' + 1) i = _
      rw [spec_NeighbourBound_l0, if_pos (decide_eq_true h1), if_pos ⟨h0, h1⟩, specIn_eq, decide_eq_false hq, if_pos (by simp)]
    · show spec_NeighbourBound_l0 sizes (k' + 1) i = _
      rw [spec_NeighbourBound_l0, if_neg (by simp only [decide_eq_true_eq]; omega)]
  · have hcc : ¬ ((1 ≤ sizes.length ∧ sizes.length ≤ 4) ∧ ∀ z ∈ sizes, 1 ≤ z ∧ z ≤ 8) := fun h => h1 h.1
    rw [if_neg hcc]
    have hb : (if decide ((sizes.length : Int) < 1) = true then true else decide (4 < (sizes.length : Int))) = true := by
      by_cases h : sizes.length < 1
      · rw [decide_eq_true (by omega), if_pos rfl]
      · rw [decide_eq_false (by omega), if_neg (by simp), decide_eq_true (by omega)]
    simp only [letO]
    rw [hb]; rfl

theorem tb (u : UInt8) : toByte (u.toNat : Int) = u := by
  have := u.toNat_lt
  unfold toByte
  rw [Int.emod_eq_of_lt (by omega) (by omega), Int.toNat_natCast]
  exact UInt8.ofNat_toNat

theorem tb_id {n : Int} (h : 0 ≤ n ∧ n < 256) : ((toByte n).toNat : Int) = n := by
  unfold toByte
  rw [Int.emod_eq_of_lt h.1 h.2]
  simp
  omega

theorem cc_nat (x : Col) (a b : Nat) : x.cc a b = ((x.e.get (eN a b)).toNat : Int) := by
  unfold Col.cc; simp only [Int.toNat_natCast]

theorem mkC_cc {n : Nat} (hn : n ≤ 17) (k : Int) (g : Nat → Nat → Int) {a b : Nat} (hab : a < b) (hb : b < n) (hg : 0 ≤ g a b ∧ g a b < 256) : (mkC n k g).cc a b = g a b := by
  rw [cc_nat, mkC_get hn k g hab hb, tb_id hg]

theorem tE_tri (x : Col) (h : 1 ≤ x.p ∧ x.p ≤ 17) : tE x = (tri x.p.toNat : Int) := by
  obtain ⟨n, hn⟩ := nat_of (show 0 ≤ x.p by omega)
  unfold tE
  rw [hn, Int.toNat_natCast]
  have key : ∀ n : Nat, 1 ≤ n → n ≤ 17 → w64 ((w64 ((n : Int) * (w64 ((n : Int) - 1)))).tdiv 2) = (tri n : Int) := by
    have : ∀ n : Nat, n ≤ 17 → 1 ≤ n → w64 ((w64 ((n : Int) * (w64 ((n : Int) - 1)))).tdiv 2) = (tri n : Int) := by decide +kernel
    exact fun n h1 h2 => this n h2 h1
  exact key n (by omega) (by omega)

theorem is_lt {x : Col} (h : x.is) {e : Nat} (he : e < tri x.p.toNat) : ((x.e.get e).toNat : Int) < x.k := by
  have := tri_le (n := x.p.toNat) (by have := h.1; omega)
  have h1 := (h.2.2 e (by omega) (by omega)).1 (by rw [tE_tri x h.1]; omega)
  rw [Int.toNat_natCast] at h1
  exact h1

theorem mkC_is {n : Nat} (h1 : 1 ≤ n) (hn : n ≤ 17) {k : Int} (hk : 1 ≤ k ∧ k ≤ 4) (g : Nat → Nat → Int) (hg : ∀ a b : Nat, a < b → b < n → 0 ≤ g a b ∧ g a b < k) : (mkC n k g).is := by
  have hm := mkC_made hn k g
  refine ⟨by show 1 ≤ (n : Int) ∧ (n : Int) ≤ 17; omega, hk, fun j h0 h136 => ?_⟩
  obtain ⟨e, rfl⟩ := nat_of h0
  have ht : tE (mkC n k g) = (tri n : Int) := by
    rw [tE_tri _ (by show 1 ≤ (n : Int) ∧ (n : Int) ≤ 17; omega)]
    rfl
  refine ⟨fun h => ?_, fun h => ?_⟩
  · rw [ht] at h
    obtain ⟨j, hj, i, hi, rfl⟩ := eN_surj hn (show e < tri n by omega)
    show (((mkC n k g).e.get ((eN i j : Nat) : Int).toNat).toNat : Int) < k
    rw [Int.toNat_natCast, mkC_get hn k g hi hj, tb_id (by have := hg i j hi hj; omega)]
    exact (hg i j hi hj).2
  · rw [ht] at h
    have := hm.z e (by simpa using (show tri n ≤ e by omega)) (by omega)
    show (((mkC n k g).e.get ((e : Nat) : Int).toNat).toNat : Int) = 0
    rw [Int.toNat_natCast, this]; rfl

theorem is_cc {x : Col} (h : x.is) {a b : Nat} (ha : (a : Int) < x.p) (hb : (b : Int) < x.p) (hab : a ≠ b) : 0 ≤ x.cc a b ∧ x.cc a b < x.k := by
  have hp := h.1
  rw [cc_nat]
  refine ⟨by omega, is_lt h ?_⟩
  rcases Nat.lt_or_ge a b with q | q
  · exact eN_lt q (by omega) (by omega)
  · rw [eN_comm]; exact eN_lt (by omega) (by omega) (by omega)

theorem made_l1 (f : Int → Int → Option Int) (n : Nat) (hn : n ≤ 17) (g : Nat → Nat → Int) (j : Nat) (hj : j < n) (hf : ∀ i : Nat, i < j → f i j = some (g i j)) (p c : Int) :
    ∀ k, 18 ≤ k → ∀ x : Col, x.p = p → x.k = c → MInv n (fun a b => toByte (g a b)) j 0 x.e → ∃ y : Col, impl_made_l1 f (j : Int) k 0 x = some y ∧ y.p = p ∧ y.k = c ∧ MInv n (fun a b => toByte (g a b)) j j y.e := by
  intro k hk x hp hc hx
  refine loopI (f := fun k i s => impl_made_l1 f (j : Int) k i s) (j : Int) 0 (fun i s => s.p = p ∧ s.k = c ∧ MInv n (fun a b => toByte (g a b)) j i.toNat s.e ∧ i ≤ j) (fun y => y.p = p ∧ y.k = c ∧ MInv n (fun a b => toByte (g a b)) j j y.e) ?_ ?_ k 0 x (by omega) (by omega) ⟨hp, hc, hx, by omega⟩
  · intro k i s h0 h1 ⟨q1, q2, q3, _⟩
    left
    obtain ⟨m, rfl⟩ := nat_of h0
    refine ⟨s.set (eN m j) (toByte (g m j)), ?_, q1, q2, ?_, by omega⟩
    · show impl_made_l1 f (j : Int) (k + 1) m s = _
      rw [impl_made_l1, hf m (by omega), w64_succ h0 h1 (by omega)]
      unfold impl_Colouring_put
      rw [number_eq m j (by omega) (by omega)]
      have := eN_136 (i := m) (j := j) (by omega) (by omega) (by omega)
      have h136 : ((eN m j : Nat) : Int) < 136 := by omega
      have hmj : m < j := by omega
      simp [hmj, this, h136]
    · have := MInv.step hn q3 hj (show m < j by omega)
      exact this
  · intro k i s h0 h1 ⟨q1, q2, q3, q4⟩
    have : i = j := by omega
    subst this
    refine ⟨s, ?_, q1, q2, q3⟩
    show impl_made_l1 f (j : Int) (k + 1) j s = _
    rw [impl_made_l1]; simp

theorem made_eq (f : Int → Int → Option Int) (n : Int) (hn0 : 0 ≤ n) (hn : n ≤ 17) (g : Nat → Nat → Int) (hf : ∀ i j : Nat, i < j → (j : Int) < n → f i j = some (g i j)) (c : Int) :
    ∀ k, 19 ≤ k → ∃ y : Col, impl_made k n c f = some y ∧ Made y n c (fun a b => toByte (g a b)) := by
  intro k hk
  obtain ⟨n, rfl⟩ := nat_of hn0
  unfold impl_made
  have := loopI (f := fun k' i s => impl_made_l0 k n f k' i s) (n : Int) 0 (fun i (s : Col) => s.p = n ∧ s.k = c ∧ MInv n (fun a b => toByte (g a b)) i.toNat 0 s.e ∧ i ≤ n) (fun y => Made y n c (fun a b => toByte (g a b))) ?_ ?_ k 0 (⟨n, c, B136.zero⟩ : Col) (by omega) (by omega) ⟨rfl, rfl, MInv.start _ _, by omega⟩
  · obtain ⟨y, e, h⟩ := this
    exact ⟨y, by rw [e]; rfl, h⟩
  · intro k' i s h0 h1 ⟨q1, q2, q3, _⟩
    left
    obtain ⟨j, rfl⟩ := nat_of h0
    obtain ⟨y, e, h1', h2', h3'⟩ := made_l1 f n (by omega) g j (by omega) (fun i hi => hf i j hi h1) n c k (by omega) s q1 q2 q3
    refine ⟨y, ?_, h1', h2', MInv.row h3', by omega⟩
    show impl_made_l0 k n f (k' + 1) j s = _
    rw [impl_made_l0, e, w64_succ h0 h1 (by omega)]
    have : j < n := by omega
    simp [this]
  · intro k' i s h0 h1 ⟨q1, q2, q3, q4⟩
    have : i = n := by omega
    subst this
    refine ⟨s, ?_, MInv.made q3 q1 q2⟩
    show impl_made_l0 k n f (k' + 1) n s = _
    rw [impl_made_l0]; simp

theorem made_val {k n : Nat} {c : Int} {f : Int → Int → Option Int} {g : Nat → Nat → Int} (hn : n ≤ 17) (hk : 19 ≤ k) (hf : ∀ i j : Nat, i < j → j < n → f i j = some (g i j)) : impl_made k n c f = some (mkC n c g) := by
  obtain ⟨y, e, m⟩ := made_eq f n (by omega) (by omega) g (fun i j hij hj => hf i j hij (by omega)) c k hk
  rw [e]
  exact congrArg some (Made.to hn m fun _ _ _ _ => rfl)

theorem grt_mem : ∀ (L : List (List Int)) (s : List Int), grt L s = s ∨ grt L s ∈ L
  | [], s => .inl rfl
  | a :: t, s => by
    show grt t (if s.length < a.length then a else s) = s ∨ grt t (if s.length < a.length then a else s) ∈ a :: t
    rcases grt_mem t (if s.length < a.length then a else s) with h | h
    · rw [h]
      split
      · exact .inr (by simp)
      · exact .inl rfl
    · exact .inr (List.mem_cons_of_mem _ h)

theorem grt_ge : ∀ (L : List (List Int)) (s : List Int), s.length ≤ (grt L s).length ∧ ∀ a ∈ L, a.length ≤ (grt L s).length
  | [], s => ⟨Nat.le_refl _, fun a h => by simp at h⟩
  | b :: t, s => by
    show s.length ≤ (grt t (if s.length < b.length then b else s)).length ∧ ∀ a ∈ b :: t, a.length ≤ (grt t (if s.length < b.length then b else s)).length
    obtain ⟨h1, h2⟩ := grt_ge t (if s.length < b.length then b else s)
    have h3 : s.length ≤ (if s.length < b.length then b else s).length ∧ b.length ≤ (if s.length < b.length then b else s).length := by
      split <;> omega
    refine ⟨by omega, fun a ha => ?_⟩
    rcases List.mem_cons.1 ha with rfl | ha
    · omega
    · exact h2 a ha

def gw (x : Col) (c : Int) : Nat := (grt (acl x c) []).length

/-- The greatest clique has at least m points if there is a clique of m points. -/
theorem gw_cl (x : Col) (c : Int) (m : Nat) : m ≤ gw x c ↔ cl (aB x c) m (pts x) ≠ [] := by
  constructor
  · intro h
    have hmem : grt (acl x c) [] ∈ acl x c := by
      rcases grt_mem (acl x c) [] with e | e
      · rw [e]; exact List.mem_cons_self
      · exact e
    obtain ⟨a, b⟩ := (mem_ac _ _ _).1 hmem
    have hm : grt (acl x c) [] ∈ cl (aB x c) (gw x c) (pts x) := (mem_cl _ _ _ _).2 ⟨a, b, rfl⟩
    have hne : cl (aB x c) (gw x c) (pts x) ≠ [] := List.ne_nil_of_mem hm
    obtain ⟨d, hd⟩ : ∃ d, gw x c = m + d := ⟨gw x c - m, by omega⟩
    rw [hd] at hne
    exact cl_down _ _ _ _ hne
  · intro h
    obtain ⟨Z, hZ⟩ := List.exists_mem_of_ne_nil _ h
    obtain ⟨h1, h2, h3⟩ := (mem_cl _ _ _ _).1 hZ
    have := (grt_ge (acl x c) []).2 Z ((mem_ac _ _ _).2 ⟨h1, h2⟩)
    unfold gw
    omega

theorem cliques_val {k : Nat} (hk : 5000 ≤ k) {x : Col} (h : x.is) : impl_CliqueNumbers k x = some (some (mapL x.k.toNat fun c => (gw x c : Int)), 0) := by
  have hkk := h.2.1
  have ek : ((x.k.toNat : Nat) : Int) = x.k := by omega
  unfold impl_CliqueNumbers impl_always
  rw [((code_cases hk x).1 h).1]
  unfold impl_Colouring_cliqueNumbers
  have := collect (fun k' i s => impl_Colouring_cliqueNumbers_l0 k x k' i s) x.k.toNat (fun c => (gw x c : Int)) (fun k' i s hi hl => by
    have h1 : (i : Int) < x.k := by omega
    have hl' : s.length + ([(impl_size (grt (acl x i) []))]).length ≤ 1099511627776 := by simp; omega
    rw [impl_Colouring_cliqueNumbers_l0, greatest_eq hk x h.1 i, w64_id (by omega)]
    simp only [h1, decide_true, if_true, Option.bind_some, hl']
    rfl) (fun k' s => by rw [ek, impl_Colouring_cliqueNumbers_l0]; simp) k (by omega)
  simp only [Option.bind_some, decide_true, Bool.not_true, Bool.false_eq_true, if_false, this]

theorem pw_both {A : Rl} (hs : ∀ a b, A a b = A b a) : ∀ (K : List Int), K.Pairwise (fun a b => A a b = true) → ∀ a ∈ K, ∀ b ∈ K, a ≠ b → A a b = true
  | [], _, a, ha, _, _, _ => by cases ha
  | z :: K, h, a, ha, b, hb, hab => by
    obtain ⟨h1, h2⟩ := List.pairwise_cons.1 h
    rcases List.mem_cons.1 ha with e1 | ha
    · rcases List.mem_cons.1 hb with e2 | hb
      · exact absurd (e1.trans e2.symm) hab
      · rw [e1]; exact h1 b hb
    · rcases List.mem_cons.1 hb with e2 | hb
      · rw [e2, hs]; exact h1 a ha
      · exact pw_both hs K h2 a ha b hb hab

theorem nodup_sub_len : ∀ (K M : List Int), K.Nodup → (∀ z ∈ K, z ∈ M) → K.length ≤ M.length
  | [], M, _, _ => Nat.zero_le _
  | a :: K, M, hn, hs => by
    obtain ⟨h1, h2⟩ := List.nodup_cons.1 hn
    have ha := hs a (List.mem_cons_self ..)
    have := nodup_sub_len K (M.erase a) h2 fun z hz => by
      refine (List.mem_erase_of_ne ?_).2 (hs z (List.mem_cons_of_mem _ hz))
      rintro rfl; exact h1 hz
    rw [List.length_erase_of_mem ha] at this
    have := List.length_pos_of_mem ha
    rw [List.length_cons]; omega

set_option linter.unusedSectionVars false

theorem hasK_cl {A : Rl} (hs : ∀ a b, A a b = A b a) (hi : ∀ a, A a a = false) {m n : Nat} (h : hasK A m (ir 0 n)) : cl A m (ir 0 n) ≠ [] := by
  obtain ⟨K, k1, k2, k3⟩ := h
  have hKn : K.Nodup := k3.imp fun {a b} hab e => by rw [e, hi] at hab; cases hab
  have hpw : ((ir 0 n).filter fun z => decide (z ∈ K)).Pairwise (fun a b => A a b = true) := by
    refine List.Pairwise.imp_of_mem (R := (· ≠ ·)) (fun {a b} ha hb hab => ?_) ((ir_nodup 0 n).filter _)
    exact pw_both hs K k3 a (by simpa using (List.mem_filter.1 ha).2) b (by simpa using (List.mem_filter.1 hb).2) hab
  have hlen : m ≤ ((ir 0 n).filter fun z => decide (z ∈ K)).length := by
    rw [← k1]
    exact nodup_sub_len K _ hKn fun z hz => List.mem_filter.2 ⟨k2 z hz, by simpa using hz⟩
  obtain ⟨d, hd⟩ : ∃ d, ((ir 0 n).filter fun z => decide (z ∈ K)).length = m + d := ⟨_, (Nat.add_sub_cancel' hlen).symm⟩
  refine cl_down A (ir 0 n) m d fun e => ?_
  have : ((ir 0 n).filter fun z => decide (z ∈ K)) ∈ cl A (m + d) (ir 0 n) := (mem_cl _ _ _ _).2 ⟨List.filter_sublist, hpw, hd⟩
  rw [e] at this; cases this
theorem cl_hasK {A : Rl} {m n : Nat} (h : cl A m (ir 0 n) ≠ []) : hasK A m (ir 0 n) := by
  obtain ⟨K, hK⟩ := List.exists_mem_of_ne_nil _ h
  obtain ⟨h1, h2, h3⟩ := (mem_cl _ _ _ _).1 hK
  exact ⟨K, h3, fun z hz => h1.subset hz, h2⟩
theorem hasK_map {A B : Rl} (f : Int → Int) {m : Nat} {L M : List Int} (h1 : ∀ z ∈ L, f z ∈ M) (h2 : ∀ a ∈ L, ∀ b ∈ L, A a b = true → B (f a) (f b) = true) (h : hasK A m L) : hasK B m M := by
  obtain ⟨K, k1, k2, k3⟩ := h
  refine ⟨K.map f, by rw [List.length_map, k1], fun z hz => ?_, ?_⟩
  · obtain ⟨a, ha, rfl⟩ := List.mem_map.1 hz
    exact h1 a (k2 a ha)
  · rw [List.pairwise_map]
    exact List.Pairwise.imp_of_mem (fun {a b} ha hb hab => h2 a (k2 a ha) b (k2 b hb) hab) k3

/-! ### The product -/
def pG (x y : Col) (a b : Nat) : Int := if a / y.p.toNat ≠ b / y.p.toNat then x.cc (a / y.p.toNat : Nat) (b / y.p.toNat : Nat) else x.k + y.cc (a % y.p.toNat : Nat) (b % y.p.toNat : Nat)
def prC (x y : Col) : Col := mkC (x.p.toNat * y.p.toNat) (x.k + y.k) (pG x y)
section
variable {x y : Col} (hx : x.is) (hy : y.is) (hp : x.p * y.p ≤ 17) (hk : x.k + y.k ≤ 4)
include hx hy hp hk
theorem pN : x.p.toNat * y.p.toNat ≤ 17 ∧ 1 ≤ x.p.toNat * y.p.toNat ∧ ((x.p.toNat * y.p.toNat : Nat) : Int) = x.p * y.p := by
  have h1 := hx.1
  have h2 := hy.1
  have e : ((x.p.toNat * y.p.toNat : Nat) : Int) = x.p * y.p := by
    rw [Int.natCast_mul, show ((x.p.toNat : Nat) : Int) = x.p by omega, show ((y.p.toNat : Nat) : Int) = y.p by omega]
  refine ⟨by omega, Nat.mul_pos (by omega) (by omega), e⟩
theorem div_lt' {a : Nat} (ha : a < x.p.toNat * y.p.toNat) : a / y.p.toNat < x.p.toNat := by
  have h2 := hy.1
  exact (Nat.div_lt_iff_lt_mul (by omega)).2 ha
theorem mod_lt' (a : Nat) : a % y.p.toNat < y.p.toNat := by
  have h2 := hy.1
  exact Nat.mod_lt _ (by omega)
theorem mod_ne {a b : Nat} (hab : a ≠ b) (hd : a / y.p.toNat = b / y.p.toNat) : a % y.p.toNat ≠ b % y.p.toNat := fun hm => hab (by
  rw [← Nat.div_add_mod a y.p.toNat, ← Nat.div_add_mod b y.p.toNat, hd, hm])
theorem pG_rg {a b : Nat} (hab : a ≠ b) (ha : a < x.p.toNat * y.p.toNat) (hb : b < x.p.toNat * y.p.toNat) : 0 ≤ pG x y a b ∧ pG x y a b < x.k + y.k ∧ (pG x y a b < x.k ↔ a / y.p.toNat ≠ b / y.p.toNat) := by
  have h1 := hx.1
  have h2 := hy.1
  have h3 := hx.2.1
  have h4 := hy.2.1
  unfold pG
  by_cases hd : a / y.p.toNat ≠ b / y.p.toNat
  · rw [if_pos hd]
    have da := div_lt' hx hy hp hk ha
    have db := div_lt' hx hy hp hk hb
    have := is_cc hx (a := a / y.p.toNat) (b := b / y.p.toNat) (by omega) (by omega) hd
    refine ⟨this.1, by omega, fun _ => hd, fun _ => this.2⟩
  · rw [if_neg hd]
    have hd' := Classical.not_not.1 hd
    have da := mod_lt' hx hy hp hk a
    have db := mod_lt' hx hy hp hk b
    have := is_cc hy (a := a % y.p.toNat) (b := b % y.p.toNat) (by omega) (by omega) (mod_ne hx hy hp hk hab hd')
    refine ⟨by omega, by omega, fun h => by omega, fun h => absurd h hd⟩
omit hx hy hp hk in
theorem pG_comm (a b : Nat) : pG x y a b = pG x y b a := by
  unfold pG
  by_cases hd : a / y.p.toNat = b / y.p.toNat
  · rw [if_neg (fun h => h hd), if_neg (fun h => h hd.symm), cc_comm y]
  · rw [if_pos hd, if_pos (fun h => hd h.symm), cc_comm x]
theorem prC_is : (prC x y).is := by
  obtain ⟨n1, n2, n3⟩ := pN hx hy hp hk
  have h3 := hx.2.1
  have h4 := hy.2.1
  refine mkC_is n2 n1 ⟨by omega, hk⟩ _ fun a b hab hb => ?_
  have := pG_rg hx hy hp hk (a := a) (b := b) (by omega) (by omega) hb
  exact ⟨this.1, this.2.1⟩
theorem prC_cc {a b : Nat} (hab : a ≠ b) (ha : a < x.p.toNat * y.p.toNat) (hb : b < x.p.toNat * y.p.toNat) : (prC x y).cc a b = pG x y a b := by
  obtain ⟨n1, n2, n3⟩ := pN hx hy hp hk
  have h3 := hx.2.1
  have h4 := hy.2.1
  rcases Nat.lt_or_ge a b with q | q
  · have := pG_rg hx hy hp hk (a := a) (b := b) hab ha hb
    exact mkC_cc n1 _ _ q hb ⟨this.1, by omega⟩
  · have := pG_rg hx hy hp hk (a := b) (b := a) (fun e => hab e.symm) hb ha
    rw [cc_comm, pG_comm]
    exact mkC_cc n1 _ _ (by omega) ha ⟨this.1, by omega⟩

theorem impl_prod {k : Nat} (h5 : 5000 ≤ k) : impl_product k x y = some (prC x y) := by
  obtain ⟨n1, n2, n3⟩ := pN hx hy hp hk
  have h1 := hx.1
  have h2 := hy.1
  have h3 := hx.2.1
  have h4 := hy.2.1
  have hyn : ((y.p.toNat : Nat) : Int) = y.p := by omega
  unfold impl_product
  rw [w64_id (n := x.p * y.p) (by omega), w64_id (n := x.k + y.k) (by omega), ← n3]
  rw [made_val (g := pG x y) n1 (by omega) fun i j hij hj => by
    have hi : i < x.p.toNat * y.p.toNat := by omega
    have di := div_lt' hx hy hp hk hi
    have dj := div_lt' hx hy hp hk hj
    have mi := mod_lt' hx hy hp hk i
    have mj := mod_lt' hx hy hp hk j
    have e1 : (i : Int).tdiv y.p = ((i / y.p.toNat : Nat) : Int) := by rw [← hyn]; rfl
    have e2 : (j : Int).tdiv y.p = ((j / y.p.toNat : Nat) : Int) := by rw [← hyn]; rfl
    have e3 : (i : Int).tmod y.p = ((i % y.p.toNat : Nat) : Int) := by rw [← hyn]; rfl
    have e4 : (j : Int).tmod y.p = ((j % y.p.toNat : Nat) : Int) := by rw [← hyn]; rfl
    have hmn := fun hd => mod_ne hx hy hp hk (show i ≠ j by omega) hd
    unfold pG
    generalize i / y.p.toNat = qi at *
    generalize j / y.p.toNat = qj at *
    generalize i % y.p.toNat = ri at *
    generalize j % y.p.toNat = rj at *
    have hne : y.p ≠ 0 := by omega
    unfold impl_product_c1
    rw [e1, e2, e3, e4, w64_id (n := (qi : Int)) (by omega), w64_id (n := (qj : Int)) (by omega)]
    simp only [hne, ne_eq, not_false_eq_true, if_true]
    by_cases hd : qi = qj
    · have hm := hmn hd
      have hcc := is_cc hy (a := ri) (b := rj) (by omega) (by omega) hm
      rw [decide_eq_true (show (qi : Int) = (qj : Int) by omega), Bool.not_true, if_neg (by simp), implAt_ne y _ _ (by omega) (by omega) (by omega) (by omega) (by omega), Option.bind_some, w64_id (by omega)]
      simp [hd]
    · have hcc := is_cc hx (a := qi) (b := qj) (by omega) (by omega) hd
      rw [decide_eq_false (show ¬ (qi : Int) = (qj : Int) by omega), Bool.not_false, if_pos rfl, implAt_ne x _ _ (by omega) (by omega) (by omega) (by omega) (by omega), Option.bind_some]
      simp [hd]]
  rfl
theorem spec_prod {k : Nat} (h5 : 5000 ≤ k) : spec_ProductColouring_l0 k x y k 1 (⟨w64 (x.p * y.p), w64 (x.k + y.k), B136.zero⟩ : Col) = some (prC x y) := by
  obtain ⟨n1, n2, n3⟩ := pN hx hy hp hk
  have h1 := hx.1
  have h2 := hy.1
  have h3 := hx.2.1
  have h4 := hy.2.1
  have hyn : ((y.p.toNat : Nat) : Int) = y.p := by omega
  have hne : y.p ≠ 0 := by omega
  rw [w64_id (n := x.p * y.p) (by omega), w64_id (n := x.k + y.k) (by omega), ← n3]
  have := nest (fun k' j s => spec_ProductColouring_l0 k x y k' j s) (x.p.toNat * y.p.toNat) n1 (pG x y) (x.k + y.k)
    (fun k' j s hj q1 q2 q3 => by
      obtain ⟨z, e, r⟩ := nest1 (fun K i s => spec_ProductColouring_l1 k x y j K i s) (x.p.toNat * y.p.toNat) n1 (pG x y) j hj (x.k + y.k)
        (fun k' i s hi _ _ => by
          have hi' : i < x.p.toNat * y.p.toNat := by omega
          have di := div_lt' hx hy hp hk hi'
          have dj := div_lt' hx hy hp hk hj
          have mi := mod_lt' hx hy hp hk i
          have mj := mod_lt' hx hy hp hk j
          have e1 : (i : Int).tdiv y.p = ((i / y.p.toNat : Nat) : Int) := by rw [← hyn]; rfl
          have e2 : (j : Int).tdiv y.p = ((j / y.p.toNat : Nat) : Int) := by rw [← hyn]; rfl
          have e3 : (i : Int).tmod y.p = ((i % y.p.toNat : Nat) : Int) := by rw [← hyn]; rfl
          have e4 : (j : Int).tmod y.p = ((j % y.p.toNat : Nat) : Int) := by rw [← hyn]; rfl
          have hmn := fun hd => mod_ne hx hy hp hk (show i ≠ j by omega) hd
          unfold pG
          generalize i / y.p.toNat = qi at *
          generalize j / y.p.toNat = qj at *
          generalize i % y.p.toNat = ri at *
          generalize j % y.p.toNat = rj at *
          have he := edge_eq (i : Int) (j : Int) (by omega) (by omega)
          simp only [Int.toNat_natCast] at he
          have h136 := eN_136 (i := i) (j := j) (by omega) (by omega) (by omega)
          have c1 : (i : Int) < (j : Int) := by omega
          have c4 : ((eN i j : Nat) : Int) < 136 := by omega
          show spec_ProductColouring_l1 k x y j (k' + 1) i s = spec_ProductColouring_l1 k x y j k' ((i + 1 : Nat) : Int) _
          rw [spec_ProductColouring_l1, he, e1, e2, e3, e4, w64_id (n := (qi : Int)) (by omega), w64_id (n := (qj : Int)) (by omega), w64_id (n := (i : Int) + 1) (by omega)]
          by_cases hd : qi = qj
          · have hm := hmn hd
            have hcc := is_cc hy (a := ri) (b := rj) (by omega) (by omega) hm
            rw [specAt_ne y _ _ (by omega) (by omega) (by omega) (by omega) (by omega)]
            have hde : (qi : Int) = (qj : Int) := by omega
            rw [Option.bind_some, w64_id (n := x.k + y.cc (ri : Int) (rj : Int)) (by omega)]
            simp only [hne, ne_eq, not_false_eq_true, if_true, c1, c4, decide_true, hde, Bool.not_true, Bool.false_eq_true, if_false, Int.natCast_nonneg, and_self, Option.bind_some, Int.toNat_natCast, hd, not_true_eq_false]
            rfl
          · have hcc := is_cc hx (a := qi) (b := qj) (by omega) (by omega) hd
            have hde : ¬ (qi : Int) = (qj : Int) := by omega
            rw [specAt_ne x _ _ (by omega) (by omega) (by omega) (by omega) (by omega)]
            rw [Option.bind_some]
            simp only [hne, ne_eq, not_false_eq_true, if_true, c1, c4, decide_true, hde, decide_false, Bool.not_false, Int.natCast_nonneg, and_self, Option.bind_some, Int.toNat_natCast, hd]
            rfl)
        (fun k' s => by
          show spec_ProductColouring_l1 k x y j (k' + 1) j s = _
          rw [spec_ProductColouring_l1]; simp) j 0 k s (by omega) (by omega) q1 q2 q3
      refine ⟨z, r, ?_⟩
      have c1 : (j : Int) < ((x.p.toNat * y.p.toNat : Nat) : Int) := by omega
      show spec_ProductColouring_l0 k x y (k' + 1) j s = spec_ProductColouring_l0 k x y k' ((j + 1 : Nat) : Int) z
      have e' : spec_ProductColouring_l1 k x y j k 0 s = some z := e
      rw [spec_ProductColouring_l0, q1, e', w64_id (n := (j : Int) + 1) (by omega)]
      simp only [c1, decide_true, if_true, Option.bind_some]
      rfl)
    (fun k' s q1 => by
      show spec_ProductColouring_l0 k x y (k' + 1) ((x.p.toNat * y.p.toNat : Nat) : Int) s = _
      rw [spec_ProductColouring_l0, q1]; simp) k 1 (by omega) n2 (by omega)
  exact this

/-! ### Its cliques -/
theorem prC_a {c : Int} {a b : Nat} (ha : a < x.p.toNat * y.p.toNat) (hb : b < x.p.toNat * y.p.toNat) : aB (prC x y) c a b = true ↔ a ≠ b ∧ pG x y a b = c := by
  unfold aB
  rw [decide_eq_true_iff]
  constructor
  · rintro ⟨h1, h2⟩
    have h3 : a ≠ b := by omega
    rw [prC_cc hx hy hp hk h3 ha hb] at h2
    exact ⟨h3, h2⟩
  · rintro ⟨h1, h2⟩
    exact ⟨by omega, by rw [prC_cc hx hy hp hk h1 ha hb]; exact h2⟩
omit hx hy hp hk in
theorem gw_iff {u v : Col} {c d : Int} (h1 : ∀ m, hasK (aB u c) m (pts u) → hasK (aB v d) m (pts v)) (h2 : ∀ m, hasK (aB v d) m (pts v) → hasK (aB u c) m (pts u)) : gw u c = gw v d := by
  have key : ∀ m, m ≤ gw u c ↔ m ≤ gw v d := fun m => by
    rw [gw_cl, gw_cl]
    exact ⟨fun h => hasK_cl (fun a b => aB_comm ..) (fun a => aB_irr ..) (h1 m (cl_hasK h)), fun h => hasK_cl (fun a b => aB_comm ..) (fun a => aB_irr ..) (h2 m (cl_hasK h))⟩
  have a1 := (key (gw u c)).1 (Nat.le_refl _)
  have a2 := (key (gw v d)).2 (Nat.le_refl _)
  omega
theorem pts_pr : pts (prC x y) = ir 0 (x.p.toNat * y.p.toNat) := by
  show ir 0 ((x.p.toNat * y.p.toNat : Nat) : Int).toNat = _
  rw [Int.toNat_natCast]
theorem gw_first {c : Nat} (hc : (c : Int) < x.k) : gw (prC x y) c = gw x c := by
  obtain ⟨n1, n2, n3⟩ := pN hx hy hp hk
  have h1 := hx.1
  have h2 := hy.1
  have hpt := pts_pr hx hy hp hk
  refine gw_iff (fun m h => ?_) (fun m h => ?_)
  · refine hasK_map (fun z => ((z.toNat / y.p.toNat : Nat) : Int)) (fun z hz => ?_) (fun a ha b hb hab => ?_) h
    · rw [hpt, mem_ir] at hz
      have := div_lt' hx hy hp hk (a := z.toNat) (by omega)
      exact mem_ir.2 ⟨Int.ofNat_le.2 (Nat.zero_le _), Int.ofNat_lt.2 this⟩
    · rw [hpt, mem_ir] at ha hb
      have hab' : aB (prC x y) (c : Int) ((a.toNat : Nat) : Int) ((b.toNat : Nat) : Int) = true := by
        rw [show ((a.toNat : Nat) : Int) = a by omega, show ((b.toNat : Nat) : Int) = b by omega]; exact hab
      obtain ⟨q1, q2⟩ := (prC_a hx hy hp hk (by omega) (by omega)).1 hab'
      have hr := pG_rg hx hy hp hk q1 (by omega) (by omega)
      have hd := hr.2.2.1 (by omega)
      unfold pG at q2
      rw [if_pos hd] at q2
      unfold aB
      rw [decide_eq_true_iff]
      exact ⟨by omega, q2⟩
  · refine hasK_map (fun z => ((z.toNat * y.p.toNat : Nat) : Int)) (fun z hz => ?_) (fun a ha b hb hab => ?_) h
    · have hz' := mem_ir.1 (show z ∈ ir 0 x.p.toNat from hz)
      rw [hpt, mem_ir]
      have : z.toNat * y.p.toNat < x.p.toNat * y.p.toNat := Nat.mul_lt_mul_of_pos_right (by omega) (by omega)
      omega
    · have ha' := mem_ir.1 (show a ∈ ir 0 x.p.toNat from ha)
      have hb' := mem_ir.1 (show b ∈ ir 0 x.p.toNat from hb)
      have ta : a.toNat * y.p.toNat < x.p.toNat * y.p.toNat := Nat.mul_lt_mul_of_pos_right (by omega) (by omega)
      have tb : b.toNat * y.p.toNat < x.p.toNat * y.p.toNat := Nat.mul_lt_mul_of_pos_right (by omega) (by omega)
      have da : a.toNat * y.p.toNat / y.p.toNat = a.toNat := Nat.mul_div_cancel _ (by omega)
      have db : b.toNat * y.p.toNat / y.p.toNat = b.toNat := Nat.mul_div_cancel _ (by omega)
      unfold aB at hab
      rw [decide_eq_true_iff] at hab
      refine (prC_a hx hy hp hk ta tb).2 ⟨fun e => ?_, ?_⟩
      · have : a.toNat = b.toNat := by rw [← da, e, db]
        omega
      · unfold pG
        rw [da, db, if_pos (by omega), show ((a.toNat : Nat) : Int) = a by omega, show ((b.toNat : Nat) : Int) = b by omega]
        exact hab.2
theorem gw_second {d : Nat} (hd : (d : Int) < y.k) : gw (prC x y) (x.k + d) = gw y d := by
  obtain ⟨n1, n2, n3⟩ := pN hx hy hp hk
  have h1 := hx.1
  have h2 := hy.1
  have hpt := pts_pr hx hy hp hk
  have hm : y.p.toNat ≤ x.p.toNat * y.p.toNat := Nat.le_mul_of_pos_left _ (by omega)
  refine gw_iff (fun m h => ?_) (fun m h => ?_)
  · refine hasK_map (fun z => ((z.toNat % y.p.toNat : Nat) : Int)) (fun z hz => ?_) (fun a ha b hb hab => ?_) h
    · have := mod_lt' hx hy hp hk z.toNat
      exact mem_ir.2 ⟨Int.ofNat_le.2 (Nat.zero_le _), Int.ofNat_lt.2 this⟩
    · rw [hpt, mem_ir] at ha hb
      have hab' : aB (prC x y) (x.k + (d : Int)) ((a.toNat : Nat) : Int) ((b.toNat : Nat) : Int) = true := by
        rw [show ((a.toNat : Nat) : Int) = a by omega, show ((b.toNat : Nat) : Int) = b by omega]; exact hab
      obtain ⟨q1, q2⟩ := (prC_a hx hy hp hk (by omega) (by omega)).1 hab'
      have hr := pG_rg hx hy hp hk q1 (by omega) (by omega)
      have hdd : a.toNat / y.p.toNat = b.toNat / y.p.toNat := Classical.not_not.1 fun h => by have := hr.2.2.2 h; omega
      have hmn := mod_ne hx hy hp hk q1 hdd
      unfold pG at q2
      rw [if_neg (fun h => h hdd)] at q2
      unfold aB
      rw [decide_eq_true_iff]
      exact ⟨by omega, by omega⟩
  · refine hasK_map (fun z => z) (fun z hz => ?_) (fun a ha b hb hab => ?_) h
    · have hz' := mem_ir.1 (show z ∈ ir 0 y.p.toNat from hz)
      rw [hpt, mem_ir]
      omega
    · have ha' := mem_ir.1 (show a ∈ ir 0 y.p.toNat from ha)
      have hb' := mem_ir.1 (show b ∈ ir 0 y.p.toNat from hb)
      have da : a.toNat / y.p.toNat = 0 := Nat.div_eq_of_lt (by omega)
      have db : b.toNat / y.p.toNat = 0 := Nat.div_eq_of_lt (by omega)
      have ma : a.toNat % y.p.toNat = a.toNat := Nat.mod_eq_of_lt (by omega)
      have mb : b.toNat % y.p.toNat = b.toNat := Nat.mod_eq_of_lt (by omega)
      unfold aB at hab
      rw [decide_eq_true_iff] at hab
      have := (prC_a hx hy hp hk (c := x.k + (d : Int)) (a := a.toNat) (b := b.toNat) (by omega) (by omega)).2 ⟨by omega, by
        unfold pG
        rw [da, db, if_neg (fun h => h rfl), ma, mb, show ((a.toNat : Nat) : Int) = a by omega, show ((b.toNat : Nat) : Int) = b by omega, hab.2]⟩
      rwa [show ((a.toNat : Nat) : Int) = a by omega, show ((b.toNat : Nat) : Int) = b by omega] at this
theorem numbers_pr : (mapL (prC x y).k.toNat fun c => (gw (prC x y) c : Int)) = (mapL x.k.toNat fun c => (gw x c : Int)) ++ mapL y.k.toNat fun c => (gw y c : Int) := by
  have h3 := hx.2.1
  have h4 := hy.2.1
  have hk0 : (prC x y).k.toNat = x.k.toNat + y.k.toNat := by show (x.k + y.k).toNat = _; omega
  rw [hk0]
  unfold mapL
  rw [List.range_add, List.map_append, List.map_map]
  congr 1
  · refine List.map_congr_left fun c hc => ?_
    rw [List.mem_range] at hc
    rw [gw_first hx hy hp hk (by omega)]
  · refine List.map_congr_left fun c hc => ?_
    rw [List.mem_range] at hc
    show ((gw (prC x y) ((x.k.toNat + c : Nat) : Int) : Nat) : Int) = _
    rw [show ((x.k.toNat + c : Nat) : Int) = x.k + (c : Int) by omega, gw_second hx hy hp hk (by omega)]
end
open Classical in
noncomputable def pdR (x y : Col) : Col × Int := if x.is ∧ y.is then (if x.p * y.p ≤ 17 ∧ x.k + y.k ≤ 4 then (prC x y, 0) else (⟨0, 0, B136.zero⟩, 3)) else (⟨0, 0, B136.zero⟩, 1)
theorem mul_rg {a b : Int} (ha : 1 ≤ a ∧ a ≤ 17) (hb : 1 ≤ b ∧ b ≤ 17) : 1 ≤ a * b ∧ a * b ≤ 289 := by
  constructor
  · have := Int.mul_le_mul ha.1 hb.1 (by omega) (by omega); omega
  · have := Int.mul_le_mul ha.2 hb.2 (by omega) (by omega); omega
theorem pd_impl {k : Nat} (h5 : 5000 ≤ k) (x y : Col) : impl_ProductColouring k x y = some (pdR x y) := by
  classical
  unfold impl_ProductColouring pdR
  rw [isColouring_eq k (by omega), Option.bind_some]
  by_cases hx : x.is
  · rw [decide_eq_true hx, Bool.not_true, if_neg (by simp), isColouring_eq k (by omega), Option.bind_some]
    by_cases hy : y.is
    · have h3 := hx.2.1
      have h4 := hy.2.1
      have hm := mul_rg hx.1 hy.1
      have hxy : x.is ∧ y.is := ⟨hx, hy⟩
      rw [decide_eq_true hy, Bool.not_true, if_pos hxy]
      simp only [Option.bind_some, Bool.false_eq_true, if_false]
      have hs : impl_areSizes (w64 (x.p * y.p)) (w64 (x.k + y.k)) = decide (x.p * y.p ≤ 17 ∧ x.k + y.k ≤ 4) := by
        unfold impl_areSizes
        rw [in_eq, in_eq, w64_id (n := x.p * y.p) (by omega), w64_id (n := x.k + y.k) (by omega)]
        simp only [letO]
        by_cases q1 : x.p * y.p ≤ 17
        · by_cases q2 : x.k + y.k ≤ 4
          · rw [decide_eq_true (show 1 ≤ x.p * y.p ∧ x.p * y.p ≤ 17 by omega), if_pos rfl, decide_eq_true (by omega), decide_eq_true ⟨q1, q2⟩]
          · rw [decide_eq_true (show 1 ≤ x.p * y.p ∧ x.p * y.p ≤ 17 by omega), if_pos rfl, decide_eq_false (by omega), decide_eq_false (fun h => q2 h.2)]
        · rw [decide_eq_false (show ¬ (1 ≤ x.p * y.p ∧ x.p * y.p ≤ 17) by omega), if_neg (by simp), decide_eq_false (fun h => q1 h.1)]
      rw [hs]
      by_cases h : x.p * y.p ≤ 17 ∧ x.k + y.k ≤ 4
      · rw [decide_eq_true h, Bool.not_true, if_neg (by simp), if_pos h, Option.bind_some]
        simp only
        rw [impl_prod hx hy h.1 h.2 h5]; rfl
      · rw [decide_eq_false h, Bool.not_false, if_pos rfl, if_neg h]; rfl
    · have hxy : ¬ (x.is ∧ y.is) := fun h => hy h.2
      rw [decide_eq_false hy, if_neg hxy]; rfl
  · have hxy : ¬ (x.is ∧ y.is) := fun h => hx h.1
    rw [decide_eq_false hx, if_neg hxy]; rfl
theorem pd_spec {k : Nat} (h5 : 5000 ≤ k) (x y : Col) : spec_ProductColouring k x y = some (pdR x y) := by
  classical
  unfold spec_ProductColouring pdR
  rw [specIs_eq k (by omega), Option.bind_some]
  by_cases hx : x.is
  · rw [decide_eq_true hx, Bool.not_true, if_neg (by simp), specIs_eq k (by omega), Option.bind_some]
    by_cases hy : y.is
    · have h3 := hx.2.1
      have h4 := hy.2.1
      have hm := mul_rg hx.1 hy.1
      have hxy : x.is ∧ y.is := ⟨hx, hy⟩
      rw [decide_eq_true hy, Bool.not_true, if_pos hxy]
      simp only [Option.bind_some, Bool.false_eq_true, if_false, letO]
      have hs : (if decide (17 < w64 (x.p * y.p)) = true then true else decide (4 < w64 (x.k + y.k))) = !decide (x.p * y.p ≤ 17 ∧ x.k + y.k ≤ 4) := by
        rw [w64_id (n := x.p * y.p) (by omega), w64_id (n := x.k + y.k) (by omega)]
        by_cases q1 : x.p * y.p ≤ 17
        · by_cases q2 : x.k + y.k ≤ 4
          · rw [decide_eq_false (show ¬ 17 < x.p * y.p by omega), if_neg (by simp), decide_eq_false (by omega), decide_eq_true ⟨q1, q2⟩]; rfl
          · rw [decide_eq_false (show ¬ 17 < x.p * y.p by omega), if_neg (by simp), decide_eq_true (by omega), decide_eq_false (fun h => q2 h.2)]; rfl
        · rw [decide_eq_true (show 17 < x.p * y.p by omega), if_pos rfl, decide_eq_false (fun h => q1 h.1)]; rfl
      rw [hs]
      by_cases h : x.p * y.p ≤ 17 ∧ x.k + y.k ≤ 4
      · rw [decide_eq_true h, Bool.not_true, if_neg (by simp), if_pos h, Option.bind_some]
        simp only
        rw [spec_prod hx hy h.1 h.2 h5]; rfl
      · rw [decide_eq_false h, Bool.not_false, if_pos rfl, if_neg h]; rfl
    · have hxy : ¬ (x.is ∧ y.is) := fun h => hy h.2
      rw [decide_eq_false hy, if_neg hxy]; rfl
  · have hxy : ¬ (x.is ∧ y.is) := fun h => hx h.1
    rw [decide_eq_false hx, if_neg hxy]; rfl

def okS (s : Src) : Prop := 0 ≤ s.i ∧ s.c.length ≤ 4096

theorem mask_range (a : Int) : 0 ≤ bAnd .u64 a 16777215 ∧ bAnd .u64 a 16777215 ≤ 16777215 := by
  unfold bAnd
  have e : (BitVec.ofInt IntKind.u64.bits a &&& BitVec.ofInt IntKind.u64.bits 16777215).toNat ≤ 16777215 := by
    show (BitVec.ofInt 64 a &&& BitVec.ofInt 64 16777215).toNat ≤ 16777215
    rw [BitVec.toNat_and]
    have : (BitVec.ofInt 64 16777215).toNat = 16777215 := by decide
    rw [this]
    exact Nat.and_le_right
  generalize (BitVec.ofInt IntKind.u64.bits a &&& BitVec.ofInt IntKind.u64.bits 16777215).toNat = m at e
  rw [u64_id (by omega)]
  omega

theorem next_ok (s : Src) (n : Int) (h : okS s) : ∃ v s', spec_l01Next s n = some (v, s') ∧ okS s' ∧ (1 ≤ n → 0 ≤ v ∧ v < n) ∧ (n < 1 → v = 0) := by
  unfold spec_l01Next
  obtain ⟨h0, h1⟩ := h
  by_cases hn : n < 1
  · exact ⟨0, s, by simp [hn], ⟨h0, h1⟩, fun h => by omega, fun _ => rfl⟩
  · generalize IntKind.u64.wrap ((IntKind.u64.wrap (s.h * 6364136223846793005)) + 1442695040888963407) = hh
    have hm := mask_range (bShr .u64 hh 33)
    generalize bAnd .u64 (bShr .u64 hh 33) 16777215 = v at hm
    have hn0 : n ≠ 0 := by omega
    have key : ∀ w : Int, 0 ≤ w → (1 ≤ n → 0 ≤ w.tmod n ∧ w.tmod n < n) := fun w hw hn => ⟨Int.tmod_nonneg n hw, Int.tmod_lt_of_pos w (by omega)⟩
    by_cases hi : s.i < (s.c.length : Int)
    · have hb : ((s.c.getD s.i.toNat 0).toNat : Int) < 256 := by have := (s.c.getD s.i.toNat 0).toNat_lt; omega
      refine ⟨(w64 (w64 v + ((s.c.getD s.i.toNat 0).toNat : Int))).tmod n, ⟨s.c, w64 (s.i + 1), hh⟩, ?_, ⟨?_, h1⟩, key _ ?_, fun h => by omega⟩
      · simp only [hn, decide_false, Bool.false_eq_true, if_false, hi, decide_true, if_true, h0, and_self, Option.bind_some, hn0, ne_eq, not_false_eq_true]
      · rw [w64_id (by omega)]; show 0 ≤ s.i + 1; omega
      · rw [w64_id (n := v) (by omega), w64_id (by omega)]; omega
    · refine ⟨(w64 v).tmod n, ⟨s.c, s.i, hh⟩, ?_, ⟨h0, h1⟩, key _ ?_, fun h => by omega⟩
      · simp only [hn, decide_false, Bool.false_eq_true, if_false, hi, Option.bind_some, hn0, ne_eq, not_false_eq_true, if_true]
      · rw [w64_id (by omega)]; omega

theorem pick_ok (s : Src) (l : List Int) (h : okS s) (hl : 1 ≤ l.length) : ∃ v s', spec_l01Pick s l = some (v, s') ∧ okS s' ∧ v ∈ l := by
  unfold spec_l01Pick
  obtain ⟨v, s', e, hs, hv, _⟩ := next_ok s l.length h
  obtain ⟨v0, v1⟩ := hv (by omega)
  have hlt : v.toNat < l.length := by omega
  refine ⟨l.getD v.toNat 0, s', ?_, hs, by simp [List.getD, hlt]⟩
  rw [e]
  simp [v0, v1]

theorem from_ok {k : Nat} (hk : 5000 ≤ k) (c : List UInt8) (hc : c.length ≤ 4096) : ∃ s, spec_l01From k c = some s ∧ okS s := by
  unfold spec_l01From
  have := loopI (f := fun k' i (s : Src) => spec_l01From_l0 c k' i s) (c.length : Int) 0 (fun i s => s.i = 0 ∧ s.c = c) (fun s => okS s) ?_ ?_ k 0 ⟨c, 0, IntKind.u64.wrap (13621 + (IntKind.u64.wrap (c.length : Int)))⟩ (by omega) (by omega) ⟨rfl, rfl⟩
  · obtain ⟨s, e, h⟩ := this
    exact ⟨s, by rw [e]; rfl, h⟩
  · rintro k' i s h0 h1 ⟨q1, q2⟩
    left
    refine ⟨⟨s.c, s.i, IntKind.u64.wrap ((IntKind.u64.wrap ((IntKind.u64.wrap (s.h * 1099511628211)) + ((c.getD i.toNat 0).toNat : Int))) + 193)⟩, ?_, q1, q2⟩
    show spec_l01From_l0 c (k' + 1) i s = _
    rw [spec_l01From_l0, w64_succ h0 h1 (by omega)]
    have h2 : i < 4096 := by omega
    simp only [letO, h1, h2, decide_true, if_true, Option.bind_some, h0, and_self]
  · rintro k' i s h0 h1 ⟨q1, q2⟩
    have hn : ¬ i < (c.length : Int) := by omega
    refine ⟨s, ?_, by rw [q1]; exact Int.le_refl _, by rw [q2]; exact hc⟩
    show spec_l01From_l0 c (k' + 1) i s = _
    rw [spec_l01From_l0]
    simp [letO, hn]

def isOrd (n : Nat) (l : List Int) : Prop := l.length = n ∧ l.Nodup ∧ ∀ z ∈ l, 0 ≤ z ∧ z < n

theorem order_ok {k : Nat} (hk : 5000 ≤ k) (s : Src) (n : Nat) (h : okS s) (hn : n ≤ 1000) : ∃ l s', spec_l01DrawOrder k s n = some (l, s') ∧ okS s' ∧ isOrd n l := by
  unfold spec_l01DrawOrder
  have := loopI (f := fun k' i (t : Src × List Int) => spec_l01DrawOrder_l0 n k' i t.1 t.2) (n : Int) 0 (fun i t => i ≤ n ∧ okS t.1 ∧ isOrd i.toNat t.2) (fun t => okS t.1 ∧ isOrd n t.2) ?_ ?_ k 0 (s, []) (by omega) (by omega) ⟨by omega, h, rfl, by simp, by simp⟩
  · obtain ⟨⟨s', l⟩, e, h1, h2⟩ := this
    simp only at e
    exact ⟨l, s', by rw [e]; rfl, h1, h2⟩
  · rintro k' i ⟨t, l⟩ h0 h1 ⟨_, q1, q2, q3, q4⟩
    left
    obtain ⟨m, rfl⟩ := nat_of h0
    simp only [Int.toNat_natCast] at q1 q2 q3 q4
    obtain ⟨v, t', e, ht, hv, _⟩ := next_ok t ((m : Int) + 1) q1
    obtain ⟨v0, v1⟩ := hv (by omega)
    have hperm : ((l.take v.toNat ++ [(m : Int)]) ++ l.drop v.toNat).Perm ((m : Int) :: l) := by
      rw [List.append_assoc]
      refine List.perm_middle.trans (List.Perm.cons _ ?_)
      show (l.take v.toNat ++ l.drop v.toNat).Perm l
      rw [List.take_append_drop]
    refine ⟨(t', (l.take v.toNat ++ [(m : Int)]) ++ l.drop v.toNat), ?_, by omega, ht, ?_, ?_, ?_⟩
    · show spec_l01DrawOrder_l0 n (k' + 1) m t l = _
      rw [spec_l01DrawOrder_l0, w64_succ h0 h1 (by omega), e]
      have e1 : v ≤ ((l.length : Nat) : Int) := by omega
      have e2 : ((l.drop 0).take (v.toNat - 0)) = l.take v.toNat := by simp
      have e3 : (l.drop v.toNat).take (l.length - v.toNat) = l.drop v.toNat := by rw [List.take_of_length_le (by simp)]
      have e4 : spec_l01Own (l.take v.toNat) = some (l.take v.toNat) := by
        unfold spec_l01Own
        rw [if_pos (by simp; omega)]; rfl
      simp only [h1, decide_true, if_true, Option.bind_some, v0, e1, Int.le_refl, Nat.le_refl, and_self, e2, e3, e4]
      have f1 : (l.take v.toNat).length + ([(m : Int)]).length ≤ 1099511627776 := by simp; omega
      have f2 : (l.take v.toNat ++ [(m : Int)]).length + (l.drop v.toNat).length ≤ 1099511627776 := by simp; omega
      first
        | rw [if_pos f1, if_pos f2]
        | rw [if_pos f2]
    · simp only
      rw [hperm.length_eq]
      simp only [List.length_cons, q2]; omega
    · simp only
      rw [hperm.nodup_iff, List.nodup_cons]
      exact ⟨fun hm => by have := q4 _ hm; omega, q3⟩
    · intro z hz
      simp only at hz
      rw [hperm.mem_iff, List.mem_cons] at hz
      have e1 : ((m : Int) + 1).toNat = m + 1 := by omega
      rw [e1]
      rcases hz with rfl | hz
      · omega
      · have := q4 z hz; omega
  · rintro k' i ⟨t, l⟩ h0 h1 ⟨q0, q1, q2⟩
    have : i = n := by omega
    subst this
    refine ⟨(t, l), ?_, q1, by simpa using q2⟩
    show spec_l01DrawOrder_l0 n (k' + 1) n t l = _
    rw [spec_l01DrawOrder_l0]; simp

theorem isOrd.two {n : Nat} {l : List Int} (h : isOrd n l) (hn : 2 ≤ n) : ∃ a b, l.getD 0 0 = a ∧ l.getD 1 0 = b ∧ a ≠ b ∧ (0 ≤ a ∧ a < n) ∧ (0 ≤ b ∧ b < n) := by
  obtain ⟨h1, h2, h3⟩ := h
  match l, h1 with
  | a :: b :: t, _ =>
    refine ⟨a, b, rfl, rfl, fun e => ?_, h3 a (by simp), h3 b (by simp)⟩
    rw [List.nodup_cons] at h2
    exact h2.1 (by simp [e])
  | [a], h1 => simp at h1; omega
  | [], h1 => simp at h1; omega

theorem isOrd.ne {n : Nat} {l : List Int} (h : isOrd n l) {i j : Nat} (hi : i < n) (hj : j < n) (hij : i ≠ j) : l.getD i 0 ≠ l.getD j 0 := by
  obtain ⟨h1, h2, h3⟩ := h
  have e1 : l.getD i 0 = l[i]'(by omega) := by simp [List.getD, show i < l.length by omega]
  have e2 : l.getD j 0 = l[j]'(by omega) := by simp [List.getD, show j < l.length by omega]
  rw [e1, e2]
  exact fun e => hij ((List.getElem_inj h2).1 e)

theorem isOrd.get {n : Nat} {l : List Int} (h : isOrd n l) {i : Nat} (hi : i < n) : 0 ≤ l.getD i 0 ∧ l.getD i 0 < n := by
  obtain ⟨h1, h2, h3⟩ := h
  have e1 : l.getD i 0 = l[i]'(by omega) := by simp [List.getD, show i < l.length by omega]
  rw [e1]
  exact h3 _ (List.getElem_mem _)

theorem edge_ok {a b : Int} (ha : 0 ≤ a ∧ a < 17) (hb : 0 ≤ b ∧ b < 17) (h : a ≠ b) : 0 ≤ spec_l01Edge a b ∧ spec_l01Edge a b < 136 := by
  rw [edge_eq a b ha hb]
  have := eN_136 (i := a.toNat) (j := b.toNat) (by omega) (by omega) (by omega)
  omega

theorem half_ok (n : Int) (h : 1 ≤ n ∧ n ≤ 17) : 0 ≤ w64 ((w64 (n * (w64 (n - 1)))).tdiv 2) ∧ w64 ((w64 (n * (w64 (n - 1)))).tdiv 2) ≤ 136 := by
  have key : ∀ m : Nat, m ≤ 17 → 1 ≤ m → 0 ≤ w64 ((w64 ((m : Int) * (w64 ((m : Int) - 1)))).tdiv 2) ∧ w64 ((w64 ((m : Int) * (w64 ((m : Int) - 1)))).tdiv 2) ≤ 136 := by decide +kernel
  obtain ⟨m, rfl⟩ := nat_of (show 0 ≤ n by omega)
  exact key m (by omega) (by omega)

theorem drawOf_ok {k : Nat} (hk : 5000 ≤ k) (s : Src) (n c : Int) (h : okS s) (hn : 1 ≤ n ∧ n ≤ 17) : ∃ x s', spec_l01DrawOf k s n c = some (x, s') ∧ okS s' ∧ x.p = n ∧ x.k = c := by
  unfold spec_l01DrawOf
  obtain ⟨v, s1, e, hs, _⟩ := next_ok s c h
  rw [e]
  simp only [Option.bind_some]
  have hE := half_ok n hn
  have := loopI (f := fun k' i (t : Src × Col) => spec_l01DrawOf_l0 n c (v, s1) k' i t.1 t.2) (w64 ((w64 (n * (w64 (n - 1)))).tdiv 2)) 0 (fun i t => okS t.1 ∧ t.2.p = n ∧ t.2.k = c) (fun t => okS t.1 ∧ t.2.p = n ∧ t.2.k = c) ?_ ?_ k 0 (s1, ⟨n, c, B136.zero⟩) (by omega) (by omega) ⟨hs, rfl, rfl⟩
  · obtain ⟨⟨s', x⟩, e, h1, h2, h3⟩ := this
    simp only at e
    exact ⟨x, s', by rw [e]; rfl, h1, h2, h3⟩
  · rintro k' i ⟨t, x⟩ h0 h1 ⟨q1, q2, q3⟩
    left
    obtain ⟨a, t1, e1, ht1, _⟩ := next_ok t c q1
    obtain ⟨b, t2, e2, ht2, _⟩ := next_ok t1 5 ht1
    have hi : i < 136 := by omega
    by_cases hb : b = 0
    · refine ⟨(t2, x.set i.toNat (toByte v)), ?_, ht2, q2, q3⟩
      show spec_l01DrawOf_l0 n c (v, s1) (k' + 1) i t x = _
      rw [spec_l01DrawOf_l0, w64_succ h0 h1 (by omega), e1]
      simp only [Option.bind_some, e2, h1, decide_true, if_true, hb, h0, hi, and_self]
    · refine ⟨(t2, x.set i.toNat (toByte a)), ?_, ht2, q2, q3⟩
      show spec_l01DrawOf_l0 n c (v, s1) (k' + 1) i t x = _
      rw [spec_l01DrawOf_l0, w64_succ h0 h1 (by omega), e1]
      simp only [Option.bind_some, e2, h1, decide_true, if_true, hb, decide_false, Bool.false_eq_true, if_false, h0, hi, and_self]
  · rintro k' i ⟨t, x⟩ h0 h1 q
    refine ⟨(t, x), ?_, q⟩
    show spec_l01DrawOf_l0 n c (v, s1) (k' + 1) i t x = _
    rw [spec_l01DrawOf_l0]
    have : ¬ i < w64 ((w64 (n * (w64 (n - 1)))).tdiv 2) := by omega
    simp [this]

theorem circle_ok {k : Nat} (hk : 5000 ≤ k) (n : Int) (hn : 1 ≤ n ∧ n ≤ 17) (l : List Int) (hl : l.length ≤ 100) : ∃ x, spec_l01Circle k n l = some x ∧ x.p = n ∧ x.k = 2 := by
  unfold spec_l01Circle
  have := loopI (f := fun k' j (y : Col) => spec_l01Circle_l0 k n l k' j y) n 1 (fun j y => y.p = n ∧ y.k = 2) (fun y => y.p = n ∧ y.k = 2) ?_ ?_ k 1 ⟨n, 2, B136.zero⟩ (by omega) (by omega) ⟨rfl, rfl⟩
  · obtain ⟨y, e, h⟩ := this
    exact ⟨y, by rw [e]; rfl, h⟩
  · rintro k' j y h0 h1 ⟨q1, q2⟩
    left
    have := loopI (f := fun k' i (y : Col) => spec_l01Circle_l1 k l j k' i y) j 0 (fun i y => y.p = n ∧ y.k = 2) (fun y => y.p = n ∧ y.k = 2) ?_ ?_ k 0 y (by omega) (by omega) ⟨q1, q2⟩
    · obtain ⟨y', e, h⟩ := this
      refine ⟨y', ?_, h⟩
      show spec_l01Circle_l0 k n l (k' + 1) j y = _
      rw [spec_l01Circle_l0, w64_succ (by omega) h1 (by omega), e]
      simp [h1]
    · rintro k'' i z g0 g1 ⟨p1, p2⟩
      left
      have := loopI (f := fun k' t (b : UInt8) => spec_l01Circle_l2 l j i k' b t) (l.length : Int) 0 (fun _ _ => True) (fun _ => True) ?_ ?_ k 0 (1 : UInt8) (by omega) (by omega) trivial
      · obtain ⟨b, e, _⟩ := this
        have he := edge_ok (a := i) (b := j) (by omega) (by omega) (by omega)
        refine ⟨z.set (spec_l01Edge i j).toNat b, ?_, p1, p2⟩
        show spec_l01Circle_l1 k l j (k'' + 1) i z = _
        rw [spec_l01Circle_l1, w64_succ g0 g1 (by omega), e]
        simp only [g1, decide_true, if_true, Option.bind_some, he.1, he.2, and_self]
      · intro k3 t b t0 t1 _
        left
        by_cases hc : l.getD t.toNat 0 = w64 (j - i)
        · refine ⟨0, ?_, trivial⟩
          show spec_l01Circle_l2 l j i (k3 + 1) b t = _
          rw [spec_l01Circle_l2, w64_succ t0 t1 (by omega)]
          simp only [t1, t0, decide_true, if_true, and_self, hc, Option.bind_some]
        · refine ⟨b, ?_, trivial⟩
          show spec_l01Circle_l2 l j i (k3 + 1) b t = _
          rw [spec_l01Circle_l2, w64_succ t0 t1 (by omega)]
          simp only [t1, t0, decide_true, if_true, and_self, hc, decide_false, Bool.false_eq_true, if_false, Option.bind_some]
      · intro k3 t b t0 t1 _
        refine ⟨b, ?_, trivial⟩
        show spec_l01Circle_l2 l j i (k3 + 1) b t = _
        rw [spec_l01Circle_l2]
        have : ¬ t < (l.length : Int) := by omega
        simp [this]
    · rintro k'' i z g0 g1 q
      refine ⟨z, ?_, q⟩
      show spec_l01Circle_l1 k l j (k'' + 1) i z = _
      rw [spec_l01Circle_l1]
      have : ¬ i < j := by omega
      simp [this]
  · rintro k' j y h0 h1 q
    refine ⟨y, ?_, q⟩
    show spec_l01Circle_l0 k n l (k' + 1) j y = _
    rw [spec_l01Circle_l0]
    have : ¬ j < n := by omega
    simp [this]

theorem xor_ok (i j : Nat) (hi : i < 16) (hj : j < 16) : 0 ≤ bXor .i64 (i : Int) (j : Int) ∧ bXor .i64 (i : Int) (j : Int) < 16 := by
  rw [bXor_nat (by omega) (by omega)]
  have := Nat.xor_lt_two_pow (x := i) (y := j) (n := 4) hi hj
  omega

theorem sixteen_ok {k : Nat} (hk : 5000 ≤ k) : ∃ x, spec_l01Named_l0 k k 1 (⟨16, 3, B136.zero⟩ : Col) = some x ∧ x.p = 16 := by
  have := loopI (f := fun k' j (y : Col) => spec_l01Named_l0 k k' j y) 16 1 (fun j y => y.p = 16) (fun y => y.p = 16) ?_ ?_ k 1 ⟨16, 3, B136.zero⟩ (by omega) (by omega) rfl
  · exact this
  · intro k' j y h0 h1 q
    left
    have := loopI (f := fun k' i (y : Col) => spec_l01Named_l1 j k' i y) j 0 (fun i y => y.p = 16) (fun y => y.p = 16) ?_ ?_ k 0 y (by omega) (by omega) q
    · obtain ⟨y', e, h⟩ := this
      refine ⟨y', ?_, h⟩
      show spec_l01Named_l0 k (k' + 1) j y = _
      rw [spec_l01Named_l0, w64_succ (by omega) h1 (by omega), e]
      simp [h1]
    · intro k'' i z g0 g1 p
      left
      have he := edge_ok (a := i) (b := j) (by omega) (by omega) (by omega)
      have hx := xor_ok i.toNat j.toNat (by omega) (by omega)
      rw [Int.toNat_of_nonneg g0, Int.toNat_of_nonneg (show 0 ≤ j by omega)] at hx
      refine ⟨z.set (spec_l01Edge i j).toNat (([0, 0, 1, 1, 2, 2, 2, 1, 0, 2, 0, 1, 0, 1, 2, 0] : List UInt8).getD (bXor .i64 i j).toNat 0), ?_, p⟩
      show spec_l01Named_l1 j (k'' + 1) i z = _
      rw [spec_l01Named_l1, w64_succ g0 g1 (by omega)]
      rw [if_pos (by simpa using g1), if_pos ⟨hx.1, by simpa using hx.2⟩, if_pos he]
    · intro k'' i z g0 g1 q
      refine ⟨z, ?_, q⟩
      show spec_l01Named_l1 j (k'' + 1) i z = _
      rw [spec_l01Named_l1]
      have : ¬ i < j := by omega
      simp [this]
  · intro k' j y h0 h1 q
    refine ⟨y, ?_, q⟩
    show spec_l01Named_l0 k (k' + 1) j y = _
    rw [spec_l01Named_l0]
    have : ¬ j < 16 := by omega
    simp [this]

theorem named5_ok {k : Nat} (hk : 5000 ≤ k) : ∃ x, spec_l01Named k (⟨#[112, 101, 110, 116, 97, 103, 111, 110]⟩ : ByteArray) = some (x, true) ∧ x.p = 5 := by
  obtain ⟨x, e, hx, _⟩ := circle_ok hk 5 (by omega) [1, 4] (by simp)
  refine ⟨x, ?_, hx⟩
  unfold spec_l01Named
  rw [if_pos (by decide), e]
  rfl

theorem named_ok {k : Nat} (hk : 5000 ≤ k) (j : Nat) (hj : j < 5) : ∃ x, spec_l01Named k (spec_l01Names.getD j ByteArray.empty) = some (x, true) ∧ 5 ≤ x.p ∧ x.p ≤ 17 := by
  have hc : j = 0 ∨ j = 1 ∨ j = 2 ∨ j = 3 ∨ j = 4 := by omega
  unfold spec_l01Named
  rcases hc with rfl | rfl | rfl | rfl | rfl
  · obtain ⟨x, e, hx, _⟩ := circle_ok hk 5 (by omega) [1, 4] (by simp)
    refine ⟨x, ?_, by omega, by omega⟩
    rw [if_pos (by decide), e]; rfl
  · obtain ⟨x, e, hx, _⟩ := circle_ok hk 8 (by omega) [1, 4, 7] (by simp)
    refine ⟨x, ?_, by omega, by omega⟩
    rw [if_neg (by decide), if_pos (by decide), e]; rfl
  · obtain ⟨x, e, hx, _⟩ := circle_ok hk 13 (by omega) [1, 5, 8, 12] (by simp)
    refine ⟨x, ?_, by omega, by omega⟩
    rw [if_neg (by decide), if_neg (by decide), if_pos (by decide), e]; rfl
  · obtain ⟨x, e, hx, _⟩ := circle_ok hk 17 (by omega) [1, 2, 4, 8, 9, 13, 15, 16] (by simp)
    refine ⟨x, ?_, by omega, by omega⟩
    rw [if_neg (by decide), if_neg (by decide), if_neg (by decide), if_pos (by decide), e]; rfl
  · obtain ⟨x, e, hx⟩ := sixteen_ok hk
    refine ⟨x, ?_, by omega, by omega⟩
    rw [if_neg (by decide), if_neg (by decide), if_neg (by decide), if_neg (by decide), if_pos (by decide), e]; rfl

theorem renamed_ok {k : Nat} (hk : 5000 ≤ k) (x : Col) (l : List Int) (hp : 1 ≤ x.p ∧ x.p ≤ 17) (hl : isOrd x.p.toNat l) : ∃ y, spec_l01Renamed k x l = some y ∧ y.p = x.p ∧ y.k = x.k := by
  unfold spec_l01Renamed
  have hll := hl.1
  have := loopI (f := fun k' j (y : Col) => spec_l01Renamed_l0 k x l k' j y) x.p 1 (fun j y => y.p = x.p ∧ y.k = x.k) (fun y => y.p = x.p ∧ y.k = x.k) ?_ ?_ k 1 ⟨x.p, x.k, B136.zero⟩ (by omega) (by omega) ⟨rfl, rfl⟩
  · obtain ⟨y, e, h⟩ := this
    exact ⟨y, by rw [e]; rfl, h⟩
  · rintro k' j y h0 h1 ⟨q1, q2⟩
    left
    have := loopI (f := fun k' i (y : Col) => spec_l01Renamed_l1 x l j k' i y) j 0 (fun i y => y.p = x.p ∧ y.k = x.k) (fun y => y.p = x.p ∧ y.k = x.k) ?_ ?_ k 0 y (by omega) (by omega) ⟨q1, q2⟩
    · obtain ⟨y', e, h⟩ := this
      refine ⟨y', ?_, h⟩
      show spec_l01Renamed_l0 k x l (k' + 1) j y = _
      rw [spec_l01Renamed_l0, w64_succ (by omega) h1 (by omega), e]
      simp [h1]
    · rintro k'' i z g0 g1 ⟨p1, p2⟩
      left
      have hne := hl.ne (i := i.toNat) (j := j.toNat) (by omega) (by omega) (by omega)
      have hi := hl.get (i := i.toNat) (by omega)
      have hj := hl.get (i := j.toNat) (by omega)
      have he := edge_ok (a := l.getD i.toNat 0) (b := l.getD j.toNat 0) (by omega) (by omega) hne
      refine ⟨z.set (spec_l01Edge (l.getD i.toNat 0) (l.getD j.toNat 0)).toNat (toByte (x.cc i j)), ?_, p1, p2⟩
      show spec_l01Renamed_l1 x l j (k'' + 1) i z = _
      rw [spec_l01Renamed_l1, w64_succ g0 g1 (by omega), specAt_eq x i j g0 g1 (by omega) (by omega)]
      have a1 : i < (l.length : Int) := by omega
      have a2 : j < (l.length : Int) := by omega
      have a3 : 0 ≤ j := by omega
      simp only [g1, decide_true, if_true, g0, a1, a2, a3, and_self, Option.bind_some, he.1, he.2]
    · rintro k'' i z g0 g1 q
      refine ⟨z, ?_, q⟩
      show spec_l01Renamed_l1 x l j (k'' + 1) i z = _
      rw [spec_l01Renamed_l1]
      have : ¬ i < j := by omega
      simp [this]
  · rintro k' j y h0 h1 q
    refine ⟨y, ?_, q⟩
    show spec_l01Renamed_l0 k x l (k' + 1) j y = _
    rw [spec_l01Renamed_l0]
    have : ¬ j < x.p := by omega
    simp [this]

theorem with_ok (x : Col) (a b c : Int) (ha : 0 ≤ a ∧ a < 17) (hb : 0 ≤ b ∧ b < 17) (h : a ≠ b) : ∃ y, spec_l01With x a b c = some y ∧ y.p = x.p ∧ y.k = x.k := by
  unfold spec_l01With
  rw [if_pos (edge_ok ha hb h)]
  exact ⟨_, rfl, rfl, rfl⟩

theorem few_ok {k : Nat} (hk : 5000 ≤ k) (s : Src) (x : Col) (h : okS s) (hp : 5 ≤ x.p ∧ x.p ≤ 17) : ∀ (m : Nat) (k' : Nat), m < k' → m ≤ 10 → ∀ (s : Src) (x : Col), okS s → 5 ≤ x.p ∧ x.p ≤ 17 → ∃ s' y, spec_l01Draw_l0 k k' m s x = some (s', y) ∧ okS s' ∧ 5 ≤ y.p ∧ y.p ≤ 17 := by
  intro m
  induction m with
  | zero =>
    intro k' hk' _ s x h hp
    obtain ⟨k', rfl⟩ : ∃ q, k' = q + 1 := ⟨k' - 1, by omega⟩
    exact ⟨s, x, by rw [spec_l01Draw_l0]; simp, h, hp⟩
  | succ m ih =>
    intro k' hk' hm s x h hp
    obtain ⟨k', rfl⟩ : ∃ q, k' = q + 1 := ⟨k' - 1, by omega⟩
    obtain ⟨n, hn⟩ := nat_of (show 0 ≤ x.p by omega)
    obtain ⟨l, s1, e1, hs1, hl⟩ := order_ok hk s n h (by omega)
    obtain ⟨a, b, ea, eb, hab, ha, hb⟩ := hl.two (by omega)
    obtain ⟨v, s2, e2, hs2, _⟩ := next_ok s1 x.k hs1
    obtain ⟨y, e3, hy, _⟩ := with_ok x a b v (by omega) (by omega) hab
    obtain ⟨s', z, e4, h4⟩ := ih k' (by omega) (by omega) s2 y hs2 (by omega)
    refine ⟨s', z, ?_, h4⟩
    have hpos : (0 : Int) < ((m + 1 : Nat) : Int) := by omega
    have hl1 := hl.1
    have c0 : (0 : Int) < (l.length : Int) := by omega
    have c1 : (1 : Int) < (l.length : Int) := by omega
    rw [spec_l01Draw_l0, hn, e1]
    have g0 : l.getD (0 : Int).toNat 0 = a := ea
    have g1 : l.getD (1 : Int).toNat 0 = b := eb
    have ew : w64 (((m + 1 : Nat) : Int) - 1) = (m : Int) := by rw [w64_id (by omega)]; omega
    simp only [hpos, decide_true, if_true, Option.bind_some, c0, c1, g0, g1, e2, e3, ew, e4, Int.le_refl, and_self, show (0 : Int) ≤ 1 by omega]

theorem small_ok {k : Nat} (hk : 5000 ≤ k) (s : Src) (h : okS s) : ∃ x s', spec_l01Small k s = some (x, s') ∧ okS s' := by
  unfold spec_l01Small
  obtain ⟨v, s1, e1, hs1, _⟩ := next_ok s 5 h
  rw [e1]
  simp only [Option.bind_some]
  by_cases hv : v = 0
  · obtain ⟨x, e2', hx5⟩ := named5_ok hk
    obtain ⟨l, s2, e3, hs2, hl⟩ := order_ok hk s1 5 hs1 (by omega)
    obtain ⟨y, e4, _⟩ := renamed_ok hk x l (by omega) (by rw [hx5]; exact hl)
    refine ⟨y, s2, ?_, hs2⟩
    have e3' : spec_l01DrawOrder k s1 5 = some (l, s2) := e3
    simp only [hv, decide_true, if_true, e2', e3', e4, Option.bind_some]
  · obtain ⟨a, s2, e2, hs2, ha, _⟩ := next_ok s1 6 hs1
    obtain ⟨b, s3, e3, hs3, _⟩ := pick_ok s2 [1, 2, 2, 2, 3, 4] hs2 (by simp)
    have := ha (by omega)
    obtain ⟨x, s4, e4, hs4, _⟩ := drawOf_ok hk s3 (w64 (1 + a)) b hs3 (by rw [w64_id (by omega)]; omega)
    exact ⟨x, s4, by simp only [hv, decide_false, Bool.false_eq_true, if_false, e2, e3, e4, Option.bind_some], hs4⟩

theorem draw_ok {k : Nat} (hk : 5000 ≤ k) (s : Src) (h : okS s) : ∃ x s', spec_l01Draw k s = some (x, s') ∧ okS s' := by
  unfold spec_l01Draw
  obtain ⟨v, s1, e1, hs1, _⟩ := next_ok s 4 h
  rw [e1]
  simp only [Option.bind_some]
  by_cases h0 : v = 0
  · have hlen : (spec_l01Names.length : Int) = 5 := rfl
    obtain ⟨a, s2, e2, hs2, ha, _⟩ := next_ok s1 5 hs1
    have ha' := ha (by omega)
    obtain ⟨x, e3, hx⟩ := named_ok hk a.toNat (by omega)
    obtain ⟨n, hn⟩ := nat_of (show 0 ≤ x.p by omega)
    obtain ⟨l, s3, e4, hs3, hl⟩ := order_ok hk s2 n hs2 (by omega)
    obtain ⟨y, e5, hy, _⟩ := renamed_ok hk x l (by omega) (by rw [hn]; exact hl)
    obtain ⟨b, s4, e6, hs4, _⟩ := next_ok s3 2 hs3
    by_cases hb : b = 0
    · obtain ⟨m, s5, e7, hs5, hm, _⟩ := next_ok s4 3 hs4
      have hm' := hm (by omega)
      obtain ⟨q, hq⟩ := nat_of hm'.1
      obtain ⟨s6, z, e8, hs6, _⟩ := few_ok hk s5 y hs5 (by omega) q k (by omega) (by omega) s5 y hs5 (by omega)
      exact ⟨z, s6, by simp only [h0, hb, hn, hq, decide_true, if_true, hlen, e2, ha'.1, ha'.2, and_self, e3, e4, e5, e6, e7, e8, Option.bind_some], hs6⟩
    · exact ⟨y, s4, by simp only [h0, hb, hn, decide_true, if_true, decide_false, Bool.false_eq_true, if_false, hlen, e2, ha'.1, ha'.2, and_self, e3, e4, e5, e6, Option.bind_some], hs4⟩
  · by_cases h1 : v = 1
    · obtain ⟨a, s2, e2, hs2, ha, _⟩ := next_ok s1 17 hs1
      have ha' := ha (by omega)
      obtain ⟨b, s3, e3, hs3, _⟩ := pick_ok s2 [2, 2, 3, 4] hs2 (by simp)
      obtain ⟨x, s4, e4, hs4, _⟩ := drawOf_ok hk s3 (w64 (1 + a)) b hs3 (by rw [w64_id (by omega)]; omega)
      refine ⟨x, s4, ?_, hs4⟩
      have h10 : ¬ ((1 : Int) = 0) := by omega
      simp only [h1, h10, decide_true, if_true, decide_false, Bool.false_eq_true, if_false, e2, e3, e4, Option.bind_some]
    · obtain ⟨x, s2, e2, hs2⟩ := small_ok hk s1 hs1
      exact ⟨x, s2, by simp only [h0, h1, decide_false, Bool.false_eq_true, if_false, e2, Option.bind_some], hs2⟩

theorem bad_ok (s : Src) (x : Col) (h : okS s) : ∃ y s', spec_l01Bad s x = some (y, s') ∧ okS s' := by
  unfold spec_l01Bad
  obtain ⟨v, s1, e1, hs1, _⟩ := next_ok s 50 h
  rw [e1]
  simp only [Option.bind_some]
  by_cases h0 : v = 0
  · obtain ⟨a, s2, e2, hs2, _⟩ := pick_ok s1 [0, 18, -1, w64 (x.p - 1)] hs1 (by simp)
    exact ⟨⟨a, x.k, x.e⟩, s2, by simp only [h0, decide_true, if_true, e2, Option.bind_some], hs2⟩
  · by_cases h1 : v = 1
    · obtain ⟨a, s2, e2, hs2, _⟩ := pick_ok s1 [0, 5, -1] hs1 (by simp)
      have h10 : ¬ ((1 : Int) = 0) := by omega
      exact ⟨⟨x.p, a, x.e⟩, s2, by simp only [h1, h10, decide_true, if_true, decide_false, Bool.false_eq_true, if_false, e2, Option.bind_some], hs2⟩
    · by_cases h2 : v = 2
      · obtain ⟨a, s2, e2, hs2, ha, _⟩ := next_ok s1 136 hs1
        have ha' := ha (by omega)
        obtain ⟨b, s3, e3, hs3, _⟩ := pick_ok s2 [1, 4, 200] hs2 (by simp)
        have h20 : ¬ ((2 : Int) = 0) := by omega
        have h21 : ¬ ((2 : Int) = 1) := by omega
        exact ⟨x.set a.toNat (toByte b), s3, by simp only [h2, h20, h21, decide_true, if_true, decide_false, Bool.false_eq_true, if_false, e2, e3, ha'.1, ha'.2, and_self, Option.bind_some], hs3⟩
      · exact ⟨x, s1, by simp only [h0, h1, h2, decide_false, Bool.false_eq_true, if_false, Option.bind_some], hs1⟩

theorem spoil_ok {k : Nat} (hk : 5000 ≤ k) (s : Src) (h : okS s) : ∃ x s', spec_l01Spoil k s = some (x, s') ∧ okS s' := by
  unfold spec_l01Spoil
  obtain ⟨x, s1, e1, hs1⟩ := draw_ok hk s h
  obtain ⟨y, s2, e2, hs2⟩ := bad_ok s1 x hs1
  exact ⟨y, s2, by rw [e1]; simp only [Option.bind_some, e2], hs2⟩

end Go.Proofs.YtghhnpdhehjlaaaGreat
