/- Plain Lean for the laws: the bound by neighbours, and why a colouring that avoids sizes has fewer points. No program in sight. No conditions beyond those that each lemma states. -/
import Derived.Test.YtghhnpdhehjlaaaGreatMat
import Derived.Test.YtghhnpdhehjlaaaGreatSr
set_option linter.unusedVariables false
set_option linter.unusedSimpArgs false
namespace Go.Proofs.YtghhnpdhehjlaaaGreat
open Go Go.RowKit Ab

theorem srt_perm (l : List Int) : (sorted l).Perm l := List.mergeSort_perm l _
theorem srt_pw (l : List Int) : (sorted l).Pairwise (· ≤ ·) := by
  have := List.pairwise_mergeSort (le := fun x y : Int => decide (x ≤ y)) (fun a b c h1 h2 => by simp at *; omega) (fun a b => by simp; omega) l
  exact this.imp fun h => by simpa using h

/-! ### The bound -/
def rst (s : List Int) : List Int := s.filter fun x => !decide (x = 2)
def dcr (s : List Int) (i : Nat) : List Int := s.set i (s.getD i 0 - 1)
def sm : List Int → Int
  | [] => 0
  | a :: l => a + sm l
def evn (l : List Int) : Bool := l.all fun v => decide (v.tmod 2 = 0)
def ow (f : List Int → Int) (s : List Int) : List Int := (List.range s.length).map fun i => f (sorted (dcr s i))
def tot (f : List Int → Int) (s : List Int) : Int := sm (ow f s) + (2 - s.length) - (if s.length = 2 ∧ evn (ow f s) = true then 1 else 0)
def nbB (f : List Int → Int) (s : List Int) : Int :=
  if s.getD 0 0 = 1 then 1 else if (rst s).length = 0 then 2 else if (rst s).length = 1 then (rst s).getD 0 0 else if (rst s).length < s.length then f (rst s) else tot f s
def nbF : Nat → List Int → Int
  | 0, _ => 0
  | d + 1, s => nbB (nbF d) s
def mz : List Int → Nat
  | [] => 0
  | a :: l => a.toNat + mz l
def ph : List Int → Nat
  | [] => 0
  | a :: l => (a - 2).toNat + ph l
def nb8 (s : List Int) : Int := nbF (mz s + 1) s

structure wfs (s : List Int) : Prop where
  ne : s ≠ []
  len : s.length ≤ 4
  pw : s.Pairwise (· ≤ ·)
  rg : ∀ z ∈ s, 1 ≤ z ∧ z ≤ 8

theorem sm_app : ∀ a b : List Int, sm (a ++ b) = sm a + sm b
  | [], b => by simp [sm]
  | x :: a, b => by simp [sm, sm_app a b]; omega
theorem mz_perm {s t : List Int} (h : s.Perm t) : mz s = mz t := by
  induction h with
  | nil => rfl
  | cons a _ ih => simp [mz, ih]
  | swap a b l => simp [mz]; omega
  | trans _ _ h1 h2 => exact h1.trans h2
theorem ph_perm {s t : List Int} (h : s.Perm t) : ph s = ph t := by
  induction h with
  | nil => rfl
  | cons a _ ih => simp [ph, ih]
  | swap a b l => simp [ph]; omega
  | trans _ _ h1 h2 => exact h1.trans h2
theorem rst_mz : ∀ s : List Int, mz (rst s) + 2 * (s.length - (rst s).length) = mz s ∧ ph (rst s) = ph s ∧ (rst s).length ≤ s.length
  | [] => by simp [rst, mz, ph]
  | a :: s => by
    obtain ⟨h1, h2, h3⟩ := rst_mz s
    by_cases e : a = 2
    · subst e
      have : rst (2 :: s) = rst s := by simp [rst]
      rw [this]
      simp [mz, ph]; omega
    · have : rst (a :: s) = a :: rst s := by simp [rst, e]
      rw [this]
      simp [mz, ph]; omega
theorem dcr_mz : ∀ (s : List Int) (i : Nat), i < s.length → 1 ≤ s.getD i 0 → mz (dcr s i) + 1 = mz s
  | a :: s, 0, _, h => by
    have h' : 1 ≤ a := h
    show (a - 1).toNat + mz s + 1 = a.toNat + mz s
    omega
  | a :: s, i + 1, hi, h => by
    have := dcr_mz s i (by simpa using hi) (by simpa using h)
    have e : dcr (a :: s) (i + 1) = a :: dcr s i := by simp [dcr]
    rw [e, mz, mz]; omega
theorem dcr_ph : ∀ (s : List Int) (i : Nat), i < s.length → 3 ≤ s.getD i 0 → ph (dcr s i) + 1 = ph s
  | a :: s, 0, _, h => by
    have h' : 3 ≤ a := h
    show (a - 1 - 2).toNat + ph s + 1 = (a - 2).toNat + ph s
    omega
  | a :: s, i + 1, hi, h => by
    have := dcr_ph s i (by simpa using hi) (by simpa using h)
    have e : dcr (a :: s) (i + 1) = a :: dcr s i := by simp [dcr]
    rw [e, ph, ph]; omega
theorem dcr_length (s : List Int) (i : Nat) : (dcr s i).length = s.length := by simp [dcr]
theorem getD_mem' {s : List Int} {i : Nat} (h : i < s.length) : s.getD i 0 ∈ s := by
  rw [List.getD_eq_getElem?_getD, List.getElem?_eq_getElem h]; exact List.getElem_mem h

theorem wfs.two {s : List Int} (h : wfs s) (h1 : ¬ s.getD 0 0 = 1) : ∀ z ∈ s, 2 ≤ z := by
  intro z hz
  cases s with
  | nil => cases hz
  | cons a t =>
    have h1' : ¬ a = 1 := h1
    have ha := h.rg a (List.mem_cons_self ..)
    rcases List.mem_cons.1 hz with rfl | hz
    · omega
    · have := (List.pairwise_cons.1 h.pw).1 z hz; omega
theorem wfs.rest {s : List Int} (h : wfs s) (h0 : ¬ (rst s).length = 0) : wfs (rst s) :=
  ⟨fun e => h0 (by rw [e]; rfl), Nat.le_trans (List.length_filter_le _ _) h.len, h.pw.sublist List.filter_sublist, fun z hz => h.rg z (List.mem_filter.1 hz).1⟩
theorem rst_all {s : List Int} (h : ¬ (rst s).length < s.length) : ∀ z ∈ s, z ≠ 2 := by
  have : (rst s).length = s.length := Nat.le_antisymm (List.length_filter_le _ _) (by omega)
  intro z hz e
  have := List.length_filter_eq_length_iff.1 this z hz
  simp [e] at this
theorem wfs.three {s : List Int} (h : wfs s) (h1 : ¬ s.getD 0 0 = 1) (h2 : ¬ (rst s).length < s.length) : ∀ z ∈ s, 3 ≤ z := fun z hz => by
  have := h.two h1 z hz
  have := rst_all h2 z hz
  omega
theorem wfs.step {s : List Int} (h : wfs s) {i : Nat} (hi : i < s.length) (h3 : 3 ≤ s.getD i 0) : wfs (sorted (dcr s i)) ∧ mz (sorted (dcr s i)) + 1 = mz s ∧ ph (sorted (dcr s i)) + 1 = ph s := by
  have hp := srt_perm (dcr s i)
  refine ⟨⟨fun e => ?_, by rw [hp.length_eq, dcr_length]; exact h.len, srt_pw _, fun z hz => ?_⟩, by rw [mz_perm hp]; exact dcr_mz s i hi (by omega), by rw [ph_perm hp]; exact dcr_ph s i hi h3⟩
  · have := hp.length_eq
    rw [e, dcr_length] at this
    simp at this; omega
  · have hz' := hp.mem_iff.1 hz
    rcases List.mem_or_eq_of_mem_set hz' with hm | rfl
    · exact h.rg z hm
    · have := h.rg _ (getD_mem' hi); omega

theorem ow_congr {f g : List Int → Int} {s : List Int} (h : ∀ i, i < s.length → f (sorted (dcr s i)) = g (sorted (dcr s i))) : ow f s = ow g s :=
  List.map_congr_left fun i hi => h i (List.mem_range.1 hi)
theorem nbB_congr {f g : List Int → Int} {s : List Int} (h : wfs s) (hfg : ∀ t, wfs t → mz t < mz s → f t = g t) : nbB f s = nbB g s := by
  unfold nbB
  by_cases h1 : s.getD 0 0 = 1
  · rw [if_pos h1, if_pos h1]
  rw [if_neg h1, if_neg h1]
  by_cases h2 : (rst s).length = 0
  · rw [if_pos h2, if_pos h2]
  rw [if_neg h2, if_neg h2]
  by_cases h3 : (rst s).length = 1
  · rw [if_pos h3, if_pos h3]
  rw [if_neg h3, if_neg h3]
  by_cases h4 : (rst s).length < s.length
  · rw [if_pos h4, if_pos h4]
    have := rst_mz s
    exact hfg _ (h.rest h2) (by omega)
  · rw [if_neg h4, if_neg h4]
    have e : ow f s = ow g s := ow_congr fun i hi => by
      obtain ⟨w1, w2, _⟩ := h.step hi (h.three h1 h4 _ (getD_mem' hi))
      exact hfg _ w1 (by omega)
    unfold tot
    rw [e]
theorem nbF_ind : ∀ (d d' : Nat) (s : List Int), wfs s → mz s < d → mz s < d' → nbF d s = nbF d' s := by
  intro d
  induction d with
  | zero => intro d' s _ h; omega
  | succ d ih =>
    intro d' s hs h1 h2
    obtain ⟨e, rfl⟩ : ∃ e, d' = e + 1 := ⟨d' - 1, by omega⟩
    exact nbB_congr hs fun t ht hm => ih e t ht (by omega) (by omega)
theorem nb8_eq {s : List Int} (h : wfs s) : nb8 s = nbB nb8 s := by
  show nbB (nbF (mz s)) s = _
  exact nbB_congr h fun t ht hm => nbF_ind _ _ t ht (by omega) (by omega)

theorem sm_le : ∀ (l : List Int) (c : Int), (∀ z ∈ l, z ≤ c) → sm l ≤ l.length * c
  | [], c, _ => by simp [sm]
  | a :: l, c, h => by
    have h1 := sm_le l c fun z hz => h z (List.mem_cons_of_mem _ hz)
    have h2 := h a (List.mem_cons_self ..)
    rw [sm, List.length_cons, Int.natCast_add, Int.add_mul]
    simp; omega
theorem sm_ge : ∀ (l : List Int) (c : Int), (∀ z ∈ l, c ≤ z) → l.length * c ≤ sm l
  | [], c, _ => by simp [sm]
  | a :: l, c, h => by
    have h1 := sm_ge l c fun z hz => h z (List.mem_cons_of_mem _ hz)
    have h2 := h a (List.mem_cons_self ..)
    rw [sm, List.length_cons, Int.natCast_add, Int.add_mul]
    simp; omega
theorem sm_even : ∀ (l : List Int), evn l = true → ∃ z, sm l = 2 * z
  | [], _ => ⟨0, rfl⟩
  | a :: l, h => by
    simp [evn] at h
    obtain ⟨z, hz⟩ := sm_even l (by simp [evn]; exact h.2)
    have : a.tmod 2 = 0 := h.1
    have h2 := Int.mul_tdiv_add_tmod a 2
    rw [this] at h2
    refine ⟨a.tdiv 2 + z, ?_⟩
    rw [sm, hz]
    omega
theorem ow_length (f : List Int → Int) (s : List Int) : (ow f s).length = s.length := by simp [ow]
theorem ow_mem {f : List Int → Int} {s : List Int} {z : Int} (h : z ∈ ow f s) : ∃ i, i < s.length ∧ z = f (sorted (dcr s i)) := by
  obtain ⟨i, hi, e⟩ := List.mem_map.1 h
  exact ⟨i, List.mem_range.1 hi, e.symm⟩
theorem nb8_range : ∀ (n : Nat) (s : List Int), mz s = n → wfs s → 1 ≤ nb8 s ∧ nb8 s ≤ 8 * ((4 ^ ph s : Nat) : Int) := by
  intro n
  induction n using Nat.strongRecOn with
  | _ n ih =>
  intro s hn h
  have h4p : 1 ≤ 4 ^ ph s := Nat.pow_pos (by decide)
  rw [nb8_eq h]
  unfold nbB
  split
  · omega
  rename_i h1
  split
  · omega
  rename_i h2
  split
  · rename_i h3
    have := h.rg _ (List.mem_filter.1 (getD_mem' (s := rst s) (i := 0) (by omega))).1
    omega
  rename_i h3
  split
  · rename_i h4
    have hr := rst_mz s
    have := ih _ (by omega) (rst s) rfl (h.rest h2)
    rw [hr.2.1] at this
    exact this
  · rename_i h4
    have hl2 : 2 ≤ s.length := by
      have := (rst_mz s).2.2; omega
    have hl4 := h.len
    have hph : 1 ≤ ph s := by
      obtain ⟨_, _, h5⟩ := h.step (i := 0) (by omega) (h.three h1 h4 _ (getD_mem' (by omega)))
      omega
    have key : ∀ z ∈ ow nb8 s, 1 ≤ z ∧ z ≤ 8 * ((4 ^ (ph s - 1) : Nat) : Int) := fun z hz => by
      obtain ⟨i, hi, rfl⟩ := ow_mem hz
      obtain ⟨w1, w2, w3⟩ := h.step hi (h.three h1 h4 _ (getD_mem' hi))
      have := ih _ (by omega) _ rfl w1
      rw [show ph (sorted (dcr s i)) = ph s - 1 by omega] at this
      exact this
    have e1 := sm_le (ow nb8 s) _ fun z hz => (key z hz).2
    have e2 := sm_ge (ow nb8 s) 1 fun z hz => (key z hz).1
    rw [ow_length] at e1 e2
    have e3 : 4 ^ ph s = 4 * 4 ^ (ph s - 1) := by
      obtain ⟨q, hq⟩ : ∃ q, ph s = q + 1 := ⟨ph s - 1, by omega⟩
      rw [hq, Nat.pow_succ, Nat.add_sub_cancel, Nat.mul_comm]
    have e4 : (s.length : Int) * (8 * ((4 ^ (ph s - 1) : Nat) : Int)) ≤ 4 * (8 * ((4 ^ (ph s - 1) : Nat) : Int)) := Int.mul_le_mul_of_nonneg_right (by omega) (by omega)
    unfold tot
    rw [e3]
    generalize 4 ^ (ph s - 1) = q at *
    constructor
    · split
      · rename_i h5
        obtain ⟨z, hz⟩ := sm_even _ h5.2
        omega
      · omega
    · split <;> omega
end Go.Proofs.YtghhnpdhehjlaaaGreat
