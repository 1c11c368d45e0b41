/- Plain Lean for the laws: the bound by neighbours is a bound (Ramsey; Erdos and Szekeres; Greenwood and Gleason). No program in sight. No conditions beyond those that each lemma states. -/
import Derived.Test.YtghhnpdhehjlaaaGreatNb
set_option linter.unusedVariables false
set_option linter.unusedSimpArgs false
namespace Go.Proofs.YtghhnpdhehjlaaaGreat
open Go Go.RowKit Ab

abbrev Rl := Int → Int → Bool
/-- There is a clique of m points among L. -/
def hasK (A : Rl) (m : Nat) (L : List Int) : Prop := ∃ K : List Int, K.length = m ∧ (∀ z ∈ K, z ∈ L) ∧ K.Pairwise (fun a b => A a b = true)
structure RF (F : List (Rl × Int)) (L : List Int) : Prop where
  sy : ∀ X ∈ F, ∀ a b, X.1 a b = X.1 b a
  ir : ∀ X ∈ F, ∀ a, X.1 a a = false
  nd : L.Nodup
  cv : ∀ a ∈ L, ∀ b ∈ L, a ≠ b → ∃ X ∈ F, X.1 a b = true
  av : ∀ X ∈ F, ¬ hasK X.1 X.2.toNat L
def Valid (v : Int) (s : List Int) : Prop := ∀ (F : List (Rl × Int)) (L : List Int), F.map Prod.snd = s → RF F L → (L.length : Int) < v

theorem perm_lift {α β : Type} (f : α → β) {l1 l2 : List β} (h : l1.Perm l2) : ∀ F : List α, F.map f = l2 → ∃ F' : List α, F'.Perm F ∧ F'.map f = l1 := by
  induction h with
  | nil => intro F e; exact ⟨F, .refl _, e⟩
  | cons a _ ih =>
    intro F e
    cases F with
    | nil => cases e
    | cons x F =>
      simp at e
      obtain ⟨F', h1, h2⟩ := ih F e.2
      exact ⟨x :: F', .cons _ h1, by simp [h2, e.1]⟩
  | swap a b l =>
    intro F e
    match F, e with
    | x :: y :: F, e =>
      simp at e
      exact ⟨y :: x :: F, .swap .., by simp [e]⟩
  | trans _ _ h1 h2 =>
    intro F e
    obtain ⟨F1, a1, a2⟩ := h2 F e
    obtain ⟨F2, b1, b2⟩ := h1 F1 a2
    exact ⟨F2, b1.trans a1, b2⟩
theorem RF.perm {F F' : List (Rl × Int)} {L : List Int} (h : RF F L) (hp : F'.Perm F) : RF F' L :=
  ⟨fun X hX => h.sy X (hp.mem_iff.1 hX), fun X hX => h.ir X (hp.mem_iff.1 hX), h.nd, fun a ha b hb e => by obtain ⟨X, h1, h2⟩ := h.cv a ha b hb e; exact ⟨X, hp.mem_iff.2 h1, h2⟩, fun X hX => h.av X (hp.mem_iff.1 hX)⟩
theorem Valid.perm {v : Int} {s t : List Int} (h : Valid v s) (hp : s.Perm t) : Valid v t := fun F L e hF => by
  obtain ⟨F', h1, h2⟩ := perm_lift Prod.snd hp F e
  exact h F' L h2 (hF.perm h1)

theorem hasK_sub {A : Rl} {m : Nat} {L M : List Int} (h : hasK A m L) (hs : ∀ z ∈ L, z ∈ M) : hasK A m M := by
  obtain ⟨K, h1, h2, h3⟩ := h
  exact ⟨K, h1, fun z hz => hs z (h2 z hz), h3⟩

/-! ### The small cases -/
theorem valid_one {s : List Int} (h : (1 : Int) ∈ s) : Valid 1 s := fun F L e hF => by
  rw [← e] at h
  obtain ⟨X, hX, e1⟩ := List.mem_map.1 h
  cases L with
  | nil => simp
  | cons a L =>
    exfalso
    refine hF.av X hX ⟨[a], ?_, fun z hz => ?_, by simp⟩
    · rw [e1]; rfl
    · rw [List.mem_singleton] at hz; subst hz; exact List.mem_cons_self ..
/-- A size of 2: no edge of that colour. -/
theorem RF.drop {F : List (Rl × Int)} {L : List Int} (h : RF F L) : RF (F.filter fun X => !decide (X.2 = 2)) L := by
  refine ⟨fun X hX => h.sy X (List.mem_filter.1 hX).1, fun X hX => h.ir X (List.mem_filter.1 hX).1, h.nd, fun a ha b hb e => ?_, fun X hX => h.av X (List.mem_filter.1 hX).1⟩
  obtain ⟨X, h1, h2⟩ := h.cv a ha b hb e
  refine ⟨X, List.mem_filter.2 ⟨h1, ?_⟩, h2⟩
  by_cases e2 : X.2 = 2
  · exfalso
    refine h.av X h1 ⟨[a, b], by rw [e2]; rfl, fun z hz => ?_, by simp [h2]⟩
    simp at hz
    rcases hz with rfl | rfl <;> assumption
  · simp [e2]
theorem map_drop (F : List (Rl × Int)) : (F.filter fun X => !decide (X.2 = 2)).map Prod.snd = rst (F.map Prod.snd) := by
  induction F with
  | nil => rfl
  | cons X F ih => by_cases e : X.2 = 2 <;> simp [rst, e] at ih ⊢ <;> exact ih
theorem valid_rest {v : Int} {s : List Int} (h : Valid v (rst s)) : Valid v s := fun F L e hF => by
  refine h _ L ?_ hF.drop
  rw [map_drop, e]
theorem valid_none : Valid 2 [] := fun F L e hF => by
  have : F = [] := by cases F with
    | nil => rfl
    | cons _ _ => cases e
  subst this
  match L with
  | [] => exact by simp
  | [a] => exact by simp
  | a :: b :: L =>
    exfalso
    have hn := hF.nd
    simp only [List.nodup_cons, List.mem_cons, not_or] at hn
    obtain ⟨X, hX, _⟩ := hF.cv a (by simp) b (by simp) hn.1.1
    cases hX
theorem valid_single {m : Int} (hm : 0 ≤ m) : Valid m [m] := fun F L e hF => by
  refine Classical.byContradiction fun hc => ?_
  obtain ⟨X, rfl⟩ : ∃ X, F = [X] := by
    match F, e with
    | [X], _ => exact ⟨X, rfl⟩
  have e1 : X.2 = m := by simpa using e
  refine hF.av X (by simp) ⟨L.take m.toNat, by rw [List.length_take, e1]; omega, fun z hz => List.mem_of_mem_take hz, ?_⟩
  have hn : (L.take m.toNat).Nodup := (List.take_sublist _ _).nodup hF.nd
  refine List.Pairwise.imp_of_mem (R := (· ≠ ·)) (fun {a b} ha hb hab => ?_) hn
  obtain ⟨Y, hY, h2⟩ := hF.cv a (List.mem_of_mem_take ha) b (List.mem_of_mem_take hb) hab
  rw [List.mem_singleton] at hY
  subst hY; exact h2

/-! ### The neighbours of a point -/
theorem sm_map_le (a b : Nat → Int) : ∀ l : List Nat, (∀ i ∈ l, a i + 1 ≤ b i) → sm (l.map a) + l.length ≤ sm (l.map b)
  | [], _ => by simp [sm]
  | i :: l, h => by
    have h1 := sm_map_le a b l fun j hj => h j (List.mem_cons_of_mem _ hj)
    have h2 := h i (List.mem_cons_self ..)
    simp only [List.map_cons, sm, List.length_cons]; omega
theorem sm_add (a b : Nat → Int) : ∀ l : List Nat, sm (l.map fun i => a i + b i) = sm (l.map a) + sm (l.map b)
  | [] => rfl
  | i :: l => by
    have h1 := sm_add a b l
    simp only [List.map_cons, sm]; omega
theorem sm_nonneg (a : Nat → Int) : ∀ l : List Nat, (∀ i ∈ l, 0 ≤ a i) → 0 ≤ sm (l.map a)
  | [], _ => by simp [sm]
  | i :: l, h => by
    have h1 := sm_nonneg a l fun j hj => h j (List.mem_cons_of_mem _ hj)
    have h2 := h i (List.mem_cons_self ..)
    simp only [List.map_cons, sm]; omega
theorem sm_one (a : Nat → Int) : ∀ (l : List Nat) (j : Nat), (∀ i ∈ l, 0 ≤ a i) → j ∈ l → a j ≤ sm (l.map a)
  | i :: l, j, h, hj => by
    have h0 := sm_nonneg a l fun j hj => h j (List.mem_cons_of_mem _ hj)
    simp only [List.map_cons, sm]
    rcases List.mem_cons.1 hj with rfl | hj
    · omega
    · have h1 := sm_one a l j (fun j hj => h j (List.mem_cons_of_mem _ hj)) hj
      have h2 := h i (List.mem_cons_self ..)
      omega
theorem cover_len (g : Nat → Int → Bool) (l : List Nat) : ∀ R : List Int, (∀ q ∈ R, ∃ i ∈ l, g i q = true) → (R.length : Int) ≤ sm (l.map fun i => ((R.filter (g i)).length : Int))
  | [], _ => by simpa using sm_nonneg (fun _ => 0) l fun _ _ => by omega
  | q :: R, h => by
    have ih := cover_len g l R fun z hz => h z (List.mem_cons_of_mem _ hz)
    obtain ⟨j, hj, hg⟩ := h q (List.mem_cons_self ..)
    have e : (fun i => (((q :: R).filter (g i)).length : Int)) = fun i => (if g i q = true then (1 : Int) else 0) + ((R.filter (g i)).length : Int) := by
      funext i
      rw [List.filter_cons]
      split <;> simp <;> omega
    rw [e, sm_add]
    have := sm_one (fun i => if g i q = true then (1 : Int) else 0) l j (fun i _ => by split <;> omega) hj
    simp only [hg, if_true] at this
    rw [List.length_cons]; omega

/-- All degrees together are even. -/
theorem handshake (A : Rl) (hs : ∀ a b, A a b = A b a) (hi : ∀ a, A a a = false) : ∀ L : List Int, ∃ z : Int, sm (L.map fun p => ((L.filter (A p)).length : Int)) = 2 * z
  | [] => ⟨0, rfl⟩
  | a :: L => by
    obtain ⟨z, hz⟩ := handshake A hs hi L
    have e1 : ∀ M : List Int, sm (M.map fun p => (((a :: L).filter (A p)).length : Int)) = sm (M.map fun p => ((L.filter (A p)).length : Int)) + ((M.filter (A a)).length : Int) := by
      intro M
      induction M with
      | nil => rfl
      | cons p M ih =>
        simp only [List.map_cons, sm]
        rw [ih, List.filter_cons, List.filter_cons, hs a p]
        cases A p a <;> simp <;> omega
    refine ⟨z + ((L.filter (A a)).length : Int), ?_⟩
    simp only [List.map_cons, sm]
    rw [e1, hz, List.filter_cons, hi a]
    simp; omega
theorem odd_sum (f : Int → Int) : ∀ L : List Int, (∀ p ∈ L, f p % 2 = 1) → sm (L.map f) % 2 = (L.length : Int) % 2
  | [], _ => rfl
  | a :: L, h => by
    have h1 := odd_sum f L fun p hp => h p (List.mem_cons_of_mem _ hp)
    have h2 := h a (List.mem_cons_self ..)
    simp only [List.map_cons, sm, List.length_cons]; omega

section
variable {F : List (Rl × Int)} {L : List Int} {s : List Int} {v : Nat → Int}
/-- The neighbours in one colour are fewer than the bound that is one less in this colour. -/
theorem nbr (e : F.map Prod.snd = s) (hF : RF F L) (h1 : ∀ z ∈ s, 2 ≤ z) (hv : ∀ i, i < s.length → Valid (v i) (dcr s i)) {p : Int} (hp : p ∈ L) {i : Nat} (hi : i < F.length) : ((L.filter (F[i].1 p)).length : Int) + 1 ≤ v i := by
  have hsl : s.length = F.length := by rw [← e]; simp
  have hsi : s.getD i 0 = F[i].2 := by
    rw [← e, List.getD_eq_getElem?_getD, List.getElem?_map, List.getElem?_eq_getElem hi]; rfl
  have hm : F[i] ∈ F := List.getElem_mem hi
  have h2 : 2 ≤ F[i].2 := h1 _ (by rw [← e]; exact List.mem_map_of_mem hm)
  have := hv i (by omega) (F.set i (F[i].1, F[i].2 - 1)) (L.filter (F[i].1 p)) (by
    rw [List.map_set, e]
    unfold dcr
    rw [hsi]) ?_
  · omega
  have hsub : ∀ z ∈ L.filter (F[i].1 p), z ∈ L := fun z hz => (List.mem_filter.1 hz).1
  refine ⟨fun X hX => ?_, fun X hX => ?_, hF.nd.filter _, fun a ha b hb hab => ?_, fun X hX => ?_⟩
  · rcases List.mem_or_eq_of_mem_set hX with h | rfl
    · exact hF.sy X h
    · exact fun a b => hF.sy F[i] hm a b
  · rcases List.mem_or_eq_of_mem_set hX with h | rfl
    · exact hF.ir X h
    · exact fun a => hF.ir F[i] hm a
  · obtain ⟨X, hX, hx⟩ := hF.cv a (hsub a ha) b (hsub b hb) hab
    obtain ⟨j, hj, rfl⟩ := List.getElem_of_mem hX
    by_cases hij : i = j
    · subst hij
      exact ⟨(F[i].1, F[i].2 - 1), List.mem_set (by simpa using hi) _, hx⟩
    · refine ⟨F[j], ?_, hx⟩
      have : (F.set i (F[i].1, F[i].2 - 1))[j]? = some F[j] := by rw [List.getElem?_set_ne hij, List.getElem?_eq_getElem hj]
      exact List.mem_of_getElem? this
  · rcases List.mem_or_eq_of_mem_set hX with h | rfl
    · exact fun hk => hF.av X h (hasK_sub hk hsub)
    · rintro ⟨K, k1, k2, k3⟩
      refine hF.av _ hm ⟨p :: K, ?_, fun z hz => ?_, List.pairwise_cons.2 ⟨fun z hz => (List.mem_filter.1 (k2 z hz)).2, k3⟩⟩
      · rw [List.length_cons, k1]
        show (F[i].2 - 1).toNat + 1 = F[i].2.toNat
        omega
      · rcases List.mem_cons.1 hz with rfl | hz
        · exact hp
        · exact hsub z (k2 z hz)
theorem nbr_all (hF : RF F L) {p : Int} (hp : p ∈ L) : (L.length : Int) ≤ 1 + sm ((List.range F.length).map fun i => ((L.filter ((F.getD i (fun _ _ => false, 0)).1 p)).length : Int)) := by
  have hc := cover_len (fun i => (F.getD i (fun _ _ => false, 0)).1 p) (List.range F.length) (L.filter fun z => !decide (z = p)) fun q hq => by
    obtain ⟨h1, h2⟩ := List.mem_filter.1 hq
    simp at h2
    obtain ⟨X, hX, hx⟩ := hF.cv p hp q h1 (fun e => h2 e.symm)
    obtain ⟨j, hj, rfl⟩ := List.getElem_of_mem hX
    refine ⟨j, List.mem_range.2 hj, ?_⟩
    rw [List.getD_eq_getElem?_getD, List.getElem?_eq_getElem hj]; exact hx
  rw [filter_ne_length hF.nd hp] at hc
  have hle : sm ((List.range F.length).map fun i => (((L.filter fun z => !decide (z = p)).filter ((F.getD i (fun _ _ => false, 0)).1 p)).length : Int)) ≤ sm ((List.range F.length).map fun i => ((L.filter ((F.getD i (fun _ _ => false, 0)).1 p)).length : Int)) := by
    have : ∀ (l : List Nat) (a b : Nat → Int), (∀ i, a i ≤ b i) → sm (l.map a) ≤ sm (l.map b) := by
      intro l a b h
      induction l with
      | nil => simp [sm]
      | cons i l ih => have := h i; simp only [List.map_cons, sm]; omega
    refine this _ _ _ fun i => ?_
    have : ((L.filter fun z => !decide (z = p)).filter ((F.getD i (fun _ _ => false, 0)).1 p)).length ≤ (L.filter ((F.getD i (fun _ _ => false, 0)).1 p)).length := by
      rw [List.filter_filter]
      refine List.Sublist.length_le ?_
      have : (L.filter fun a => (F.getD i (fun _ _ => false, 0)).1 p a && !decide (a = p)) = (L.filter ((F.getD i (fun _ _ => false, 0)).1 p)).filter fun a => !decide (a = p) := by
        rw [List.filter_filter]
        exact List.filter_congr fun a _ => Bool.and_comm ..
      first
        | (rw [this]; exact List.filter_sublist)
        | (have e2 : (fun a => !decide (a = p) && (F.getD i (fun _ _ => false, 0)).1 p a) = fun a => (F.getD i (fun _ _ => false, 0)).1 p a && !decide (a = p) := by funext a; exact Bool.and_comm ..
           rw [e2, this]; exact List.filter_sublist)
    omega
  have := List.length_pos_of_mem hp
  omega

theorem valid_sum (e : F.map Prod.snd = s) (hF : RF F L) (hne : s ≠ []) (h1 : ∀ z ∈ s, 2 ≤ z) (hv : ∀ i, i < s.length → Valid (v i) (dcr s i)) (hv1 : ∀ i, i < s.length → 1 ≤ v i) :
    (L.length : Int) < sm ((List.range s.length).map v) + (2 - s.length) ∧ (s.length = 2 → (∀ i, i < s.length → v i % 2 = 0) → (L.length : Int) < sm ((List.range s.length).map v) + (2 - s.length) - 1) := by
  have hsl : s.length = F.length := by rw [← e]; simp
  have key : ∀ p ∈ L, (L.length : Int) ≤ 1 + sm ((List.range s.length).map fun i => ((L.filter ((F.getD i (fun _ _ => false, 0)).1 p)).length : Int)) ∧ ∀ i ∈ List.range s.length, ((L.filter ((F.getD i (fun _ _ => false, 0)).1 p)).length : Int) + 1 ≤ v i := fun p hp => by
    refine ⟨by rw [hsl]; exact nbr_all hF hp, fun i hi => ?_⟩
    rw [List.mem_range] at hi
    have := nbr e hF h1 hv hp (i := i) (by omega)
    rwa [List.getD_eq_getElem?_getD, List.getElem?_eq_getElem (by omega)]
  have hge := sm_ge ((List.range s.length).map v) 1 fun z hz => by
    obtain ⟨i, hi, rfl⟩ := List.mem_map.1 hz
    exact hv1 i (List.mem_range.1 hi)
  simp only [List.length_map, List.length_range] at hge
  refine ⟨?_, fun h2 hev => ?_⟩
  · cases hL : L with
    | nil => simp; omega
    | cons p L' =>
      obtain ⟨k1, k2⟩ := key p (by rw [hL]; exact List.mem_cons_self ..)
      have := sm_map_le _ v _ k2
      rw [List.length_range] at this
      rw [← hL]; omega
  · have hr2 : List.range s.length = [0, 1] := by rw [h2]; rfl
    rw [hr2, h2]
    rw [hr2] at key
    have ev0 := hev 0 (by omega)
    have ev1 := hev 1 (by omega)
    have g0 := hv1 0 (by omega)
    have g1 := hv1 1 (by omega)
    simp only [List.map_cons, List.map_nil, sm]
    refine Classical.byContradiction fun hc => ?_
    -- every point has as many neighbours as it can
    have hF0 : F.getD 0 (fun _ _ => false, 0) ∈ F := by
      rw [List.getD_eq_getElem?_getD, List.getElem?_eq_getElem (show 0 < F.length by omega)]; exact List.getElem_mem _
    have hd : ∀ p ∈ L, ((L.filter ((F.getD 0 (fun _ _ => false, 0)).1 p)).length : Int) % 2 = 1 := fun p hp => by
      obtain ⟨k1, k2⟩ := key p hp
      have a0 := k2 0 (by simp)
      have a1 := k2 1 (by simp)
      simp only [List.map_cons, List.map_nil, sm] at k1
      omega
    have hodd := odd_sum _ L hd
    obtain ⟨z, hz⟩ := handshake (F.getD 0 (fun _ _ => false, 0)).1 (hF.sy _ hF0) (hF.ir _ hF0) L
    rw [hz] at hodd
    -- so many points, an odd number
    cases hL : L with
    | nil => rw [hL] at hc; simp at hc; omega
    | cons p L' =>
      obtain ⟨k1, k2⟩ := key p (by rw [hL]; exact List.mem_cons_self ..)
      have a0 := k2 0 (by simp)
      have a1 := k2 1 (by simp)
      simp only [List.map_cons, List.map_nil, sm] at k1
      omega
end

/-- The bound by neighbours is a bound. -/
theorem nb8_valid : ∀ (n : Nat) (s : List Int), mz s = n → wfs s → Valid (nb8 s) s := by
  intro n
  induction n using Nat.strongRecOn with
  | _ n ih =>
  intro s hn h
  rw [nb8_eq h]
  unfold nbB
  split
  · rename_i h1
    refine valid_one ?_
    have : 0 < s.length := by
      cases s with
      | nil => exact absurd rfl h.ne
      | cons _ _ => simp
    rw [← h1]; exact getD_mem' this
  rename_i h1
  split
  · rename_i h2
    refine valid_rest ?_
    rw [List.eq_nil_of_length_eq_zero h2]
    exact valid_none
  rename_i h2
  split
  · rename_i h3
    refine valid_rest ?_
    obtain ⟨m, hm⟩ : ∃ m, rst s = [m] := by
      match h : rst s, h3 with
      | [m], _ => exact ⟨m, rfl⟩
    rw [hm]
    have hmm := h.rg m (List.mem_filter.1 (show m ∈ rst s by rw [hm]; simp)).1
    exact valid_single (m := m) (by omega)
  rename_i h3
  split
  · rename_i h4
    have hr := rst_mz s
    exact valid_rest (ih _ (by omega) (rst s) rfl (h.rest h2))
  · rename_i h4
    intro F L e hF
    have hstep := fun i (hi : i < s.length) => h.step hi (h.three h1 h4 _ (getD_mem' hi))
    obtain ⟨k1, k2⟩ := valid_sum (v := fun i => nb8 (sorted (dcr s i))) e hF h.ne (fun z hz => by have := h.three h1 h4 z hz; omega) (fun i hi => by
      obtain ⟨w1, w2, _⟩ := hstep i hi
      exact (ih _ (by omega) _ rfl w1).perm (srt_perm _)) (fun i hi => (nb8_range _ _ rfl (hstep i hi).1).1)
    unfold tot
    split
    · rename_i h5
      refine k2 h5.1 fun i hi => ?_
      have := List.all_eq_true.1 h5.2 (nb8 (sorted (dcr s i))) (List.mem_map.2 ⟨i, List.mem_range.2 hi, rfl⟩)
      have ht : (nb8 (sorted (dcr s i))).tmod 2 = 0 := by simpa using this
      have h6 := Int.mul_tdiv_add_tmod (nb8 (sorted (dcr s i))) 2
      rw [ht] at h6
      show nb8 (sorted (dcr s i)) % 2 = 0
      omega
    · rw [Int.sub_zero]; exact k1
end Go.Proofs.YtghhnpdhehjlaaaGreat
