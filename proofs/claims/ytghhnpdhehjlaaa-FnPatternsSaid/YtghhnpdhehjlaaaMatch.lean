/- Plain Lean for the laws: matchings, and that of two colours one has a great one. No program in sight. No conditions beyond those that each lemma states. -/
import Derived.Test.YtghhnpdhehjlaaaMat
set_option linter.unusedVariables false
set_option linter.unusedSimpArgs false
namespace Go.Proofs.Ytghhnpdhehjlaaa
open Go Go.RowKit Ab

def rm (x : Int) (V : List Int) : List Int := V.filter fun z => !decide (z = x)
theorem mem_rm {x z : Int} {V : List Int} : z ∈ rm x V ↔ z ∈ V ∧ z ≠ x := by simp [rm, List.mem_filter]
theorem rm_nodup {x : Int} {V : List Int} (h : V.Nodup) : (rm x V).Nodup := h.filter _
theorem rm_len {x : Int} {V : List Int} (h : V.Nodup) (hx : x ∈ V) : (rm x V).length = V.length - 1 := filter_ne_length h hx

/-- So many edges that have no point twice. -/
def Mt (A : Int → Int → Bool) : List Int → Nat → Prop
  | _, 0 => True
  | V, k + 1 => ∃ u v, u ∈ V ∧ v ∈ V ∧ u ≠ v ∧ A u v = true ∧ Mt A (rm u (rm v V)) k
theorem Mt.mono {A : Int → Int → Bool} : ∀ {k : Nat} {V W : List Int}, (∀ z ∈ V, z ∈ W) → Mt A V k → Mt A W k
  | 0, _, _, _, _ => trivial
  | k + 1, V, W, h, ⟨u, v, hu, hv, hne, ha, hM⟩ => ⟨u, v, h u hu, h v hv, hne, ha, hM.mono fun z hz => by
      rw [mem_rm, mem_rm] at hz ⊢
      exact ⟨⟨h z hz.1.1, hz.1.2⟩, hz.2⟩⟩
theorem Mt.point {A : Int → Int → Bool} (hs : ∀ a b, A a b = A b a) : ∀ {k : Nat} {V : List Int} (i : Int), Mt A V k → Mt A (rm i V) k ∨ ∃ j, j ∈ V ∧ j ≠ i ∧ A i j = true ∧ Mt A (rm i (rm j V)) (k - 1) ∧ 0 < k
  | 0, _, _, _ => .inl trivial
  | k + 1, V, i, ⟨u, v, hu, hv, hne, ha, hM⟩ => by
    by_cases e1 : u = i
    · subst e1
      exact .inr ⟨v, hv, hne.symm, ha, hM, by omega⟩
    · by_cases e2 : v = i
      · subst e2
        refine .inr ⟨u, hu, e1, by rw [hs]; exact ha, hM.mono fun z hz => ?_, by omega⟩
        rw [mem_rm, mem_rm] at hz ⊢
        exact ⟨⟨hz.1.1, hz.2⟩, hz.1.2⟩
      · rcases Mt.point hs i hM with h | ⟨j, hj, hji, haj, h, hk⟩
        · refine .inl ⟨u, v, mem_rm.2 ⟨hu, e1⟩, mem_rm.2 ⟨hv, e2⟩, hne, ha, h.mono fun z hz => ?_⟩
          simp only [mem_rm] at hz ⊢
          exact ⟨⟨⟨hz.1.1.1, hz.2⟩, hz.1.1.2⟩, hz.1.2⟩
        · have hj' := mem_rm.1 hj
          have hj2 := mem_rm.1 hj'.1
          refine .inr ⟨j, hj2.1, hji, haj, ?_, by omega⟩
          obtain ⟨k, rfl⟩ : ∃ q, k = q + 1 := ⟨k - 1, by omega⟩
          refine ⟨u, v, ?_, ?_, hne, ha, h.mono fun z hz => ?_⟩
          · simp only [mem_rm]; exact ⟨⟨hu, fun e => hj'.2 e.symm⟩, e1⟩
          · simp only [mem_rm]; exact ⟨⟨hv, fun e => hj2.2 e.symm⟩, e2⟩
          · simp only [mem_rm] at hz ⊢
            exact ⟨⟨⟨⟨hz.1.1.1.1, hz.1.2⟩, hz.2⟩, hz.1.1.1.2⟩, hz.1.1.2⟩

/-- No matching has more edges than the greatest. -/
theorem Mt.le {A : Int → Int → Bool} (hs : ∀ a b, A a b = A b a) (l : List Int) : l.Nodup → ∀ k, Mt A l k → k ≤ mu A l := by
  refine len_ind (P := fun l => l.Nodup → ∀ k, Mt A l k → k ≤ mu A l) (fun l ih => ?_) l
  intro hn k hM
  cases l with
  | nil =>
    cases k with
    | zero => omega
    | succ k => obtain ⟨u, v, hu, _⟩ := hM; cases hu
  | cons i t =>
    obtain ⟨hit, hn'⟩ := List.nodup_cons.1 hn
    have hrm : ∀ z, z ∈ rm i (i :: t) → z ∈ t := fun z hz => by
      rw [mem_rm, List.mem_cons] at hz
      exact hz.1.resolve_left hz.2
    rcases hM.point hs i with h | ⟨j, hj, hji, ha, h, hk⟩
    · exact Nat.le_trans (ih t (by simp) hn' k (h.mono hrm)) (mu_tail A i t)
    · have hjt : j ∈ t := (List.mem_cons.1 hj).resolve_left hji
      have h1 := ih (t.filter fun z => !decide (z = j)) (by simp; exact Nat.lt_succ_of_le (List.length_filter_le _ _)) (hn'.filter _) (k - 1) (h.mono fun z hz => by
        rw [mem_rm, mem_rm, List.mem_cons] at hz
        exact mem_rm.2 ⟨hz.1.1.resolve_left hz.2, hz.1.2⟩)
      have h2 := mu_edge A i t hjt ha
      omega

/-- All edges have the colour. -/
theorem Mt.all {A : Int → Int → Bool} : ∀ (k : Nat) (V : List Int), V.Nodup → 2 * k ≤ V.length → (∀ u ∈ V, ∀ v ∈ V, u ≠ v → A u v = true) → Mt A V k
  | 0, _, _, _, _ => trivial
  | k + 1, V, hn, hl, h => by
    match V, hn, hl, h with
    | [], _, hl, _ => simp at hl
    | [a], _, hl, _ => simp at hl; omega
    | a :: b :: t, hn, hl, h =>
      have hab : a ≠ b := fun e => by subst e; simp at hn
      refine ⟨a, b, by simp, by simp, hab, h a (by simp) b (by simp) hab, Mt.all k _ (rm_nodup (rm_nodup hn)) ?_ fun u hu v hv => h u (mem_rm.1 (mem_rm.1 hu).1).1 v (mem_rm.1 (mem_rm.1 hv).1).1⟩
      rw [rm_len (rm_nodup hn) (mem_rm.2 ⟨by simp, hab⟩), rm_len hn (by simp)]
      simp at hl ⊢; omega

/-- Of two colours one has a great matching. -/
theorem two_matchings {A B : Int → Int → Bool} (hA : ∀ a b, A a b = A b a) (hB : ∀ a b, B a b = B b a) : ∀ (s p q : Nat), p + q = s → ∀ V : List Int, V.Nodup → (∀ u ∈ V, ∀ v ∈ V, u ≠ v → A u v = true ∨ B u v = true) → 1 ≤ p → 1 ≤ q → 2 * max p q + min p q ≤ V.length + 1 → Mt A V p ∨ Mt B V q := by
  intro s
  induction s using Nat.strongRecOn with
  | _ s ih =>
  intro p q hs V hn hV hp hq hl
  by_cases hT : ∃ u v w, u ∈ V ∧ v ∈ V ∧ w ∈ V ∧ u ≠ v ∧ v ≠ w ∧ u ≠ w ∧ A u v = true ∧ B v w = true
  · obtain ⟨u, v, w, hu, hv, hw, huv, hvw, huw, ha, hb⟩ := hT
    have e1 : ∀ {C : Int → Int → Bool} {a b : Int}, a ∈ V → b ∈ V → a ≠ b → C a b = true → Mt C V 1 := fun ha hb hne hc => ⟨_, _, ha, hb, hne, hc, trivial⟩
    by_cases hp1 : p = 1
    · subst hp1; exact .inl (e1 hu hv huv ha)
    · by_cases hq1 : q = 1
      · subst hq1; exact .inr (e1 hv hw hvw hb)
      · have hn3 := rm_nodup (x := u) (rm_nodup (x := v) (rm_nodup (x := w) hn))
        have hlen : (rm u (rm v (rm w V))).length = V.length - 3 := by
          rw [rm_len (rm_nodup (rm_nodup hn)) (mem_rm.2 ⟨mem_rm.2 ⟨hu, huw⟩, huv⟩), rm_len (rm_nodup hn) (mem_rm.2 ⟨hv, hvw⟩), rm_len hn hw]
          omega
        have hsub : ∀ z, z ∈ rm u (rm v (rm w V)) → z ∈ V ∧ z ≠ u ∧ z ≠ v ∧ z ≠ w := fun z hz => by
          simp only [mem_rm] at hz
          exact ⟨hz.1.1.1, hz.2, hz.1.2, hz.1.1.2⟩
        rcases ih (p - 1 + (q - 1)) (by omega) (p - 1) (q - 1) rfl _ hn3 (fun a ha b hb => hV a (hsub a ha).1 b (hsub b hb).1) (by omega) (by omega) (by rw [hlen]; omega) with h | h
        · left
          obtain ⟨p, rfl⟩ : ∃ r, p = r + 1 := ⟨p - 1, by omega⟩
          exact ⟨u, v, hu, hv, huv, ha, h.mono fun z hz => by have := hsub z hz; simp only [mem_rm]; exact ⟨⟨this.1, this.2.2.1⟩, this.2.1⟩⟩
        · right
          obtain ⟨q, rfl⟩ : ∃ r, q = r + 1 := ⟨q - 1, by omega⟩
          exact ⟨v, w, hv, hw, hvw, hb, h.mono fun z hz => by have := hsub z hz; simp only [mem_rm]; exact ⟨⟨this.1, this.2.2.2⟩, this.2.2.1⟩⟩
  · -- all edges have one colour
    have hno : ∀ {u v w}, u ∈ V → v ∈ V → w ∈ V → u ≠ v → v ≠ w → u ≠ w → A u v = true → ¬ B v w = true := fun {u v w} hu hv hw h1 h2 h3 ha hb => hT ⟨u, v, w, hu, hv, hw, h1, h2, h3, ha, hb⟩
    by_cases hE : ∃ u v, u ∈ V ∧ v ∈ V ∧ u ≠ v ∧ A u v = true
    · left
      obtain ⟨u, v, hu, hv, huv, ha⟩ := hE
      -- next to a point of an edge
      have near : ∀ {a b : Int}, a ∈ V → b ∈ V → a ≠ b → A a b = true → ∀ z ∈ V, z ≠ b → A b z = true := fun {a b} ha hb hab hA' z hz hzb => by
        by_cases e : z = a
        · subst e; rw [hA]; exact hA'
        · exact (hV b hb z hz (fun e => hzb e.symm)).resolve_right (hno ha hb hz hab (fun e => hzb e.symm) (fun e2 => e e2.symm) hA')
      have hall : ∀ a ∈ V, ∀ b ∈ V, a ≠ b → A a b = true := fun a ha' b hb' hab => by
        by_cases e1 : a = v
        · subst e1; exact near hu hv huv ha b hb' (fun e => hab e.symm)
        · have hva := near hu hv huv ha a ha' e1
          exact near hv ha' (fun e => e1 e.symm) hva b hb' (fun e => hab e.symm)
      exact (Mt.all p V hn (by omega) hall)
    · right
      refine Mt.all q V hn (by omega) fun u hu v hv huv => ?_
      exact (hV u hu v hv huv).resolve_left fun h => hE ⟨u, v, hu, hv, huv, h⟩

/-- .. so there are not many points. -/
theorem few_points {A B : Int → Int → Bool} (hA : ∀ a b, A a b = A b a) (hB : ∀ a b, B a b = B b a) {V : List Int} (hn : V.Nodup) (hV : ∀ u ∈ V, ∀ v ∈ V, u ≠ v → A u v = true ∨ B u v = true) : V.length + 2 ≤ 2 * max (mu A V + 1) (mu B V + 1) + min (mu A V + 1) (mu B V + 1) := by
  refine Classical.byContradiction fun hh => ?_
  rcases two_matchings hA hB _ (mu A V + 1) (mu B V + 1) rfl V hn hV (by omega) (by omega) (by omega) with h | h
  · have := Mt.le hA V hn _ h; omega
  · have := Mt.le hB V hn _ h; omega

/-- The edges of the first greatest matching. -/
theorem ml_edges (A : Int → Int → Bool) (l : List Int) : l.Nodup → (∀ e ∈ ml A l, ∃ i j, e = [i, j] ∧ A i j = true ∧ i ≠ j) ∧ (ml A l).flatten.Nodup ∧ ∀ z ∈ (ml A l).flatten, z ∈ l := by
  refine len_ind (P := fun l => l.Nodup → (∀ e ∈ ml A l, ∃ i j, e = [i, j] ∧ A i j = true ∧ i ≠ j) ∧ (ml A l).flatten.Nodup ∧ ∀ z ∈ (ml A l).flatten, z ∈ l) (fun l ih => ?_) l
  intro hn
  cases l with
  | nil => rw [ml_nil]; simp
  | cons i t =>
    obtain ⟨hit, hn'⟩ := List.nodup_cons.1 hn
    cases hf : t.find? (mlP A i t) with
    | none =>
      rw [ml_none hf]
      obtain ⟨h1, h2, h3⟩ := ih t (by simp) hn'
      exact ⟨h1, h2, fun z hz => List.mem_cons_of_mem _ (h3 z hz)⟩
    | some j =>
      rw [ml_some hf]
      obtain ⟨h1, h2, h3⟩ := ih (t.filter fun z => !decide (z = j)) (by simp; exact Nat.lt_succ_of_le (List.length_filter_le _ _)) (hn'.filter _)
      have hj := List.mem_of_find?_eq_some hf
      have hP := List.find?_some hf
      simp [mlP] at hP
      have hij : i ≠ j := fun e => hit (e ▸ hj)
      have h4 : ∀ z ∈ (ml A (t.filter fun z => !decide (z = j))).flatten, z ∈ t ∧ z ≠ j := fun z hz => mem_rm.1 (h3 z hz)
      refine ⟨fun e he => ?_, ?_, fun z hz => ?_⟩
      · rcases List.mem_cons.1 he with rfl | he
        · exact ⟨i, j, rfl, hP.1, hij⟩
        · exact h1 e he
      · rw [List.flatten_cons]
        show (i :: j :: (ml A (t.filter fun z => !decide (z = j))).flatten).Nodup
        refine List.nodup_cons.2 ⟨fun hm => ?_, List.nodup_cons.2 ⟨fun hm => (h4 j hm).2 rfl, h2⟩⟩
        rcases List.mem_cons.1 hm with e | hm
        · exact hij e
        · exact hit (h4 i hm).1
      · rw [List.flatten_cons] at hz
        rcases List.mem_append.1 hz with hz | hz
        · simp at hz
          rcases hz with rfl | rfl
          · exact List.mem_cons_self ..
          · exact List.mem_cons_of_mem _ hj
        · exact List.mem_cons_of_mem _ (h4 z hz).1
end Go.Proofs.Ytghhnpdhehjlaaa
