/- Plain laws: the first cycle of so many points, as the program finds it. No conditions beyond those that each lemma states. -/
import Derived.Test.YtghhnpdhehjlaaaPureMat32
import Derived.Test.YtghhnpdhehjlaaaCyc
set_option linter.unusedVariables false
set_option linter.unusedSimpArgs false
namespace Go.Proofs.Ytghhnpdhehjlaaa
open Go Go.RowKit Ab

theorem getD_take {l : List Int} {i n : Nat} (h : i < n) : (l.take n).getD i 0 = l.getD i 0 := by
  rw [List.getD_eq_getElem?_getD, List.getElem?_take, if_pos h, ← List.getD_eq_getElem?_getD]
theorem lst_getD : ∀ (t : List Int) (f : Int), (f :: t).getD t.length 0 = lst f t
  | [], f => rfl
  | b :: t, f => by
    have := lst_getD t b
    rw [lst, ← this]; rfl
theorem cont_mem {k : Nat} {l : List Int} {v : Int} (h : l.length + 1 ≤ k) (hl : l.length ≤ 1000) : slices_Contains k l v = some (decide (v ∈ l)) := by
  rw [index_eq k l v h (by omega)]
  congr 1
  rw [decide_eq_decide]
  constructor
  · rintro ⟨a, ha, rfl⟩
    rw [List.getD_eq_getElem?_getD, List.getElem?_eq_getElem ha]
    exact List.getElem_mem ha
  · intro h
    obtain ⟨a, ha, e⟩ := List.getElem_of_mem h
    exact ⟨a, ha, by rw [List.getD_eq_getElem?_getD, List.getElem?_eq_getElem ha]; exact e⟩

section
variable {x : Col} {c : Int} (hp : 1 ≤ x.p ∧ x.p ≤ 11)
include hp

theorem cycle_val {f m : Nat} (hf : f < x.p.toNat) (hm : 3 ≤ m) (hm17 : m ≤ 17) : ∀ (r k : Nat) (t cells : List Int), t.length + 1 + r = m → Pf (aB x c) x.p.toNat f t → cells.length = 17 → cells.take (t.length + 1) = (f : Int) :: t → r + 60 ≤ k →
    ∃ cells', impl_Colouring_cycle k x c (m : Int) cells (t.length + 1) = some ((dfs (aB x c) x.p.toNat f r t).map fun _ => m, cells') ∧ cells'.length = 17 ∧ cells'.take (t.length + 1) = (f : Int) :: t ∧ ∀ t', dfs (aB x c) x.p.toNat f r t = some t' → cells'.take m = (f : Int) :: t' := by
  intro r
  induction r with
  | zero =>
    intro k t cells htm hP hcl hct hk
    obtain ⟨k, rfl⟩ : ∃ q, k = q + 1 := ⟨k - 1, by omega⟩
    have hg : ∀ i, i < t.length + 1 → cells.getD i 0 = ((f : Int) :: t).getD i 0 := fun i hi => by rw [← hct, getD_take hi]
    have hw : w64 (((t.length + 1 : Nat) : Int) - 1) = (t.length : Int) := by rw [w64_id (by omega)]; omega
    have hl := hP.len hf
    have hlast : lst (f : Int) t < 17 ∧ 0 ≤ lst (f : Int) t := by
      rcases lst_mem t f with ⟨e, _⟩ | hmm
      · rw [e]; omega
      · have := hP.rg _ hmm; omega
    rw [impl_Colouring_cycle]
    unfold impl_Colouring_cycle_body
    rw [hw, if_pos (by omega), List.drop_zero, hct]
    rw [decide_eq_true (show impl_size ((f : Int) :: t) = (m : Int) by unfold impl_size; simp; omega), if_pos rfl, if_pos (by omega)]
    have e0 : cells.getD (0 + (0 : Int).toNat) 0 = (f : Int) := hg 0 (by omega)
    have e1 : cells.getD (0 + (t.length : Int).toNat) 0 = lst (f : Int) t := by rw [Int.toNat_natCast, Nat.zero_add, hg _ (by omega), lst_getD]
    have e2 : cells.getD (0 + (1 : Int).toNat) 0 = t.headD 0 := by
      have := hg 1 (by omega)
      rw [show 0 + (1 : Int).toNat = 1 from rfl, this]
      cases t with
      | nil => rfl
      | cons a t => rfl
    rw [e0, e1, e2, joins_val x c f (lst f t) (by omega) (by omega), Option.bind_some]
    have hsym : aB x c (f : Int) (lst (f : Int) t) = aB x c (lst (f : Int) t) (f : Int) := aB_comm ..
    rw [hsym]
    have hd : dfs (aB x c) x.p.toNat f 0 t = bif aB x c (lst f t) f && decide (t.headD 0 < lst f t) then some t else none := by rw [dfs]
    rw [hd]
    cases ha : aB x c (lst (f : Int) t) (f : Int) with
    | false => exact ⟨cells, by simp, hcl, hct, fun t' h => by simp at h⟩
    | true =>
      rw [if_pos rfl, if_pos (by omega)]
      by_cases hlt : t.headD 0 < lst (f : Int) t
      · rw [decide_eq_true hlt]
        refine ⟨cells, ?_, hcl, hct, fun t' h => ?_⟩
        · simp; omega
        · simp at h
          subst h
          rw [← hct]; congr 1; omega
      · rw [decide_eq_false hlt]
        exact ⟨cells, by simp, hcl, hct, fun t' h => by simp at h⟩
  | succ r ih =>
    intro k t cells htm hP hcl hct hk
    obtain ⟨k, rfl⟩ : ∃ q, k = q + 1 := ⟨k - 1, by omega⟩
    have hg : ∀ i, i < t.length + 1 → cells.getD i 0 = ((f : Int) :: t).getD i 0 := fun i hi => by rw [← hct, getD_take hi]
    have hw : w64 (((t.length + 1 : Nat) : Int) - 1) = (t.length : Int) := by rw [w64_id (by omega)]; omega
    have hl := hP.len hf
    have hlast : lst (f : Int) t < 17 ∧ 0 ≤ lst (f : Int) t := by
      rcases lst_mem t f with ⟨e, _⟩ | hmm
      · rw [e]; omega
      · have := hP.rg _ hmm; omega
    have e0 : cells.getD (0 + (0 : Int).toNat) 0 = (f : Int) := hg 0 (by omega)
    have e1 : cells.getD (0 + (t.length : Int).toNat) 0 = lst (f : Int) t := by rw [Int.toNat_natCast, Nat.zero_add, hg _ (by omega), lst_getD]
    have hwf : w64 ((f : Int) + 1) = ((f + 1 : Nat) : Int) := by rw [w64_id (by omega)]; omega
    rw [impl_Colouring_cycle]
    unfold impl_Colouring_cycle_body
    rw [hw, if_pos (by omega), List.drop_zero, hct]
    rw [decide_eq_false (show ¬ impl_size ((f : Int) :: t) = (m : Int) by unfold impl_size; simp; omega), if_neg (by simp), if_pos (by omega), e0, hwf]
    obtain ⟨res, h1, h2⟩ := loopI (fun k' j (σ : List Int) => impl_Colouring_cycle_l0 k (impl_Colouring_cycle k) x c (m : Int) cells (t.length + 1) k' j σ) x.p ((f + 1 : Nat) : Int)
      (fun j σ => ∃ jn : Nat, j = jn ∧ jn ≤ x.p.toNat ∧ (ir jn x.p.toNat).findSome? (fun p => bif !decide (p ∈ t) && aB x c (lst f t) p then dfs (aB x c) x.p.toNat f r (t ++ [p]) else none) = dfs (aB x c) x.p.toNat f (r + 1) t ∧ σ.length = 17 ∧ σ.take (t.length + 1) = (f : Int) :: t)
      (fun res => ∃ cells', cells'.length = 17 ∧ cells'.take (t.length + 1) = (f : Int) :: t ∧ ((dfs (aB x c) x.p.toNat f (r + 1) t = none ∧ res = .inl cells') ∨ ∃ t', dfs (aB x c) x.p.toNat f (r + 1) t = some t' ∧ cells'.take m = (f : Int) :: t' ∧ res = .inr (some m, cells')))
      (fun k' j σ h0 h1 hI => by
        obtain ⟨jn, rfl, hj, hfs, hσl, hσt⟩ := hI
        have hjn : jn < x.p.toNat := by omega
        have hwj : w64 ((jn : Int) + 1) = ((jn : Int) + 1) := w64_id (by omega)
        have hmem : decide ((jn : Int) ∈ (f : Int) :: t) = decide ((jn : Int) ∈ t) := by
          rw [decide_eq_decide, List.mem_cons]
          exact ⟨fun h => h.resolve_left (by omega), .inr⟩
        rw [ir_next hjn, List.findSome?_cons] at hfs
        rw [impl_Colouring_cycle_l0, decide_eq_true (show (jn : Int) < x.p from h1), if_pos rfl, List.drop_zero, hσt, cont_mem (by simp; omega) (by simp; omega), Option.bind_some, hmem, hw, e1, joins_val x c (lst f t) jn (by omega) (by omega)]
        by_cases hjt : (jn : Int) ∈ t
        · left
          rw [decide_eq_true hjt] at hfs
          refine ⟨σ, ?_, jn + 1, by omega, by omega, by simpa using hfs, hσl, hσt⟩
          rw [decide_eq_true hjt]
          simp [hwj]
        · rw [decide_eq_false hjt] at hfs ⊢
          cases ha : aB x c (lst (f : Int) t) (jn : Int) with
          | false =>
            left
            rw [ha] at hfs
            refine ⟨σ, ?_, jn + 1, by omega, by omega, by simpa using hfs, hσl, hσt⟩
            simp [hwj]
          | true =>
            rw [ha] at hfs
            simp only [Bool.not_false, Bool.and_self, cond_true] at hfs
            obtain ⟨hs1, hs2⟩ := spl_one σ (t.length + 1) (jn : Int) (by omega)
            have hP' : Pf (aB x c) x.p.toNat f (t ++ [(jn : Int)]) := hP.snoc ha hjt (by omega) (by omega)
            obtain ⟨cells', e3, hl', ht', hres⟩ := ih k (t ++ [(jn : Int)]) (splicedL σ (0 + (t.length + 1)) ([(jn : Int)].length) [(jn : Int)]) (by simp; omega) hP' (by rw [hs1]; exact hσl) (by
              rw [show (t ++ [(jn : Int)]).length + 1 = t.length + 1 + 1 by simp, hs2, hσt]; rfl) (by omega)
            have hl2 : t.length + 1 + ([(jn : Int)] : List Int).length = (t ++ [(jn : Int)]).length + 1 := by simp
            have ht2 : cells'.take (t.length + 1) = (f : Int) :: t := by
              have := congrArg (List.take (t.length + 1)) ht'
              rw [List.take_take, Nat.min_eq_left (by simp)] at this
              rw [this]; simp
            simp only [Bool.not_false, if_true, Option.bind_some]
            rw [if_pos (by simp; omega), hl2, e3]
            simp only [Option.bind_some]
            cases hd : dfs (aB x c) x.p.toNat f r (t ++ [(jn : Int)]) with
            | none =>
              left
              rw [hd] at hfs
              refine ⟨cells', ?_, jn + 1, by omega, by omega, by simpa using hfs, hl', ht2⟩
              simp [hwj]
            | some t' =>
              right
              rw [hd] at hfs
              refine ⟨_, rfl, cells', hl', ht2, .inr ⟨t', by rw [← hfs], hres t' hd, ?_⟩⟩
              rfl)
      (fun k' j σ h0 h1 hI => by
        obtain ⟨jn, rfl, hj, hfs, hσl, hσt⟩ := hI
        rw [impl_Colouring_cycle_l0, decide_eq_false (show ¬ (jn : Int) < x.p by omega), if_neg (by simp)]
        rw [ir_end (by omega)] at hfs
        exact ⟨_, rfl, σ, hσl, hσt, .inl ⟨by rw [← hfs]; rfl, rfl⟩⟩)
      k ((f + 1 : Nat) : Int) cells (by omega) (by omega) ⟨f + 1, rfl, by omega, by rw [dfs], hcl, hct⟩
    try simp only at h1
    rw [h1]
    obtain ⟨cells', hl', ht', ⟨hd, rfl⟩ | ⟨t', hd, hr, rfl⟩⟩ := h2
    · rw [hd]
      exact ⟨cells', rfl, hl', ht', fun t'' h => by cases h⟩
    · rw [hd]
      exact ⟨cells', rfl, hl', ht', fun t'' h => by cases h; exact hr⟩

/-- The first cycle of so many points. -/
def fcyc (A : Int → Int → Bool) (n m : Nat) : Option (List Int) := if m < 3 then none else (List.range (n + 1 - m)).findSome? fun f => (dfs A n f (m - 1) []).map ((f : Int) :: ·)

omit hp in
theorem range_next (F : Nat → Option (List Int)) (b : Nat) : ∀ i, i < b → ((List.range b).drop i).findSome? F = match F i with | some z => some z | none => ((List.range b).drop (i + 1)).findSome? F := by
  intro i hi
  rw [List.drop_eq_getElem_cons (by simpa using hi), List.findSome?_cons, List.getElem_range]
  cases F i <;> rfl

theorem firstCycle_val {k : Nat} (hk : 200 ≤ k) {m : Nat} (hm17 : m ≤ 17) : impl_Colouring_firstCycle k x c (m : Int) = some (fcyc (aB x c) x.p.toNat m) := by
  unfold impl_Colouring_firstCycle fcyc
  by_cases hm : m < 3
  · rw [decide_eq_true (by omega), if_pos rfl, if_pos hm]
  · rw [decide_eq_false (by omega), if_neg (by simp), if_neg hm]
    have hw : w64 (w64 (x.p - (m : Int)) + 1) = x.p - m + 1 := by rw [w64_id (n := x.p - m) (by omega), w64_id (by omega)]
    obtain ⟨res, h1, h2⟩ := loopI (fun k' j (_ : Unit) => impl_Colouring_firstCycle_l0 k x c (m : Int) k' j) (x.p - m + 1) 0
      (fun j _ => ∃ jn : Nat, j = jn ∧ ((List.range (x.p.toNat + 1 - m)).drop jn).findSome? (fun f => (dfs (aB x c) x.p.toNat f (m - 1) []).map ((f : Int) :: ·)) = (List.range (x.p.toNat + 1 - m)).findSome? (fun f => (dfs (aB x c) x.p.toNat f (m - 1) []).map ((f : Int) :: ·)))
      (fun res => (match res with | .inl _ => (none : Option (List Int)) | .inr z => z) = (List.range (x.p.toNat + 1 - m)).findSome? (fun f => (dfs (aB x c) x.p.toNat f (m - 1) []).map ((f : Int) :: ·)))
      (fun k' j _ h0 h1 hI => by
        obtain ⟨jn, rfl, hfs⟩ := hI
        have hjn : jn < x.p.toNat + 1 - m := by omega
        have hwj : w64 ((jn : Int) + 1) = ((jn : Int) + 1) := w64_id (by omega)
        rw [range_next _ _ jn hjn] at hfs
        have hrl : (List.replicate 17 (0 : Int)).length = 17 := List.length_replicate ..
        obtain ⟨hs1, hs2⟩ := spl_one (List.replicate 17 (0 : Int)) 0 (jn : Int) (by rw [hrl]; omega)
        obtain ⟨cells', e3, hl', ht', hres⟩ := cycle_val hp (c := c) (f := jn) (m := m) (by omega) (by omega) hm17 (m - 1) k [] (splicedL (List.replicate 17 (0 : Int)) (0 + 0) ([(jn : Int)].length) [(jn : Int)]) (by simp; omega) ⟨trivial, List.nodup_nil, fun z hz => by cases hz⟩ (by rw [hs1, hrl]) (by
          show List.take 1 _ = _
          rw [hs2]; simp) (by omega)
        rw [impl_Colouring_firstCycle_l0, hw, decide_eq_true h1, if_pos rfl, if_pos (by rw [hrl]; simp)]
        have e3' : impl_Colouring_cycle k x c (m : Int) (splicedL (List.replicate 17 (0 : Int)) (0 + 0) ([(jn : Int)].length) [(jn : Int)]) (0 + ([(jn : Int)] : List Int).length) = _ := e3
        rw [e3', Option.bind_some]
        cases hd : dfs (aB x c) x.p.toNat jn (m - 1) [] with
        | none =>
          left
          rw [hd] at hfs
          exact ⟨(), by rw [hwj]; rfl, jn + 1, by omega, hfs⟩
        | some t' =>
          right
          rw [hd] at hfs
          refine ⟨.inr (some ((jn : Int) :: t')), ?_, ?_⟩
          · simp only [Option.map_some]
            rw [if_pos (by omega), hres t' hd]; rfl
          · rw [← hfs]; rfl)
      (fun k' j _ h0 h1 hI => by
        obtain ⟨jn, rfl, hfs⟩ := hI
        rw [impl_Colouring_firstCycle_l0, hw, decide_eq_false (by omega), if_neg (by simp)]
        refine ⟨.inl (), rfl, ?_⟩
        rw [← hfs, List.drop_eq_nil_of_le (by simp; omega)]; rfl)
      k 0 () (by omega) (by omega) ⟨0, rfl, by rw [List.drop_zero]⟩
    try simp only at h1
    rw [h1, Option.bind_some, ← h2]
    cases res <;> rfl
end
end Go.Proofs.Ytghhnpdhehjlaaa
