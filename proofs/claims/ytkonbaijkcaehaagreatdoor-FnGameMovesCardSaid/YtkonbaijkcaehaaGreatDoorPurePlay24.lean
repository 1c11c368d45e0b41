/- The game: results, moves, safe moves and the position behind a move, of both sides; what a move does to a position. No conditions beyond those that each lemma states. -/
import Derived.Test.YtkonbaijkcaehaaGreatDoorPureText24
import Derived.Test.YtkonbaijkcaehaaGreatDoorPureParse24
set_option linter.unusedVariables false
set_option linter.unusedSimpArgs false
namespace Go.Proofs.YtkonbaijkcaehaaGreatDoor
open Go Go.RowKit Ab

/-! ### Lists of places -/
def fl (g : Nat → Bool) (m : Nat) : List Int := ((List.range m).filter g).map fun a : Nat => (a : Int)
theorem fl_succ (g : Nat → Bool) (m : Nat) : fl g (m + 1) = if g m then fl g m ++ [(m : Int)] else fl g m := by
  unfold fl
  rw [List.range_succ, List.filter_append, List.map_append]
  cases h : g m <;> simp [h]
theorem fl_length (g : Nat → Bool) (m : Nat) : (fl g m).length ≤ m := by
  unfold fl
  rw [List.length_map]
  exact Nat.le_trans (List.length_filter_le _ _) (by simp)
theorem fl_mem (g : Nat → Bool) (m : Nat) (x : Int) : x ∈ fl g m ↔ ∃ a, a < m ∧ g a = true ∧ x = (a : Int) := by
  unfold fl
  simp only [List.mem_map, List.mem_filter, List.mem_range]
  exact ⟨fun ⟨a, ⟨h1, h2⟩, h3⟩ => ⟨a, h1, h2, h3.symm⟩, fun ⟨a, h1, h2, h3⟩ => ⟨a, ⟨h1, h2⟩, h3.symm⟩⟩
theorem fl_filter (g : Nat → Bool) (G : Int → Bool) (m : Nat) : (fl g m).filter G = fl (fun a => g a && G a) m := by
  unfold fl
  rw [List.filter_map, List.filter_filter]
  congr 1
  exact List.filter_congr fun a _ => by simp [Function.comp, Bool.and_comm]

def fre (l : List Int) (a : Nat) : Bool := decide (l.getD a 0 < 0)

theorem free_val (l : List Int) (k : Nat) (hk : l.length + 1 ≤ k) (hl : l.length ≤ 1000) : spec_l09Free k l = some (fl (fre l) l.length) := by
  unfold spec_l09Free
  have := loopI (f := fun k' i (s : List Int) => spec_l09Free_l0 l k' i s) (l.length : Int) 0 (fun i s => i ≤ l.length ∧ s = fl (fre l) i.toNat) (fun s => s = fl (fre l) l.length) ?_ ?_ k 0 [] (by omega) (by omega) ⟨by omega, rfl⟩
  · obtain ⟨s, e, rfl⟩ := this
    rw [e]; rfl
  · rintro k' i s h0 h1 ⟨q1, rfl⟩
    left
    refine ⟨fl (fre l) (i + 1).toNat, ?_, by omega, rfl⟩
    show spec_l09Free_l0 l (k' + 1) i _ = _
    rw [spec_l09Free_l0, w64_succ h0 h1 (by omega)]
    rw [if_pos (decide_eq_true h1), if_pos ⟨h0, h1⟩, show (i + 1).toNat = i.toNat + 1 by omega, fl_succ]
    have hlen := fl_length (fre l) i.toNat
    have hi : ((i.toNat : Nat) : Int) = i := by omega
    by_cases hb : l.getD i.toNat 0 < 0
    · rw [if_pos (decide_eq_true hb), if_pos (by simp; omega), if_pos (show fre l i.toNat = true from decide_eq_true hb), hi]; rfl
    · rw [if_neg (by simpa using hb), if_neg (show ¬ fre l i.toNat = true by unfold fre; simpa using hb)]; rfl
  · rintro k' i s h0 h1 ⟨q1, rfl⟩
    have hi : i = l.length := by omega
    subst hi
    refine ⟨_, ?_, rfl⟩
    show spec_l09Free_l0 l (k' + 1) _ _ = _
    rw [spec_l09Free_l0]; simp

theorem that_loop (n : Int) (l : List Int) (f : Int → Option Bool) (g : Nat → Bool) (hf : ∀ a : Nat, a < l.length → l.getD a 0 < 0 → f a = some (g a)) (k : Nat) (hk : l.length + 1 ≤ k) (hl : l.length ≤ 1000) :
    impl_position_movesThat_l0 ⟨n, l⟩ f k 0 [] = some (fl (fun a => fre l a && g a) l.length) := by
  have := loopI (f := fun k' i (s : List Int) => impl_position_movesThat_l0 ⟨n, l⟩ f k' i s) (l.length : Int) 0 (fun i s => i ≤ l.length ∧ s = fl (fun a => fre l a && g a) i.toNat) (fun s => s = fl (fun a => fre l a && g a) l.length) ?_ ?_ k 0 [] (by omega) (by omega) ⟨by omega, rfl⟩
  · obtain ⟨s, e, rfl⟩ := this
    exact e
  · rintro k' i s h0 h1 ⟨q1, rfl⟩
    left
    refine ⟨fl (fun a => fre l a && g a) (i + 1).toNat, ?_, by omega, rfl⟩
    show impl_position_movesThat_l0 ⟨n, l⟩ f (k' + 1) i _ = _
    rw [impl_position_movesThat_l0, w64_succ h0 h1 (by omega)]
    dsimp only
    rw [if_pos (decide_eq_true h1), if_pos ⟨h0, h1⟩, show (i + 1).toNat = i.toNat + 1 by omega, fl_succ]
    have hlen := fl_length (fun a => fre l a && g a) i.toNat
    have hi : ((i.toNat : Nat) : Int) = i := by omega
    by_cases hb : l.getD i.toNat 0 < 0
    · have hfr : fre l i.toNat = true := decide_eq_true hb
      have e := hf i.toNat (by omega) hb
      rw [hi] at e
      rw [if_pos (decide_eq_true hb), e]
      simp only [Option.bind_some, hfr, Bool.true_and]
      cases hg : g i.toNat with
      | true => rw [if_pos rfl, if_pos (by simp; omega), if_pos rfl, hi]; rfl
      | false => rfl
    · have hfr : fre l i.toNat = false := decide_eq_false hb
      rw [if_neg (by simpa using hb)]
      simp only [Option.bind_some, hfr, Bool.false_and]
      rfl
  · rintro k' i s h0 h1 ⟨q1, rfl⟩
    have hi : i = l.length := by omega
    subst hi
    refine ⟨_, ?_, rfl⟩
    show impl_position_movesThat_l0 ⟨n, l⟩ f (k' + 1) _ _ = _
    rw [impl_position_movesThat_l0]; simp

/-! ### Movers and results -/
theorem sh10 {n : Int} {l : List Int} (hs : sh n l) : l.length ≤ 10 := by rw [hs.2.1]; exact tri5 n hs.1

theorem mover_val (n : Int) (l : List Int) (h : l.length ≤ 10) (k : Nat) (hk : 20 ≤ k) : impl_position_mover k ⟨n, l⟩ = some (mov l) ∧ spec_l09Mover k l = some (mov l) := by
  have hm := mov_range l h
  have e : w64 ((l.count 0 : Int) - (l.count 1 : Int)) = mov l := w64_id (by unfold mov at hm; omega)
  constructor
  · unfold impl_position_mover
    rw [many_eq k n 0 l (by omega) (by omega), many_eq k n 1 l (by omega) (by omega)]
    simp only [Option.bind_some, e]
  · unfold spec_l09Mover
    rw [counts_eq k l (by omega) (by omega)]
    simp only [Option.bind_some, e]

open Classical in
noncomputable def res (n : Int) (l : List Int) : Int := if anyT n l (1 - mov l) then mov l else if l.count (-1) = 0 then 2 else -1

theorem nil_iff {n : Int} {l : List Int} {who : Int} {R : List (List Int)} (t : TInv l who (prc n.toNat 0 0) R) : 0 < R.length ↔ anyT n l who := by
  rw [List.length_pos_iff]
  unfold anyT
  constructor
  · intro h
    obtain ⟨x, hx⟩ := List.exists_mem_of_ne_nil _ h
    obtain ⟨i, j, m, a, b, _⟩ := (t x).1 hx
    exact ⟨i, j, m, a, b⟩
  · rintro ⟨i, j, m, a, b⟩ rfl
    exact List.not_mem_nil ((t (tri3 i j m)).2 ⟨i, j, m, a, b, rfl⟩)
theorem zero_iff {n : Int} {l : List Int} {who : Int} {r : Int × Int} (c : CInv l who (prc n.toNat 0 0) r) : 0 < r.2 ↔ anyT n l who := by
  obtain ⟨_, h0, h1⟩ := c
  have : r.2 = 0 ↔ ¬ anyT n l who := by
    rw [h1]; unfold anyT
    exact ⟨fun h ⟨i, j, m, a, b⟩ => h i j m a b, fun h i j m a b => h ⟨i, j, m, a, b⟩⟩
  constructor
  · intro h; apply Classical.byContradiction; intro h2; have := this.2 h2; omega
  · intro h; apply Classical.byContradiction; intro h2; exact this.1 (by omega) h

theorem count_free {n : Int} {l : List Int} (hs : sh n l) : l.count (-1) = 0 ↔ fl (fre l) l.length = [] := by
  rw [List.count_eq_zero]
  constructor
  · intro h
    refine List.eq_nil_iff_forall_not_mem.2 fun x hx => ?_
    obtain ⟨a, h1, h2, _⟩ := (fl_mem _ _ _).1 hx
    have h3 : l.getD a 0 < 0 := of_decide_eq_true h2
    have h4 := hs.2.2 a h1
    exact h (mem_getD.2 ⟨a, h1, by omega⟩)
  · intro h hm
    obtain ⟨a, h1, h2⟩ := mem_getD.1 hm
    have : (a : Int) ∈ fl (fre l) l.length := (fl_mem _ _ _).2 ⟨a, h1, decide_eq_true (by omega), rfl⟩
    rw [h] at this
    exact List.not_mem_nil this

theorem result_val {n : Int} {l : List Int} (hs : sh n l) (k : Nat) (hk : 200 ≤ k) : impl_position_result k ⟨n, l⟩ = some (res n l) ∧ spec_l09Result k n l = some (res n l) := by
  have h10 := sh10 hs
  have hm := mov_range l h10
  obtain ⟨e1, e2⟩ := mover_val n l h10 k (by omega)
  have ew : w64 (1 - mov l) = 1 - mov l := w64_id (by omega)
  constructor
  · obtain ⟨R, e3, t, b⟩ := triangles_eq l (1 - mov l) n hs k (by omega)
    unfold impl_position_result
    rw [e1, Option.bind_some, ew, e3, Option.bind_some]
    have := nil_iff t
    unfold res
    by_cases h : anyT n l (1 - mov l)
    · rw [if_pos (decide_eq_true (by have := this.2 h; omega)), if_pos h]; rfl
    · rw [if_neg (by simp only [decide_eq_true_eq]; intro h2; exact h (this.1 (by omega))), if_neg h, many_eq k n (-1) l (by omega) (by omega), Option.bind_some]
      by_cases hc : l.count (-1) = 0
      · rw [if_pos (decide_eq_true (by omega)), if_pos hc]
      · rw [if_neg (by simp only [decide_eq_true_eq]; omega), if_neg hc]
  · obtain ⟨r, e3, c⟩ := common_eq l (1 - mov l) n hs k (by omega)
    unfold spec_l09Result
    rw [e2, Option.bind_some, ew, e3, Option.bind_some]
    have := zero_iff c
    unfold res
    by_cases h : anyT n l (1 - mov l)
    · rw [if_pos (decide_eq_true (this.2 h)), if_pos h]
    · rw [if_neg (by simp only [decide_eq_true_eq]; intro h2; exact h (this.1 h2)), if_neg h, free_val l k (by omega) (by omega), Option.bind_some]
      by_cases hc : l.count (-1) = 0
      · rw [if_pos (decide_eq_true (by rw [(count_free hs).1 hc]; rfl)), if_pos hc]
      · rw [if_neg (by simp only [decide_eq_true_eq]; intro h2; exact hc ((count_free hs).2 (List.eq_nil_of_length_eq_zero (by omega)))), if_neg hc]

/-! ### Codes -/
open Classical in
noncomputable def cod (n : Int) (l : List Int) : Int := if sh n l then (if isPos n l then 0 else 1) else 2

theorem specCode_val (n : Int) (l : List Int) (k : Nat) (hk : 300 ≤ k) (hl : l.length ≤ 100) : spec_l09Code k n l = some (cod n l) := by
  unfold spec_l09Code cod
  rw [lists_eq k n _ (by omega) (by omega)]
  by_cases hs : sh n l
  · rw [specIs9_eq _ n hs k (by omega)]
    by_cases hi : isPos n l <;> simp [hs, hi]
  · simp [hs]
theorem implCode_val (n : Int) (l : List Int) (b : Bool) (k : Nat) (hk : 300 ≤ k) (hl : l.length ≤ 100) : impl_position_code k ⟨n, l⟩ (some b) = some (if b then cod n l else 2) := by
  unfold impl_position_code cod
  rw [shape_eq k n _ (by omega) (by omega)]
  by_cases hs : sh n l
  · rw [isPosition_eq _ n hs k (by omega)]
    by_cases hi : isPos n l <;> cases b <;> simp [hs, hi]
  · cases b <;> simp [hs]
theorem isPos_val (n : Int) (l : List Int) (k : Nat) (hk : 300 ≤ k) (hl : l.length ≤ 100) : ∃ b, impl_IsPosition k n l = some b ∧ spec_IsPosition k n l = some b ∧ (sh n l → isPos n l → b = true) := by
  classical
  refine ⟨decide (sh n l ∧ isPos n l), ?_, ?_, fun h1 h2 => by simp [h1, h2]⟩
  · unfold impl_IsPosition
    rw [shape_eq k n _ (by omega) (by omega)]
    by_cases hs : sh n l
    · rw [isPosition_eq _ n hs k (by omega)]; simp [hs]
    · simp [hs]
  · unfold spec_IsPosition
    rw [lists_eq k n _ (by omega) (by omega)]
    by_cases hs : sh n l
    · rw [specIs9_eq _ n hs k (by omega)]; simp [hs]
    · simp [hs]

/-! ### Moves -/
theorem moved_val (n : Int) (l : List Int) (a : Nat) (ha : a < l.length) (h : l.length ≤ 10) (k : Nat) (hk : 20 ≤ k) : impl_position_moved k ⟨n, l⟩ a = some ⟨n, l.set a (mov l)⟩ ∧ spec_l09Move k l a = some (l.set a (mov l)) := by
  obtain ⟨e1, e2⟩ := mover_val n l h k hk
  constructor
  · unfold impl_position_moved cloneA
    rw [e1, Option.bind_some, if_pos ⟨by omega, by show (a : Int) < (l.length : Int); omega⟩, if_pos (by show l.length ≤ _; omega)]
    rfl
  · unfold spec_l09Move spec_l01Own
    rw [if_pos (by simp; omega), Option.bind_some, e2, Option.bind_some, if_pos ⟨by omega, by simp; omega⟩]
    simp

theorem set_getD (l : List Int) (a b : Nat) (z : Int) (ha : a < l.length) : (l.set a z).getD b 0 = if b = a then z else l.getD b 0 := by
  simp only [List.getD, List.getElem?_set]
  by_cases h : b = a
  · subst h; simp [ha]
  · rw [if_neg (fun e => h e.symm), if_neg h]

theorem count_set (l : List Int) (a : Nat) (z y : Int) (ha : a < l.length) (hz : l.getD a 0 ≠ z) : (l.set a z).count y = if y = z then l.count y + 1 else if y = l.getD a 0 then l.count y - 1 else l.count y := by
  have e : l.getD a 0 = l[a] := by simp [ha]
  rw [e] at hz ⊢
  rw [List.count_set ha]
  by_cases h1 : y = z
  · subst h1
    rw [if_pos rfl]
    have : (l[a] == y) = false := by simpa using hz
    simp [this]
  · rw [if_neg h1]
    have h3 : (z == y) = false := by simpa using fun h => h1 h.symm
    by_cases h2 : y = l[a]
    · rw [if_pos h2]; simp [h3, h2.symm]
    · rw [if_neg h2]
      have : (l[a] == y) = false := by simpa using fun h => h2 h.symm
      simp [h3, this]

theorem sh_set {n : Int} {l : List Int} (hs : sh n l) (a : Nat) (z : Int) (ha : a < l.length) (hz : -1 ≤ z ∧ z ≤ 1) : sh n (l.set a z) := by
  refine ⟨hs.1, by rw [List.length_set]; exact hs.2.1, fun b hb => ?_⟩
  rw [List.length_set] at hb
  rw [set_getD l a b z ha]
  split
  · exact hz
  · exact hs.2.2 b hb

theorem mov_set {l : List Int} {a : Nat} (ha : a < l.length) (hf : l.getD a 0 = -1) (hm : 0 ≤ mov l ∧ mov l ≤ 1) : mov (l.set a (mov l)) = 1 - mov l := by
  have h0 := count_set l a (mov l) 0 ha (by omega)
  have h1 := count_set l a (mov l) 1 ha (by omega)
  rw [hf] at h0 h1
  rcases (show mov l = 0 ∨ mov l = 1 by omega) with h | h
  · rw [h] at h0 h1 ⊢
    unfold mov at h ⊢
    rw [h0, h1]
    simp
    omega
  · rw [h] at h0 h1 ⊢
    unfold mov at h ⊢
    rw [h0, h1]
    simp
    omega

/-- A triangle of the other player is one from before; one of the mover, without the new edge, too. -/
theorem hasT_set {l : List Int} {a : Nat} {z : Int} (ha : a < l.length) {who : Int} {i j m : Nat} (h : hasT (l.set a z) who i j m) : ((a : Int) ∈ tri3 i j m ∧ who = z) ∨ hasT l who i j m := by
  unfold hasT at h ⊢
  rw [set_getD l a _ z ha, set_getD l a _ z ha, set_getD l a _ z ha] at h
  unfold tri3
  by_cases h1 : eN i j = a
  · rw [if_pos h1] at h; exact .inl ⟨by simp [h1], h.1.symm⟩
  by_cases h2 : eN i m = a
  · rw [if_pos h2] at h; exact .inl ⟨by simp [h2], h.2.1.symm⟩
  by_cases h3 : eN j m = a
  · rw [if_pos h3] at h; exact .inl ⟨by simp [h3], h.2.2.symm⟩
  rw [if_neg h1, if_neg h2, if_neg h3] at h
  exact .inr h

theorem move_pos {n : Int} {l : List Int} (hs : sh n l) (hp : isPos n l) (hr : res n l < 0) {a : Nat} (ha : a < l.length) (hf : l.getD a 0 < 0) : sh n (l.set a (mov l)) ∧ isPos n (l.set a (mov l)) ∧ (res n (l.set a (mov l)) = 1 - mov l ↔ anyT n (l.set a (mov l)) (mov l)) := by
  obtain ⟨hm, hown, hoth⟩ := hp
  have hf1 : l.getD a 0 = -1 := by have := hs.2.2 a ha; omega
  have hno : ¬ anyT n l (1 - mov l) := fun h => by unfold res at hr; rw [if_pos h] at hr; omega
  have hmv := mov_set ha hf1 hm
  refine ⟨sh_set hs a _ ha (by omega), ?_, ?_⟩
  · unfold isPos
    rw [hmv]
    refine ⟨by omega, ?_, ?_⟩
    · rintro ⟨i, j, m, h1, h2⟩
      rcases hasT_set ha h2 with ⟨_, h⟩ | h
      · omega
      · exact hno ⟨i, j, m, h1, h⟩
    · right
      refine ⟨a, by rw [List.length_set]; exact ha, fun i j m h1 h2 => ?_⟩
      rw [show (1 : Int) - (1 - mov l) = mov l by omega] at h2
      rcases hasT_set ha h2 with ⟨h, _⟩ | h
      · exact h
      · exact absurd ⟨i, j, m, h1, h⟩ hown
  · unfold res
    rw [hmv, show (1 : Int) - (1 - mov l) = mov l by omega]
    by_cases h : anyT n (l.set a (mov l)) (mov l)
    · simp [h]
    · rw [if_neg h]
      constructor
      · intro h2; split at h2 <;> omega
      · intro h2; exact absurd h2 h
end Go.Proofs.YtkonbaijkcaehaaGreatDoor
