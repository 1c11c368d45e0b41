/- Plain laws, collected out of own texts. No conditions beyond those that each lemma states. -/
import Derived.Test.YtldgmcghdohmeaaPKit
import Derived.Test.YtldgmcghdohmeaaPBits
import Derived.Test.YtldgmcghdohmeaaLawW41
import Derived.Test.YtldgmcghdohmeaaPureCh41
set_option linter.unusedVariables false
set_option linter.unusedSimpArgs false
namespace Go.Proofs.Ytldgmcghdohmeaa
open Go Go.RowKit Ab

theorem eqRows_refl (k : Nat) (T : List (List Int)) (hk : T.length + 1 ≤ k) (hl : (T.length : Int) ≤ 1099511627776) (hr : ∀ l ∈ T, l.length + 1 ≤ k ∧ (l.length : Int) ≤ 1099511627776) : laws_eqInt64SS k T T = some true := by
  unfold laws_eqInt64SS
  have := loopAll (f := fun k' i => laws_eqInt64SS_l0 k T T k' i) (T.length : Int) false (fun _ => True) 0
    (fun k' i h0 h1 _ => by
      show laws_eqInt64SS_l0 k T T (k' + 1) i = _
      have hlt : i.toNat < T.length := by omega
      have hm : T.getD i.toNat [] ∈ T := by
        have e : T.getD i.toNat [] = T[i.toNat] := by simp [List.getD, hlt]
        rw [e]; exact List.getElem_mem hlt
      rw [laws_eqInt64SS_l0, w64_succ h0 h1 (by omega), eqInts_refl k _ (hr _ hm).1 (hr _ hm).2]
      simp [h0, h1])
    (fun k' i h0 h1 hq => (hq trivial).elim)
    (fun k' i h1 => by
      show laws_eqInt64SS_l0 k T T (k' + 1) i = _
      rw [laws_eqInt64SS_l0]
      have : ¬ i < (T.length : Int) := by omega
      simp [this]) k 0 (by omega) (by omega)
  rw [this]; simp

def fromN (s : Int) (n : Nat) : List Int := (List.range n).map fun i : Nat => s + (i : Int)

theorem fromN_length (s : Int) (n : Nat) : (fromN s n).length = n := by simp [fromN]

theorem fromN_get (s : Int) (n i : Nat) (h : i < n) : (fromN s n).getD i 0 = s + i := by simp [fromN, List.getD, h]

theorem mark_from (k : Nat) (l : List Int) (a : Int) (ha : 0 ≤ a) (hk : l.length + 1 ≤ k) (hl : a + (l.length : Int) ≤ 1099511627776) : laws_markInt64S k l a = some (a + l.length, fromN a l.length) := by
  unfold laws_markInt64S
  have := loopI (f := fun k i (s : Int × List Int) => laws_markInt64S_l0 k s.1 i s.2) (l.length : Int) 0 (fun i s => s.2.length = l.length ∧ s.1 = a + i ∧ i ≤ l.length ∧ ∀ j : Nat, (j : Int) < i → s.2.getD j 0 = a + j)
    (fun r => r = (a + (l.length : Int), fromN a l.length)) ?_ ?_ k 0 (a, l) (by omega) (by omega) ⟨rfl, by omega, by omega, fun j h => by omega⟩
  · obtain ⟨r, e, rfl⟩ := this
    rw [e]; rfl
  · intro k i s h0 h1 ⟨q1, q2, _, q4⟩
    left
    refine ⟨(a + i + 1, s.2.set i.toNat s.1), ?_, by simp [q1], by simp; omega, by omega, ?_⟩
    · show laws_markInt64S_l0 (k + 1) s.1 i s.2 = _
      rw [laws_markInt64S_l0, q1, w64_succ h0 h1 (by omega), q2, w64_id (by omega)]
      simp [h0, h1]
    · intro j hj
      by_cases e : i.toNat = j
      · subst e
        simp only [List.getD, List.getElem?_set_self (show i.toNat < s.2.length by omega), Option.getD_some, q2]
        omega
      · have := q4 j (by omega)
        simp only [List.getD] at this ⊢
        rw [List.getElem?_set_ne e, this]
  · intro k i s h0 h1 ⟨q1, q2, q3, q4⟩
    have hi : i = l.length := by omega
    have e2 : s.2 = fromN a l.length := by
      refine List.ext_getElem (by rw [q1, fromN_length]) fun j hj hj' => ?_
      have h1 := q4 j (by omega)
      have h2 := fromN_get a l.length j (by omega)
      simp only [List.getD, List.getElem?_eq_getElem hj, Option.getD_some] at h1
      simp only [List.getD, List.getElem?_eq_getElem hj', Option.getD_some] at h2
      rw [h1, h2]
    refine ⟨_, ?_, rfl⟩
    show laws_markInt64S_l0 (k + 1) s.1 i s.2 = _
    rw [laws_markInt64S_l0, q1, e2, q2, hi]
    have : ¬ (l.length : Int) < (l.length : Int) := by omega
    simp only [this, decide_false, Bool.false_eq_true, if_false]

theorem held_from (k n : Nat) (a : Int) (ha : 0 ≤ a) (hk : n + 1 ≤ k) (hl : a + (n : Int) ≤ 1099511627776) : laws_heldInt64S k (fromN a n) a = some (a + n) := by
  unfold laws_heldInt64S
  have := loopI (f := fun k i (s : Int) => laws_heldInt64S_l0 (fromN a n) k s i) (n : Int) 0 (fun i s => s = a + i ∧ i ≤ n)
    (fun r => r = .inl (a + (n : Int))) ?_ ?_ k 0 a (by omega) (by omega) ⟨by omega, by omega⟩
  · obtain ⟨r, e, rfl⟩ := this
    rw [e]; rfl
  · intro k i s h0 h1 ⟨q1, _⟩
    left
    refine ⟨a + i + 1, ?_, by omega, by omega⟩
    show laws_heldInt64S_l0 (fromN a n) (k + 1) s i = _
    rw [laws_heldInt64S_l0, fromN_length, w64_succ h0 h1 (by omega), fromN_get a n i.toNat (by omega), q1, w64_id (by omega)]
    have e : a + (i.toNat : Int) = a + i := by omega
    rw [e]
    simp [h0, h1]
  · intro k i s h0 h1 ⟨q1, q2⟩
    have hi : i = n := by omega
    refine ⟨_, ?_, rfl⟩
    show laws_heldInt64S_l0 (fromN a n) (k + 1) s i = _
    rw [laws_heldInt64S_l0, fromN_length, q1, hi]
    have : ¬ (n : Int) < (n : Int) := by omega
    simp only [this, decide_false, Bool.false_eq_true, if_false]

def endR (s : Int) : List (List Int) → Int
  | [] => s
  | l :: t => endR (s + l.length) t

def mkR (s : Int) : List (List Int) → List (List Int)
  | [] => []
  | l :: t => fromN s l.length :: mkR (s + l.length) t

theorem endR_app (s : Int) : ∀ (a b : List (List Int)), endR s (a ++ b) = endR (endR s a) b := fun a b => by
  induction a generalizing s with
  | nil => rfl
  | cons l t ih => exact ih _

theorem mkR_app (s : Int) (a b : List (List Int)) : mkR s (a ++ b) = mkR s a ++ mkR (endR s a) b := by
  induction a generalizing s with
  | nil => rfl
  | cons l t ih => simp [mkR, endR, ih]

theorem mkR_length (s : Int) (a : List (List Int)) : (mkR s a).length = a.length := by
  induction a generalizing s with
  | nil => rfl
  | cons l t ih => simp [mkR, ih]

theorem endR_le (s : Int) (B : Nat) (a : List (List Int)) (h : ∀ l ∈ a, l.length ≤ B) : s ≤ endR s a ∧ endR s a ≤ s + a.length * B := by
  induction a generalizing s with
  | nil => simp [endR]
  | cons l t ih =>
    have h1 := h l (by simp)
    have h2 := ih (s + l.length) fun l' h' => h l' (by simp [h'])
    simp only [endR, List.length_cons]
    have : ((t.length + 1 : Nat) : Int) * B = t.length * B + B := by rw [Int.natCast_add, Int.add_mul]; simp
    omega

theorem markTo_eq (k : Nat) (T : List (List Int)) (s : Int) (hs : 0 ≤ s) (B : Nat) (hB : ∀ l ∈ T, l.length ≤ B) (hk : B + 1 ≤ k) (hb : s + (T.length + 1) * B ≤ 1099511627776) :
    ∀ j : Nat, j ≤ T.length → markTo k T s j = some (mkR s (T.take j) ++ T.drop j, endR s (T.take j))
  | 0, _ => by simp [markTo, mkR, endR]
  | j + 1, h => by
    unfold markTo
    rw [markTo_eq k T s hs B hB hk hb j (by omega), Option.bind_some]
    have hlt : j < T.length := by omega
    have hml : (mkR s (T.take j)).length = j := by rw [mkR_length]; simp; omega
    have hget : (mkR s (T.take j) ++ T.drop j).getD j [] = T[j] := by
      rw [getD_app' _ _ _ _ (by omega), hml]
      simp [List.getD, hlt]
    have hle := endR_le s B (T.take j) fun l hl => hB l (List.mem_of_mem_take hl)
    have hj : ((T.take j).length : Int) * B ≤ T.length * B := Int.mul_le_mul_of_nonneg_right (by simp; omega) (by omega)
    have hl1 := hB T[j] (List.getElem_mem hlt)
    have hbb : ((T.length : Int) + 1) * B = T.length * B + B := by rw [Int.add_mul]; simp
    rw [hget, mark_from k T[j] (endR s (T.take j)) (by omega) (by omega) (by omega), Option.bind_some]
    have ht : T.take (j + 1) = T.take j ++ [T[j]] := by rw [List.take_add_one]; simp [hlt]
    have hd : T.drop j = T[j] :: T.drop (j + 1) := List.drop_eq_getElem_cons hlt
    rw [ht, mkR_app, endR_app, hd]
    simp only [mkR, endR]
    congr 2
    rw [List.set_append_right _ _ (by omega), hml, Nat.sub_self, List.set_cons_zero]
    rw [List.append_assoc]; rfl

theorem heldRows_eq (k : Nat) (T : List (List Int)) (s : Int) (hs : 0 ≤ s) (B : Nat) (hB : ∀ l ∈ T, l.length ≤ B) (hk : B + 1 ≤ k) (hk' : T.length + 1 ≤ k) (hb : s + (T.length + 1) * B ≤ 1099511627776) (hT : (T.length : Int) ≤ 1099511627776) :
    laws_heldInt64SS k (mkR s T) s = some (endR s T) := by
  unfold laws_heldInt64SS
  have := loopI (f := fun k' i (a : Int) => laws_heldInt64SS_l0 k (mkR s T) k' a i) (T.length : Int) 0 (fun i a => i ≤ T.length ∧ a = endR s (T.take i.toNat)) (fun r => r = .inl (endR s T)) ?_ ?_ k 0 s (by omega) (by omega) ⟨by omega, rfl⟩
  · obtain ⟨r, e, rfl⟩ := this
    rw [e]; rfl
  · intro k' i a h0 h1 ⟨_, q⟩
    left
    obtain ⟨j, rfl⟩ := nat_of h0
    have hlt : j < T.length := by omega
    simp only [Int.toNat_natCast] at q
    have e1 : ((j : Int) + 1).toNat = j + 1 := by omega
    have ht : T.take (j + 1) = T.take j ++ [T[j]] := by rw [List.take_add_one]; simp [hlt]
    have hle := endR_le s B (T.take j) fun l hl => hB l (List.mem_of_mem_take hl)
    have hj : ((T.take j).length : Int) * B ≤ T.length * B := Int.mul_le_mul_of_nonneg_right (by simp; omega) (by omega)
    have hl1 := hB T[j] (List.getElem_mem hlt)
    have hbb : ((T.length : Int) + 1) * B = T.length * B + B := by rw [Int.add_mul]; simp
    have hget : (mkR s T).getD j [] = fromN a (T[j]).length := by
      have hd : T = T.take j ++ (T[j] :: T.drop (j + 1)) := by rw [← List.drop_eq_getElem_cons hlt, List.take_append_drop]
      have : mkR s T = mkR s (T.take j) ++ (fromN a (T[j]).length :: mkR (a + (T[j]).length) (T.drop (j + 1))) := by
        conv => lhs; rw [hd]
        rw [mkR_app, ← q]; rfl
      have hml : (mkR s (T.take j)).length = j := by rw [mkR_length]; simp; omega
      rw [this, getD_app' _ _ _ _ (by omega), hml]
      simp
    refine ⟨a + (T[j]).length, ?_, by omega, by rw [e1, ht, endR_app, ← q]; rfl⟩
    show laws_heldInt64SS_l0 k (mkR s T) (k' + 1) a j = _
    rw [laws_heldInt64SS_l0, mkR_length, w64_succ h0 h1 (by omega), Int.toNat_natCast, hget, held_from k _ a (by omega) (by omega) (by omega)]
    have hneg : ¬ (a + ((T[j]).length : Int) < 0) := by omega
    simp [h0, h1, hneg]
  · intro k' i a h0 h1 ⟨q1, q2⟩
    have hi : i = T.length := by omega
    subst hi
    refine ⟨.inl a, ?_, by rw [q2]; simp⟩
    show laws_heldInt64SS_l0 k (mkR s T) (k' + 1) a T.length = _
    rw [laws_heldInt64SS_l0, mkR_length]; simp

/-- What a list of extensions went through. -/
theorem exts_ok {K : Nat} {ok : List Int → Nat → Bool} : ∀ (n : Nat) (l e : List Int), e ∈ exts K ok n l → e.take l.length = l ∧ ∀ i, l.length ≤ i → i < e.length → ∃ c : Nat, c < K ∧ e.getD i 0 = (c : Int) ∧ ok (e.take i) c = true := by
  intro n
  induction n with
  | zero =>
    intro l e he
    rw [exts_zero] at he
    simp at he
    subst he
    exact ⟨by simp, fun i h1 h2 => by omega⟩
  | succ n ih =>
    intro l e he
    rw [exts] at he
    obtain ⟨c, hc0, hc⟩ := List.mem_flatMap.1 he
    have hcK := List.mem_range.1 hc0
    split at hc
    · rename_i hok
      obtain ⟨h1, h2⟩ := ih _ e hc
      have hlen : (l ++ [(c : Int)]).length = l.length + 1 := by simp
      rw [hlen] at h1 h2
      have ht : e.take l.length = l := by
        have e3 : (e.take (l.length + 1)).take l.length = (l ++ [(c : Int)]).take l.length := by rw [h1]
        rw [List.take_take, show min l.length (l.length + 1) = l.length by omega] at e3
        rw [e3]; simp
      refine ⟨ht, fun i hi1 hi2 => ?_⟩
      by_cases hi : i = l.length
      · subst hi
        refine ⟨c, hcK, ?_, by rw [ht]; exact hok⟩
        have e3 : (e.take (l.length + 1)).getD l.length 0 = (l ++ [(c : Int)]).getD l.length 0 := by rw [h1]
        have e4 : (e.take (l.length + 1)).getD l.length 0 = e.getD l.length 0 := by simp [List.getD, List.getElem?_take]
        rw [← e4, e3]
        simp [List.getD]
      · exact h2 i (by omega) hi2
    · simp at hc

theorem exts_nodup {K : Nat} {ok : List Int → Nat → Bool} : ∀ (n : Nat) (l : List Int), (exts K ok n l).Nodup
  | 0, l => by rw [exts_zero]; simp
  | n + 1, l => by
    rw [exts]
    have key : ∀ m, ((List.range m).flatMap fun c => if ok l c then exts K ok n (l ++ [(c : Int)]) else []).Nodup := by
      intro m
      induction m with
      | zero => simp
      | succ m ih =>
        rw [List.range_succ, List.flatMap_append, List.nodup_append]
        refine ⟨ih, ?_, fun a ha b hb e => ?_⟩
        · simp only [List.flatMap_cons, List.flatMap_nil, List.append_nil]
          split
          · exact exts_nodup n _
          · simp
        · subst e
          obtain ⟨c, hc, h1⟩ := List.mem_flatMap.1 ha
          have hcm := List.mem_range.1 hc
          simp only [List.flatMap_cons, List.flatMap_nil, List.append_nil] at hb
          split at h1
          · split at hb
            · have e1 := (exts_ok n _ a h1).1
              have e2 := (exts_ok n _ a hb).1
              rw [List.length_append, List.length_singleton] at e1 e2
              rw [e1] at e2
              have := List.append_cancel_left e2
              simp at this
              omega
            · simp at hb
          · simp at h1
    exact key K

end Go.Proofs.Ytldgmcghdohmeaa
