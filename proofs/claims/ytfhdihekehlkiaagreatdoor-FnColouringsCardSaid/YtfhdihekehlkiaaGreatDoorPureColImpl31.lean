/- Plain laws: texts in parts, texts cut. No conditions beyond those that each lemma states. -/
import Derived.Test.YtfhdihekehlkiaaGreatDoorPureCore31
set_option linter.unusedVariables false
set_option linter.unusedSimpArgs false
namespace Go.Proofs.YtfhdihekehlkiaaGreatDoor
open Go Go.RowKit Ab

theorem bs_of (t : ByteArray) : t = bs t.data.toList := by
  rcases t with ⟨a⟩; simp [bs]
theorem bs_ext (l : List UInt8) (i j : Nat) : (bs l).extract i j = bs ((l.drop i).take (j - i)) := by
  apply ByteArray.ext
  rw [ByteArray.data_extract]
  apply Array.ext'
  rw [Array.toList_extract]
  simp [bs, List.extract]

/-! ### The parts of a text -/
/-- Where the last part begins, and the parts before it, behind i bytes. -/
def spl (c : UInt8) (T : List UInt8) : Nat → Nat × List ByteArray
  | 0 => (0, [])
  | i + 1 => if T.getD i 0 = c then (i + 1, (spl c T i).2 ++ [bs ((T.drop (spl c T i).1).take (i - (spl c T i).1))]) else spl c T i

theorem spl_le (c : UInt8) (T : List UInt8) (i : Nat) : (spl c T i).1 ≤ i := by
  induction i with
  | zero => simp [spl]
  | succ i ih =>
    rw [spl]; split
    · exact Nat.le_refl _
    · omega

theorem spl_len (c : UInt8) (T : List UInt8) (i : Nat) (h : i ≤ T.length) : (spl c T i).2.length = (T.take i).count c := by
  induction i with
  | zero => simp [spl]
  | succ i ih =>
    have e : T.take (i + 1) = T.take i ++ [T.getD i 0] := by
      rw [List.take_succ_eq_append_getElem (by omega)]; simp [List.getD, show i < T.length by omega]
    rw [spl, e, List.count_append, ← ih (by omega)]
    split
    · rename_i h; rw [h]; simp
    · rename_i h; rw [List.count_singleton, if_neg (by simpa using h), Nat.add_zero]

theorem split_loop (c : UInt8) (T : List UInt8) (k : Nat) (hk : T.length + 2 ≤ k) (hT : T.length ≤ 8589934592) : spec_l01Split_l0 (bs T) c k 0 0 [] = some (((spl c T T.length).1 : Int), (spl c T T.length).2) := by
  have hsz : ((bs T).size : Int) = (T.length : Int) := by rw [bs_size]
  have := loopI (f := fun k' i (s : Int × List ByteArray) => spec_l01Split_l0 (bs T) c k' s.1 i s.2) (T.length : Int) 0 (fun i s => i ≤ T.length ∧ s = (((spl c T i.toNat).1 : Int), (spl c T i.toNat).2)) (fun r => r = (((spl c T T.length).1 : Int), (spl c T T.length).2)) ?_ ?_ k 0 (0, []) (by omega) (by omega) ⟨by omega, by simp [spl]⟩
  · obtain ⟨r, e, rfl⟩ := this
    exact e
  · rintro k' i s h0 h1 ⟨_, rfl⟩
    left
    obtain ⟨m, rfl⟩ := nat_of h0
    rw [Int.toNat_natCast]
    refine ⟨(((spl c T (m + 1)).1 : Int), (spl c T (m + 1)).2), ?_, by omega, by rw [show ((m : Int) + 1).toNat = m + 1 by omega]⟩
    show spec_l01Split_l0 (bs T) c (k' + 1) ((spl c T m).1 : Int) (m : Int) (spl c T m).2 = _
    have hle := spl_le c T m
    have hln := spl_len c T m (by omega)
    have hc : (T.take m).count c ≤ m := Nat.le_trans List.count_le_length (by rw [List.length_take]; omega)
    rw [spec_l01Split_l0, hsz, if_pos (decide_eq_true h1), if_pos ⟨h0, h1⟩, bs_list, Int.toNat_natCast, w64_succ h0 h1 (by omega), Int.toNat_natCast, bs_ext]
    by_cases hb : T.getD m 0 = c
    · have e : (((T.getD m 0).toNat : Int) = (c.toNat : Int)) := by rw [hb]
      rw [if_pos (decide_eq_true e), if_pos ⟨by omega, by omega, by omega⟩, if_pos (by simp; omega)]
      rw [spl, if_pos hb]
      rfl
    · have e : ¬ (((T.getD m 0).toNat : Int) = (c.toNat : Int)) := fun h => hb (UInt8.toNat_inj.1 (by omega))
      rw [if_neg (by simpa using e)]
      rw [spl, if_neg hb]
      rfl
  · rintro k' i s h0 h1 ⟨q0, rfl⟩
    obtain rfl : i = T.length := by omega
    rw [Int.toNat_natCast]
    refine ⟨(((spl c T T.length).1 : Int), (spl c T T.length).2), ?_, rfl⟩
    show spec_l01Split_l0 (bs T) c (k' + 1) ((spl c T T.length).1 : Int) (T.length : Int) (spl c T T.length).2 = _
    rw [spec_l01Split_l0, hsz]; simp

theorem split_eq (c : UInt8) (T : List UInt8) (k : Nat) (hk : T.length + 2 ≤ k) (hT : T.length ≤ 8589934592) : spec_l01Split k (bs T) c = some ((spl c T T.length).2 ++ [bs (T.drop (spl c T T.length).1)]) := by
  unfold spec_l01Split
  rw [split_loop c T k hk hT, Option.bind_some]
  have hle := spl_le c T T.length
  have hln := spl_len c T T.length (Nat.le_refl _)
  have hc : (T.take T.length).count c ≤ T.length := Nat.le_trans List.count_le_length (by rw [List.length_take]; omega)
  have hsz : (bs T).size = T.length := bs_size T
  rw [hsz, if_pos ⟨by omega, by omega, by omega⟩, if_pos (by simp; omega), bs_ext, Int.toNat_natCast]
  rw [List.take_of_length_le (by rw [List.length_drop]; exact Nat.le_refl _)]

/-! ### Parts of a list of bytes -/
def stp (c : UInt8) (s : List (List UInt8) × List UInt8) (b : UInt8) : List (List UInt8) × List UInt8 := if b = c then (s.1 ++ [s.2], []) else (s.1, s.2 ++ [b])
def partS (c : UInt8) (T : List UInt8) : List (List UInt8) × List UInt8 := T.foldl (stp c) ([], [])
def parts (c : UInt8) (T : List UInt8) : List (List UInt8) := (partS c T).1 ++ [(partS c T).2]
theorem partS_snoc (c : UInt8) (T : List UInt8) (b : UInt8) : partS c (T ++ [b]) = stp c (partS c T) b := by
  unfold partS
  rw [List.foldl_append]
  rfl
theorem spl_partS (c : UInt8) (T : List UInt8) : ∀ i, i ≤ T.length → (spl c T i).2 = (partS c (T.take i)).1.map bs ∧ (T.take i).drop (spl c T i).1 = (partS c (T.take i)).2
  | 0, _ => by simp [spl, partS]
  | i + 1, h => by
    obtain ⟨h1, h2⟩ := spl_partS c T i (by omega)
    have hle := spl_le c T i
    have e : T.take (i + 1) = T.take i ++ [T.getD i 0] := by
      rw [List.take_succ_eq_append_getElem (by omega)]; simp [List.getD, show i < T.length by omega]
    have hl : (T.take i).length = i := by simp; omega
    rw [e, partS_snoc, spl]
    unfold stp
    by_cases hb : T.getD i 0 = c
    · rw [if_pos hb, if_pos hb]
      dsimp only
      refine ⟨?_, List.drop_of_length_le (by simp; omega)⟩
      rw [List.map_append, h1, ← h2]
      have : (T.drop (spl c T i).1).take (i - (spl c T i).1) = (T.take i).drop (spl c T i).1 := by rw [List.drop_take]
      rw [this]; rfl
    · rw [if_neg hb, if_neg hb]
      dsimp only
      refine ⟨h1, ?_⟩
      rw [List.drop_append_of_le_length (by omega), h2]
theorem split_val (c : UInt8) (T : List UInt8) (k : Nat) (hk : T.length + 2 ≤ k) (hT : T.length ≤ 8589934592) : spec_l01Split k (bs T) c = some ((parts c T).map bs) := by
  obtain ⟨h1, h2⟩ := spl_partS c T T.length (Nat.le_refl _)
  rw [List.take_length] at h1 h2
  rw [split_eq c T k hk hT, h1, h2]
  unfold parts
  rw [List.map_append]; rfl
theorem joinL_snoc (P : List (List UInt8)) (y sep : List UInt8) (h : P ≠ []) : Lib.join (P ++ [y]) sep = Lib.join P sep ++ sep ++ y := by
  cases P with
  | nil => exact absurd rfl h
  | cons x r =>
    rw [List.cons_append, Lib.join_cons, Lib.join_cons]
    unfold Lib.joinTail
    simp
theorem joinL_last (P : List (List UInt8)) (l m sep : List UInt8) : Lib.join (P ++ [l ++ m]) sep = Lib.join (P ++ [l]) sep ++ m := by
  cases P with
  | nil => rw [List.nil_append, List.nil_append, Lib.join_one, Lib.join_one]
  | cons x r => rw [joinL_snoc _ _ _ (by simp), joinL_snoc _ _ _ (by simp)]; simp
theorem parts_join (c : UInt8) (T : List UInt8) : Lib.join (parts c T) [c] = T := by
  have key : ∀ i, i ≤ T.length → Lib.join (parts c (T.take i)) [c] = T.take i := by
    intro i
    induction i with
    | zero => intro _; simp [parts, partS, Lib.join_one]
    | succ i ih =>
      intro h
      have e : T.take (i + 1) = T.take i ++ [T.getD i 0] := by
        rw [List.take_succ_eq_append_getElem (by omega)]; simp [List.getD, show i < T.length by omega]
      have := ih (by omega)
      unfold parts at this ⊢
      rw [e, partS_snoc]
      unfold stp
      by_cases hb : T.getD i 0 = c
      · rw [if_pos hb]
        dsimp only
        rw [joinL_snoc _ _ _ (by simp), this, hb]; simp
      · rw [if_neg hb]
        dsimp only
        rw [joinL_last, this]
  have := key T.length (Nat.le_refl _)
  rwa [List.take_length] at this
theorem parts_no (c : UInt8) (T : List UInt8) : ∀ p ∈ parts c T, c ∉ p := by
  have key : ∀ i, i ≤ T.length → ∀ p ∈ parts c (T.take i), c ∉ p := by
    intro i
    induction i with
    | zero => intro _ p hp; simp [parts, partS] at hp; subst hp; simp
    | succ i ih =>
      intro h p hp
      have e : T.take (i + 1) = T.take i ++ [T.getD i 0] := by
        rw [List.take_succ_eq_append_getElem (by omega)]; simp [List.getD, show i < T.length by omega]
      have hi := ih (by omega)
      unfold parts at hi hp
      rw [e, partS_snoc] at hp
      unfold stp at hp
      by_cases hb : T.getD i 0 = c
      · rw [if_pos hb] at hp
        rcases List.mem_append.1 hp with q | q
        · exact hi p q
        · simp at q; subst q; simp
      · rw [if_neg hb] at hp
        rcases List.mem_append.1 hp with q | q
        · exact hi p (List.mem_append_left _ q)
        · simp at q
          subst q
          have := hi (partS c (T.take i)).2 (by simp)
          simp only [List.mem_append, List.mem_singleton, not_or]
          exact ⟨this, fun q => hb q.symm⟩
  have := key T.length (Nat.le_refl _)
  rwa [List.take_length] at this
theorem fold_row (c : UInt8) : ∀ (y : List UInt8), c ∉ y → ∀ (P : List (List UInt8)) (l : List UInt8), y.foldl (stp c) (P, l) = (P, l ++ y)
  | [], _, P, l => by simp
  | b :: t, h, P, l => by
    have hb : b ≠ c := fun e => h (by simp [e])
    rw [List.foldl_cons, show stp c (P, l) b = (P, l ++ [b]) by unfold stp; rw [if_neg hb], fold_row c t (fun q => h (by simp [q]))]
    simp
theorem fold_rows (c : UInt8) : ∀ (r : List (List UInt8)), (∀ y ∈ r, c ∉ y) → ∀ (P : List (List UInt8)) (l : List UInt8), ((Lib.joinTail [c] r).foldl (stp c) (P, l)).1 ++ [((Lib.joinTail [c] r).foldl (stp c) (P, l)).2] = P ++ [l] ++ r
  | [], _, P, l => by simp [Lib.joinTail]
  | y :: r, h, P, l => by
    have e : Lib.joinTail [c] (y :: r) = c :: (y ++ Lib.joinTail [c] r) := by simp [Lib.joinTail]
    rw [e, List.foldl_cons, show stp c (P, l) c = (P ++ [l], []) by unfold stp; rw [if_pos rfl], List.foldl_append, fold_row c y (h y (by simp)), fold_rows c r (fun z hz => h z (by simp [hz]))]
    simp
theorem parts_of_join (c : UInt8) (L : List (List UInt8)) (hL : L ≠ []) (h : ∀ y ∈ L, c ∉ y) : parts c (Lib.join L [c]) = L := by
  cases L with
  | nil => exact absurd rfl hL
  | cons x r =>
    unfold parts partS
    rw [Lib.join_cons, List.foldl_append, fold_row c x (h x (by simp)), fold_rows c r (fun z hz => h z (by simp [hz]))]
    simp
theorem parts_two (c : UInt8) {T a r : List UInt8} (h : parts c T = [a, r]) : T = a ++ c :: r ∧ c ∉ a ∧ c ∉ r := by
  have h1 := parts_join c T
  have h2 := parts_no c T
  rw [h] at h1 h2
  refine ⟨?_, h2 a (by simp), h2 r (by simp)⟩
  rw [← h1, Lib.join_cons]
  simp [Lib.joinTail]
theorem parts_len2 (c : UInt8) {T : List UInt8} (h : (parts c T).length = 2) : ∃ a r, parts c T = [a, r] := by
  match hp : parts c T, h with
  | [a, r], _ => exact ⟨a, r, rfl⟩
theorem parts_pair (c : UInt8) {a r : List UInt8} (ha : c ∉ a) (hr : c ∉ r) : parts c (a ++ c :: r) = [a, r] := by
  have := parts_of_join c [a, r] (by simp) (fun y hy => by
    simp at hy
    rcases hy with rfl | rfl
    · exact ha
    · exact hr)
  rw [Lib.join_cons] at this
  simpa [Lib.joinTail] using this

/-! ### The text cut -/
theorem indexByte_none (c : UInt8) (T : List UInt8) (h : c ∉ T) : Lib.indexByte T c = -1 := by
  induction T with
  | nil => rfl
  | cons b l ih =>
    have h1 : (b == c) = false := by simpa using fun e => h (by simp [e])
    rw [Lib.indexByte, h1, ih (fun e => h (by simp [e]))]; rfl
theorem indexByte_some (c : UInt8) (a r : List UInt8) (ha : c ∉ a) : Lib.indexByte (a ++ c :: r) c = a.length := by
  induction a with
  | nil => simp [Lib.indexByte]
  | cons b l ih =>
    have h1 : (b == c) = false := by simpa using fun e => ha (by simp [e])
    rw [List.cons_append, Lib.indexByte, h1, ih (fun e => ha (by simp [e]))]
    have : ((l.length : Int) == -1) = false := by simp
    rw [this]
    simp

theorem cut_none (c : UInt8) (T : List UInt8) (h : c ∉ T) : strings_Cut (bs T) (⟨#[c]⟩ : ByteArray) = some (bs T, bs [], false) := by
  unfold strings_Cut internal_stringslite_Cut
  have : indexOne (bs T) (⟨#[c]⟩ : ByteArray) = some (-1) := by
    show some (Lib.indexByte (bs T).data.toList c) = _
    rw [bs_list, indexByte_none c T h]
  rw [this]; rfl

theorem cut_some (c : UInt8) (a r : List UInt8) (ha : c ∉ a) (hT : (a ++ c :: r).length ≤ 8589934592) : strings_Cut (bs (a ++ c :: r)) (⟨#[c]⟩ : ByteArray) = some (bs a, bs r, true) := by
  have hl : (a ++ c :: r).length = a.length + 1 + r.length := by simp; omega
  unfold strings_Cut internal_stringslite_Cut
  have : indexOne (bs (a ++ c :: r)) (⟨#[c]⟩ : ByteArray) = some (a.length : Int) := by
    show some (Lib.indexByte (bs (a ++ c :: r)).data.toList c) = _
    rw [bs_list, indexByte_some c a r ha]
  have hsz : (bs (a ++ c :: r)).size = a.length + 1 + r.length := by rw [bs_size, hl]
  have h1 : (⟨#[c]⟩ : ByteArray).size = 1 := rfl
  rw [this, Option.bind_some, if_pos (by simp), hsz, h1, w64_id (by omega), if_pos ⟨by omega, by omega, by omega⟩, if_pos ⟨by omega, by omega, by omega⟩, Option.bind_some, bs_ext, bs_ext]
  have e1 : ((a.length : Int) + ((1 : Nat) : Int)).toNat = a.length + 1 := by omega
  rw [e1, Int.toNat_natCast]
  have e2 : ((a ++ c :: r).drop 0).take (a.length - 0) = a := by simp
  have e3 : ((a ++ c :: r).drop (a.length + 1)).take (a.length + 1 + r.length - (a.length + 1)) = r := by
    rw [show a ++ c :: r = (a ++ [c]) ++ r by simp, show a.length + 1 = (a ++ [c]).length by simp, List.drop_left, List.take_of_length_le (by simp)]
  rw [e2, e3]

theorem firstC (c : UInt8) (T : List UInt8) (h : c ∈ T) : ∃ a r, T = a ++ c :: r ∧ c ∉ a := by
  induction T with
  | nil => simp at h
  | cons b l ih =>
    by_cases e : b = c
    · exact ⟨[], l, by simp [e], by simp⟩
    · obtain ⟨a, r, rfl, ha⟩ := ih (by rcases List.mem_cons.1 h with h | h; exact absurd h.symm e; exact h)
      exact ⟨b :: a, r, by simp, by simp [ha, Ne.symm e]⟩

/-! ### Numbers -/
def dec2 (m : Nat) : List UInt8 := if m < 10 then [UInt8.ofNat (48 + m)] else [49, UInt8.ofNat (48 + (m - 10))]
theorem dec2_both (m : Nat) (hm : m < 18) (k : Nat) (hk : 2 ≤ k) : spec_l01Dec k (m : Int) = some (bs (dec2 m)) ∧ impl_decimal (m : Int) = some (bs (dec2 m)) := by
  obtain ⟨k, rfl⟩ : ∃ k', k = k' + 2 := ⟨k - 2, by omega⟩
  rw [dec_fuel (m : Int) (by omega)]
  have : ∀ m : Nat, m < 18 → spec_l01Dec 2 (m : Int) = some (bs (dec2 m)) ∧ impl_decimal (m : Int) = some (bs (dec2 m)) := by decide +kernel
  exact this m hm
theorem dec2_digit (m : Nat) (hm : m < 18) : (∀ b ∈ dec2 m, 48 ≤ b.toNat ∧ b.toNat ≤ 57) ∧ (dec2 m).length ≤ 2 := by
  have : ∀ m : Nat, m < 18 → (∀ b ∈ dec2 m, 48 ≤ b.toNat ∧ b.toNat ≤ 57) ∧ (dec2 m).length ≤ 2 := by decide +kernel
  exact this m hm
theorem itoa_dec2 (m : Nat) (hm : m < 18) : Lib.itoa (m : Int) = dec2 m := by
  unfold Lib.itoa dec2
  rw [if_neg (by omega), Int.toNat_natCast, Lib.decDigits]
  by_cases h : m < 10
  · rw [dif_pos h, if_pos h]
  · rw [dif_neg h, if_neg h, Lib.decDigits, dif_pos (by omega), show m / 10 = 1 by omega, show m % 10 = m - 10 by omega]
    rfl
theorem num_dec2 (m : Nat) (hm : m < 18) (k : Nat) (hk : 4 ≤ k) : spec_l01Number k (bs (dec2 m)) = some (m : Int) := by
  obtain ⟨k, rfl⟩ : ∃ k', k = k' + 4 := ⟨k - 4, by omega⟩
  have h : m = 0 ∨ m = 1 ∨ m = 2 ∨ m = 3 ∨ m = 4 ∨ m = 5 ∨ m = 6 ∨ m = 7 ∨ m = 8 ∨ m = 9 ∨ m = 10 ∨ m = 11 ∨ m = 12 ∨ m = 13 ∨ m = 14 ∨ m = 15 ∨ m = 16 ∨ m = 17 := by omega
  rcases h with rfl | rfl | rfl | rfl | rfl | rfl | rfl | rfl | rfl | rfl | rfl | rfl | rfl | rfl | rfl | rfl | rfl | rfl <;> rfl
theorem beq_self (b : ByteArray) : (b == b) = true := by rcases b with ⟨a⟩; show (a == a) = true; simp
theorem read_dec2 (m : Nat) (hm : m < 18) : readN (bs (dec2 m)) = some ((m : Int), true) := by
  have hd := (dec2_digit m hm).2
  unfold readN
  rw [if_pos (by rw [bs_size]; omega), bs_list]
  have hp : ∀ m : Nat, m < 18 → Lib.parseIntB 64 (dec2 m) = .ok (m : Int) := by decide +kernel
  rw [hp m hm]
  simp only [itoa_dec2 m hm]
  exact congrArg some (Prod.ext rfl (beq_self _))
theorem read_ex (a : ByteArray) (ha : a.size ≤ 8589934592) : ∃ v ok, readN a = some (v, ok) := by
  unfold readN
  rw [if_pos (by omega)]
  cases Lib.parseIntB 64 a.data.toList with
  | range => exact ⟨_, _, rfl⟩
  | ok v => exact ⟨_, _, rfl⟩
  | _ => exact ⟨_, _, rfl⟩
theorem num_ex (a : List UInt8) (ha : a.length ≤ 8589934592) (k : Nat) (hk : 20 ≤ k) : ∃ v, spec_l01Number k (bs a) = some v ∧ (1 ≤ v → v ≤ 17 → a = dec2 v.toNat) := by
  have hsz : ((bs a).size : Int) = (a.length : Int) := by rw [bs_size]
  unfold spec_l01Number
  rw [hsz, bs_list]
  by_cases h0 : a.length = 0
  · exact ⟨-1, by simp [h0], fun h => by omega⟩
  by_cases h9 : 9 < a.length
  · exact ⟨-1, by simp [h0, h9, show (9 : Int) < (a.length : Int) by omega], fun h => by omega⟩
  have hz : (0 : Int).toNat = 0 := rfl
  by_cases h1 : 1 < a.length ∧ a.getD 0 0 = 48
  · refine ⟨-1, ?_, fun h => by omega⟩
    have e : ((a.getD (0 : Int).toNat 0).toNat : Int) = 48 := by rw [hz, h1.2]; rfl
    rw [if_neg (by simpa using h0), if_neg (by simp; omega), if_pos (by simp; omega), if_pos ⟨by omega, by omega⟩, decide_eq_true e]
    rfl
  have hlead : (if decide ((a.length : Int) = 0) = true then some true else if decide (9 < (a.length : Int)) = true then some true else if decide (1 < (a.length : Int)) = true then (if (0 : Int) ≤ 0 ∧ (0 : Int) < (a.length : Int) then some (decide (((a.getD (0 : Int).toNat 0).toNat : Int) = 48)) else none) else some false) = some false := by
    rw [if_neg (by simpa using h0), if_neg (by simp; omega)]
    by_cases h2 : 1 < a.length
    · have e : ¬ ((a.getD (0 : Int).toNat 0).toNat : Int) = 48 := fun h => h1 ⟨h2, UInt8.toNat_inj.1 (by rw [hz] at h; show (a.getD 0 0).toNat = 48; omega)⟩
      rw [if_pos (by simp; omega), if_pos ⟨by omega, by omega⟩, decide_eq_false e]
    · rw [if_neg (by simp; omega)]
  have loop := loopI (f := fun k' i (s : Int) => spec_l01Number_l0 (bs a) k' s i) (a.length : Int) 0
    (fun i s => i ≤ a.length ∧ 0 ≤ s ∧ s < ((10 ^ i.toNat : Nat) : Int) ∧ (1 ≤ i → 1 < a.length → 1 ≤ s) ∧ (2 ≤ i → 10 ≤ s) ∧ (3 ≤ i → 100 ≤ s) ∧ (i = 1 → s = ((a.getD 0 0).toNat : Int) - 48 ∧ 48 ≤ ((a.getD 0 0).toNat : Int)) ∧
      (i = 2 → s = 10 * (((a.getD 0 0).toNat : Int) - 48) + (((a.getD 1 0).toNat : Int) - 48) ∧ 48 ≤ ((a.getD 0 0).toNat : Int) ∧ 48 ≤ ((a.getD 1 0).toNat : Int) ∧ ((a.getD 1 0).toNat : Int) ≤ 57))
    (fun q => q = .inr (-1) ∨ ∃ v, q = .inl v ∧ (1 ≤ v → v ≤ 17 → a = dec2 v.toNat)) ?_ ?_ k 0 0 (by omega) (by omega) ⟨by omega, by omega, by simp, fun h => by omega, fun h => by omega, fun h => by omega, fun h => by omega, fun h => by omega⟩
  · obtain ⟨q, e, hq⟩ := loop
    have e' : spec_l01Number_l0 (bs a) k 0 0 = some q := e
    rcases hq with rfl | ⟨v, rfl, hv⟩
    · refine ⟨-1, ?_, fun h => by omega⟩
      rw [hlead]
      simp [e']
    · refine ⟨v, ?_, hv⟩
      rw [hlead]
      simp [e']
  · rintro k' i s i0 i1 ⟨_, s0, s1, s2, s3, s5, s4, s6⟩
    obtain ⟨m, rfl⟩ := nat_of i0
    rw [Int.toNat_natCast] at s1
    have hm : m < a.length := by omega
    have hsplit : spec_l01Number_l0 (bs a) (k' + 1) s (m : Int) = if ((a.getD m 0).toNat : Int) < 48 ∨ 57 < ((a.getD m 0).toNat : Int) then some (.inr (-1)) else spec_l01Number_l0 (bs a) k' (w64 (w64 (s * 10) + w64 (IntKind.u8.wrap (((a.getD m 0).toNat : Int) - 48)))) ((m : Int) + 1) := by
      rw [spec_l01Number_l0, hsz, if_pos (decide_eq_true i1), if_pos ⟨i0, i1⟩, bs_list, Int.toNat_natCast, w64_succ i0 i1 (by omega)]
      by_cases c1 : ((a.getD m 0).toNat : Int) < 48
      · have hor : ((a.getD m 0).toNat : Int) < 48 ∨ 57 < ((a.getD m 0).toNat : Int) := .inl c1
        rw [if_pos (decide_eq_true c1), if_pos hor]; rfl
      · rw [if_neg (by simpa using c1)]
        by_cases c2 : 57 < ((a.getD m 0).toNat : Int)
        · have hor : ((a.getD m 0).toNat : Int) < 48 ∨ 57 < ((a.getD m 0).toNat : Int) := .inr c2
          rw [decide_eq_true c2, if_pos hor, if_pos ⟨i0, i1⟩]; rfl
        · have hor : ¬ (((a.getD m 0).toNat : Int) < 48 ∨ 57 < ((a.getD m 0).toNat : Int)) := by omega
          rw [decide_eq_false c2, if_neg hor, if_pos ⟨i0, i1⟩]; simp [i0, i1]
    by_cases hc : ((a.getD m 0).toNat : Int) < 48 ∨ 57 < ((a.getD m 0).toNat : Int)
    · right
      exact ⟨.inr (-1), by show spec_l01Number_l0 (bs a) (k' + 1) s (m : Int) = _; rw [hsplit, if_pos hc], .inl rfl⟩
    · left
      have hp : (10 ^ (m + 1) : Nat) = 10 * 10 ^ m := by rw [Nat.pow_succ]; omega
      have hb : (10 ^ m : Nat) ≤ 10 ^ 8 := Nat.pow_le_pow_right (by omega) (by omega)
      have hb2 : (10 ^ 8 : Nat) = 100000000 := by decide
      have hw : w64 (w64 (s * 10) + w64 (IntKind.u8.wrap (((a.getD m 0).toNat : Int) - 48))) = s * 10 + (((a.getD m 0).toNat : Int) - 48) := by
        rw [IntKind.wrap_u8, w64_id (n := s * 10) (by omega), w64_id (n := (((a.getD m 0).toNat : Int) - 48) % 256) (by omega), w64_id (by omega)]
        omega
      refine ⟨s * 10 + (((a.getD m 0).toNat : Int) - 48), by show spec_l01Number_l0 (bs a) (k' + 1) s (m : Int) = _; rw [hsplit, if_neg hc, hw], by omega, by omega, ?_, ?_, ?_, ?_, ?_, ?_⟩
      · rw [show ((m : Int) + 1).toNat = m + 1 by omega, hp]; omega
      · intro _ hl
        by_cases hm0 : m = 0
        · subst hm0
          have : ¬ ((a.getD 0 0).toNat : Int) = 48 := fun h => h1 ⟨hl, UInt8.toNat_inj.1 (by show (a.getD 0 0).toNat = 48; omega)⟩
          omega
        · have := s2 (by omega) hl; omega
      · intro h2
        have := s2 (by omega) (by omega); omega
      · intro h2
        have := s3 (by omega); omega
      · intro h1'
        obtain rfl : m = 0 := by omega
        have : s = 0 := by have : (10 ^ 0 : Nat) = 1 := rfl; omega
        omega
      · intro h2'
        obtain rfl : m = 1 := by omega
        obtain ⟨e1, e2⟩ := s4 rfl
        omega
  · rintro k' i s i0 i1 ⟨_, s0, s1, s2, s3, s5, s4, s6⟩
    obtain rfl : i = a.length := by omega
    refine ⟨.inl s, ?_, .inr ⟨s, rfl, fun hv1 hv2 => ?_⟩⟩
    · show spec_l01Number_l0 (bs a) (k' + 1) s (a.length : Int) = _
      rw [spec_l01Number_l0, hsz]; simp
    · by_cases h3 : 3 ≤ a.length
      · have := s5 (by omega); omega
      · by_cases h2 : a.length = 2
        · obtain ⟨e1, e2, e3, e4⟩ := s6 (by omega)
          have hs := s3 (by omega)
          match a, h2 with
          | [b, c], _ =>
            simp at e1 e2 e3 e4
            have hb : b = 49 := UInt8.toNat_inj.1 (by show b.toNat = 49; omega)
            have hc : c = UInt8.ofNat (48 + (s.toNat - 10)) := UInt8.toNat_inj.1 (by rw [UInt8.toNat_ofNat']; omega)
            unfold dec2
            rw [if_neg (by omega), hb, ← hc]
        · have hl1 : a.length = 1 := by omega
          obtain ⟨e1, e2⟩ := s4 (by omega)
          have hs10 : s < 10 := by
            have : (10 ^ (a.length : Int).toNat : Nat) = 10 := by rw [Int.toNat_natCast, hl1]
            omega
          match a, hl1 with
          | [c], _ =>
            simp at e1 e2
            have hc : c = UInt8.ofNat (48 + s.toNat) := UInt8.toNat_inj.1 (by rw [UInt8.toNat_ofNat']; omega)
            unfold dec2
            rw [if_pos (by omega), ← hc]

/-! ### The text of a colouring -/
def TX (x : Col) : List UInt8 := dec2 x.p.toNat ++ 44 :: (dec2 x.k.toNat ++ 58 :: jT x (x.p - 1).toNat)
theorem bs_cat (a b : List UInt8) : bs a ++ bs b = bs (a ++ b) := by
  have := bs_app (bs []) a b
  have e : ∀ l, bs [] ++ bs l = bs l := fun l => by
    apply ByteArray.ext
    simp [bs]
  rw [e, e] at this
  exact this
theorem txt_val (x : Col) (hx : x.is) (k : Nat) (hk : 40 ≤ k) : spec_l01Text k x = some (bs (TX x)) ∧ impl_Colouring_text k x = some (bs (TX x)) := by
  have hp := hx.1
  have hq := hx.2.1
  unfold spec_l01Text impl_Colouring_text
  have ep : ((x.p.toNat : Nat) : Int) = x.p := by omega
  have eq : ((x.k.toNat : Nat) : Int) = x.k := by omega
  obtain ⟨a2, a3⟩ := dec2_both x.p.toNat (by omega) k (by omega)
  obtain ⟨b2, b3⟩ := dec2_both x.k.toNat (by omega) k (by omega)
  rw [ep] at a2 a3
  rw [eq] at b2 b3
  have a1 := (dec2_digit x.p.toNat (by omega)).2
  have b1 := (dec2_digit x.k.toNat (by omega)).2
  have e44 : (⟨#[44]⟩ : ByteArray) = bs [44] := rfl
  have e58 : (⟨#[58]⟩ : ByteArray) = bs [58] := rfl
  have hl := jT_len x (x.p - 1).toNat (by omega)
  have hj : joinL ((rowsT x (x.p - 1).toNat).map bs) (bs [44]) = jT x (x.p - 1).toNat := by
    unfold joinL jT
    rw [List.map_map, bs_list]
    congr 1
    refine (List.map_congr_left fun l _ => ?_).trans (List.map_id _)
    exact bs_list l
  have hjs : joinS ((rowsT x (x.p - 1).toNat).map bs) (bs [44]) = some (bs (jT x (x.p - 1).toNat)) := by
    unfold joinS
    rw [hj, if_pos ⟨by simp [rowsT]; omega, by omega⟩]; rfl
  have hfin : bs (((dec2 x.p.toNat ++ [44]) ++ dec2 x.k.toNat) ++ [58]) ++ bs (jT x (x.p - 1).toNat) = bs (TX x) := by
    rw [bs_cat]
    unfold TX
    simp
  constructor
  · rw [a2, Option.bind_some, e44, e58, if_pos (by rw [bs_size, bs_size]; simp; omega), b2, Option.bind_some, bs_cat, bs_cat, bs_cat, if_pos (by rw [bs_size, bs_size]; simp; omega), if_pos (by rw [bs_size, bs_size]; simp; omega), specText x hx _ (by rw [bs_size]; simp; omega) k hk, Option.bind_some, hfin]
  · rw [implRows x hx k hk, Option.bind_some, a3, Option.bind_some, e44, e58, if_pos (by rw [bs_size, bs_size]; simp; omega), b3, Option.bind_some, bs_cat, bs_cat, bs_cat, if_pos (by rw [bs_size, bs_size]; simp; omega), if_pos (by rw [bs_size, bs_size]; simp; omega), hjs, Option.bind_some, if_pos (by rw [bs_size, bs_size]; simp only [List.length_append, List.length_cons, List.length_nil]; omega), hfin]
theorem dg_nat {c : Int} (h : 0 ≤ c ∧ c < 4) : ((dg c).toNat : Int) = 48 + c := by
  unfold dg
  exact tb_id (by omega)
theorem dg_of (b : UInt8) (h : 48 ≤ b.toNat) : dg ((b.toNat : Int) - 48) = b := by
  unfold dg
  rw [show (48 : Int) + ((b.toNat : Int) - 48) = (b.toNat : Int) by omega]
  exact tb b
theorem rowT_len (x : Col) (j : Nat) : (rowT x j).length = j := by simp [rowT]
theorem rowT_get (x : Col) {i j : Nat} (h : i < j) : (rowT x j).getD i 0 = dg (x.cc i j) := by simp [rowT, List.getD, h]
theorem rowT_no {x : Col} (hx : x.is) {j : Nat} (hj : (j : Int) < x.p) : ∀ b ∈ rowT x j, b ≠ 44 ∧ b ≠ 58 := fun b hb => by
  unfold rowT at hb
  obtain ⟨i, hi, rfl⟩ := List.mem_map.1 hb
  have hi := List.mem_range.1 hi
  have := dg_nat (cc_lt x hx i j (by omega) (by omega) hj)
  have hc := cc_lt x hx i j (by omega) (by omega) hj
  constructor
  · intro e; rw [e] at this; simp at this; omega
  · intro e; rw [e] at this; simp at this; omega
theorem rowsT_len (x : Col) (m : Nat) : (rowsT x m).length = m := by simp [rowsT]
theorem rowsT_get (x : Col) {t m : Nat} (h : t < m) : (rowsT x m).getD t [] = rowT x (t + 1) := by simp [rowsT, List.getD, h]
theorem rowsT_no {x : Col} (hx : x.is) : ∀ r ∈ rowsT x (x.p - 1).toNat, ∀ b ∈ r, b ≠ 44 ∧ b ≠ 58 := fun r hr => by
  unfold rowsT at hr
  obtain ⟨t, ht, rfl⟩ := List.mem_map.1 hr
  have ht := List.mem_range.1 ht
  exact rowT_no hx (by omega)
theorem jT_no {x : Col} (hx : x.is) : 58 ∉ jT x (x.p - 1).toNat := by
  have hr := rowsT_no hx
  unfold jT
  intro hm
  have key : ∀ L : List (List UInt8), (∀ r ∈ L, ∀ b ∈ r, b ≠ 44 ∧ b ≠ 58) → (58 : UInt8) ∉ Lib.join L [44] := fun L hL hm => by
    cases L with
    | nil => rw [Lib.join_nil] at hm; simp at hm
    | cons y r =>
      rw [Lib.join_cons, List.mem_append] at hm
      rcases hm with h | h
      · exact (hL y (by simp) _ h).2 rfl
      · unfold Lib.joinTail at h
        obtain ⟨z, hz, hb⟩ := List.mem_flatten.1 h
        obtain ⟨w, hw, rfl⟩ := List.mem_map.1 hz
        rcases List.mem_append.1 hb with q | q
        · simp at q
        · exact (hL w (by simp [hw]) _ q).2 rfl
  exact key _ hr hm
theorem dec2_no (m : Nat) (hm : m < 18) : (44 : UInt8) ∉ dec2 m ∧ (58 : UInt8) ∉ dec2 m := by
  have h := (dec2_digit m hm).1
  constructor
  · intro hb; have := (h _ hb).1; simp at this
  · intro hb; have := (h _ hb).2; simp at this

/-! ### Rows that are read -/
def okB (kk : Int) (b : UInt8) : Prop := 48 ≤ b.toNat ∧ (b.toNat : Int) - 48 < kk
def rowR (R : List (List UInt8)) (j : Nat) : List UInt8 := R.getD (j - 1) []
def gR (R : List (List UInt8)) (i j : Nat) : Int := (((rowR R j).getD i 0).toNat : Int) - 48
def okRow (R : List (List UInt8)) (kk : Int) (j : Nat) : Prop := (rowR R j).length = j ∧ ∀ i : Nat, i < j → okB kk ((rowR R j).getD i 0)
def zC : Col := ⟨0, 0, B136.zero⟩
theorem rowR_bs {R : List (List UInt8)} {n j : Nat} (hR : R.length = n - 1) (h1 : 1 ≤ j) (hj : j < n) (hn : n ≤ 17) : (R.map bs).getD (w64 ((j : Int) - 1)).toNat ByteArray.empty = bs (rowR R j) := by
  rw [w64_id (by omega), show ((j : Int) - 1).toNat = j - 1 by omega]
  have hlt : j - 1 < R.length := by omega
  unfold rowR
  simp [List.getD, hlt]
theorem readRow (R : List (List UInt8)) {n j : Nat} (hn : n ≤ 17) (kk : Int) (h1 : 1 ≤ j) (hj : j < n) (hR : R.length = n - 1) (hlen : (rowR R j).length = j) (K k : Nat) (hk : 40 ≤ k) (z s : Col) (sp : s.p = n) (sk : s.k = kk) (hs : MInv n (fun a b => toByte (gR R a b)) j 0 s.e) :
    ∃ r, spec_l01Read_l1 K (R.map bs) j k 0 z s = some r ∧ (((∀ i : Nat, i < j → okB kk ((rowR R j).getD i 0)) ∧ ∃ y : Col, r = .inl (z, y) ∧ y.p = n ∧ y.k = kk ∧ MInv n (fun a b => toByte (gR R a b)) j j y.e) ∨ ((¬ ∀ i : Nat, i < j → okB kk ((rowR R j).getD i 0)) ∧ r = .inr (.inr (zC, false)))) := by
  have hrow := rowR_bs hR h1 hj hn
  obtain ⟨row, hrw⟩ : ∃ row, row = rowR R j := ⟨_, rfl⟩
  rw [← hrw] at hrow hlen ⊢
  refine loopI (f := fun k' i (s : Col) => spec_l01Read_l1 K (R.map bs) j k' i z s) (j : Int) 0 (fun i s => i ≤ j ∧ s.p = n ∧ s.k = kk ∧ MInv n (fun a b => toByte (gR R a b)) j i.toNat s.e ∧ ∀ t : Nat, (t : Int) < i → okB kk (row.getD t 0))
    (fun r => ((∀ i : Nat, i < j → okB kk (row.getD i 0)) ∧ ∃ y : Col, r = .inl (z, y) ∧ y.p = n ∧ y.k = kk ∧ MInv n (fun a b => toByte (gR R a b)) j j y.e) ∨ ((¬ ∀ i : Nat, i < j → okB kk (row.getD i 0)) ∧ r = .inr (.inr (zC, false)))) ?_ ?_ k 0 s (by omega) (by omega) ⟨by omega, sp, sk, hs, fun t ht => by omega⟩
  · rintro k' i s h0 hi ⟨_, q1, q2, q3, q4⟩
    obtain ⟨m, rfl⟩ := nat_of h0
    rw [Int.toNat_natCast] at q3
    have hm : m < j := by omega
    obtain ⟨b, hb⟩ : ∃ b, b = row.getD m 0 := ⟨_, rfl⟩
    have hlt := b.toNat_lt
    have he := edge_eq (m : Int) (j : Int) (by omega) (by omega)
    rw [Int.toNat_natCast, Int.toNat_natCast] at he
    have h136 := eN_136 (i := m) (j := j) (by omega) (by omega) (by omega)
    have hu : 48 ≤ b.toNat → w64 (IntKind.u8.wrap ((b.toNat : Int) - 48)) = (b.toNat : Int) - 48 := fun h => by
      rw [IntKind.wrap_u8, w64_id (by omega)]; omega
    have hstep : spec_l01Read_l1 K (R.map bs) j (k' + 1) m z s = if 48 ≤ b.toNat ∧ (b.toNat : Int) - 48 < kk then spec_l01Read_l1 K (R.map bs) j k' ((m : Int) + 1) z (s.set (eN m j) (toByte ((b.toNat : Int) - 48))) else some (.inr (.inr (zC, false))) := by
      have hrg : (0 : Int) ≤ (m : Int) ∧ (m : Int) < (row.length : Int) := ⟨h0, by omega⟩
      have hed : (0 : Int) ≤ ((eN m j : Nat) : Int) ∧ ((eN m j : Nat) : Int) < 136 := ⟨by omega, by omega⟩
      rw [spec_l01Read_l1, if_pos (decide_eq_true hi), hrow, bs_size, bs_list, Int.toNat_natCast, ← hb, he, Int.toNat_natCast, w64_succ h0 hi (by omega), q2]
      simp only [if_pos hrg, if_pos hed]
      by_cases c1 : (b.toNat : Int) < 48
      · rw [decide_eq_true c1, if_pos rfl, if_neg (fun h => by omega)]; rfl
      · rw [decide_eq_false c1, if_neg (by simp), hu (by omega)]
        by_cases c2 : kk ≤ (b.toNat : Int) - 48
        · rw [decide_eq_true c2, if_neg (fun h => by omega)]; rfl
        · rw [decide_eq_false c2, if_pos (by omega)]; rfl
    by_cases hok : 48 ≤ b.toNat ∧ (b.toNat : Int) - 48 < kk
    · left
      refine ⟨s.set (eN m j) (toByte ((b.toNat : Int) - 48)), ?_, by omega, q1, q2, ?_, fun t ht => ?_⟩
      · show spec_l01Read_l1 K (R.map bs) j (k' + 1) m z s = _
        rw [hstep, if_pos hok]
      · have := MInv.step hn q3 hj hm
        rw [show ((m : Int) + 1).toNat = m + 1 by omega]
        have hg : gR R m j = (b.toNat : Int) - 48 := by unfold gR; rw [← hrw, ← hb]
        rw [← hg]
        exact this
      · rcases Nat.lt_or_ge t m with w | w
        · exact q4 t (by omega)
        · rw [show t = m by omega, ← hb]; exact hok
    · right
      refine ⟨.inr (.inr (zC, false)), ?_, .inr ⟨fun h => hok (by have := h m hm; rw [← hb] at this; exact this), rfl⟩⟩
      show spec_l01Read_l1 K (R.map bs) j (k' + 1) m z s = _
      rw [hstep, if_neg hok]
  · rintro k' i s h0 hi ⟨_, q1, q2, q3, q4⟩
    refine ⟨.inl (z, s), ?_, .inl ⟨fun t ht => q4 t (by omega), s, rfl, q1, q2, by rw [show i.toNat = j by omega] at q3; exact q3⟩⟩
    show spec_l01Read_l1 K (R.map bs) j (k' + 1) i z s = _
    rw [spec_l01Read_l1, if_neg (by simp only [decide_eq_true_eq]; omega)]
theorem readRows (R : List (List UInt8)) {n : Nat} (h2 : 2 ≤ n) (hn : n ≤ 17) (kk : Int) (hR : R.length = n - 1) (K : Nat) (hK : 60 ≤ K) :
    ∃ r, spec_l01Read_l0 K (R.map bs) K 1 Col.zero ⟨n, kk, B136.zero⟩ = some r ∧ (((∀ j : Nat, 1 ≤ j → j < n → okRow R kk j) ∧ ∃ z, r = .inl (z, mkC n kk (gR R))) ∨ ((¬ ∀ j : Nat, 1 ≤ j → j < n → okRow R kk j) ∧ r = .inr (zC, false))) := by
  have hst : MInv n (fun a b => toByte (gR R a b)) 1 0 B136.zero := (MInv.start n _).row
  refine loopI (f := fun k' i (s : Col × Col) => spec_l01Read_l0 K (R.map bs) k' i s.1 s.2) (n : Int) 1 (fun i s => 1 ≤ i ∧ i ≤ n ∧ s.2.p = n ∧ s.2.k = kk ∧ MInv n (fun a b => toByte (gR R a b)) i.toNat 0 s.2.e ∧ ∀ t : Nat, 1 ≤ t → (t : Int) < i → okRow R kk t)
    (fun r => ((∀ j : Nat, 1 ≤ j → j < n → okRow R kk j) ∧ ∃ z, r = .inl (z, mkC n kk (gR R))) ∨ ((¬ ∀ j : Nat, 1 ≤ j → j < n → okRow R kk j) ∧ r = .inr (zC, false))) ?_ ?_ K 1 (Col.zero, ⟨n, kk, B136.zero⟩) (by omega) (by omega) ⟨by omega, by omega, rfl, rfl, hst, fun t _ ht => by omega⟩
  · rintro k' i ⟨z, s⟩ h0 hi ⟨_, _, q1, q2, q3, q4⟩
    dsimp only at q1 q2 q3
    obtain ⟨j, rfl⟩ := nat_of (show 0 ≤ i by omega)
    rw [Int.toNat_natCast] at q3
    have hrow := rowR_bs hR (show 1 ≤ j by omega) (show j < n by omega) hn
    have hw : w64 ((j : Int) - 1) = ((j - 1 : Nat) : Int) := by rw [w64_id (by omega)]; omega
    have hml : (R.map bs).length = n - 1 := by rw [List.length_map, hR]
    by_cases hlen : (rowR R j).length = j
    · have hpre : spec_l01Read_l0 K (R.map bs) (k' + 1) j z s = (spec_l01Read_l1 K (R.map bs) j K 0 z s).bind fun os41 => (match os41 with | .inl s41 => spec_l01Read_l0 K (R.map bs) k' ((j : Int) + 1) s41.1 s41.2 | .inr rr => some rr) := by
        rw [spec_l01Read_l0, if_pos (decide_eq_true (by omega)), if_pos ⟨by rw [hw]; omega, by rw [hw, hml]; omega⟩, hrow, bs_size, if_neg (by simp [hlen]), w64_succ (by omega) hi (by omega)]
        rfl
      obtain ⟨r, e, hr⟩ := readRow R hn kk (by omega) (by omega) hR hlen K K (by omega) z s q1 q2 q3
      rcases hr with ⟨ok, y, rfl, y1, y2, y3⟩ | ⟨nok, rfl⟩
      · left
        refine ⟨(z, y), ?_, by omega, by omega, y1, y2, ?_, fun t ht1 ht2 => ?_⟩
        · show spec_l01Read_l0 K (R.map bs) (k' + 1) j z s = _
          rw [hpre, e]; rfl
        · rw [show ((j : Int) + 1).toNat = j + 1 by omega]
          exact y3.row
        · rcases Nat.lt_or_ge t j with w | w
          · exact q4 t ht1 (by omega)
          · rw [show t = j by omega]; exact ⟨hlen, ok⟩
      · right
        refine ⟨.inr (zC, false), ?_, .inr ⟨fun h => nok (h j (by omega) (by omega)).2, rfl⟩⟩
        show spec_l01Read_l0 K (R.map bs) (k' + 1) j z s = _
        rw [hpre, e]; rfl
    · right
      refine ⟨.inr (zC, false), ?_, .inr ⟨fun h => hlen (h j (by omega) (by omega)).1, rfl⟩⟩
      show spec_l01Read_l0 K (R.map bs) (k' + 1) j z s = _
      rw [spec_l01Read_l0, if_pos (decide_eq_true (by omega)), if_pos ⟨by rw [hw]; omega, by rw [hw, hml]; omega⟩, hrow, bs_size, if_pos (by simp; omega)]
      rfl
  · rintro k' i ⟨z, s⟩ h0 hi ⟨_, _, q1, q2, q3, q4⟩
    dsimp only at q1 q2 q3
    have hi' : i = n := by omega
    refine ⟨.inl (z, s), ?_, .inl ⟨fun t h1 ht => q4 t h1 (by omega), z, ?_⟩⟩
    · show spec_l01Read_l0 K (R.map bs) (k' + 1) i z s = _
      rw [spec_l01Read_l0, if_neg (by simp only [decide_eq_true_eq]; omega)]
    · rw [hi', Int.toNat_natCast] at q3
      have : s = mkC n kk (gR R) := Made.to hn (MInv.made q3 q1 q2) fun _ _ _ _ => rfl
      rw [this]

/-! ### The reference -/
theorem rows_of {R : List (List UInt8)} {n : Nat} {kk : Int} (h1 : 1 ≤ n) (hn : n ≤ 17) (hk : 1 ≤ kk ∧ kk ≤ 4) (hR : R.length = n - 1) (hok : ∀ j : Nat, 1 ≤ j → j < n → okRow R kk j) : (mkC n kk (gR R)).is ∧ rowsT (mkC n kk (gR R)) (n - 1) = R := by
  have hg : ∀ a b : Nat, a < b → b < n → 0 ≤ gR R a b ∧ gR R a b < kk := fun a b hab hb => by
    have := (hok b (by omega) hb).2 a hab
    unfold okB at this
    unfold gR
    omega
  refine ⟨mkC_is h1 hn hk _ hg, ?_⟩
  refine List.ext_getElem (by rw [rowsT_len, hR]) fun t t1 t2 => ?_
  rw [rowsT_len] at t1
  have e1 : (rowsT (mkC n kk (gR R)) (n - 1))[t] = rowT (mkC n kk (gR R)) (t + 1) := by
    have := rowsT_get (mkC n kk (gR R)) (t := t) (m := n - 1) t1
    simpa [List.getD, rowsT_len, t1] using this
  have e2 : R[t] = rowR R (t + 1) := by unfold rowR; simp [List.getD, t2]
  rw [e1, e2]
  obtain ⟨o1, o2⟩ := hok (t + 1) (by omega) (by omega)
  refine List.ext_getElem (by rw [rowT_len, o1]) fun i i1 i2 => ?_
  rw [rowT_len] at i1
  have e3 : (rowT (mkC n kk (gR R)) (t + 1))[i] = dg ((mkC n kk (gR R)).cc i (t + 1 : Nat)) := by
    have := rowT_get (mkC n kk (gR R)) (i := i) (j := t + 1) i1
    simpa [List.getD, rowT_len, i1] using this
  have e4 : (rowR R (t + 1))[i] = (rowR R (t + 1)).getD i 0 := by simp [List.getD, i2]
  have hgi := hg i (t + 1) i1 (by omega)
  rw [e3, e4, mkC_cc hn kk _ i1 (by omega) (by omega)]
  unfold gR
  exact dg_of _ (o2 i i1).1
theorem rowsT_ok {x : Col} (hx : x.is) : ∀ j : Nat, 1 ≤ j → j < x.p.toNat → okRow (rowsT x (x.p - 1).toNat) x.k j := fun j h1 hj => by
  have hr : rowR (rowsT x (x.p - 1).toNat) j = rowT x j := by
    unfold rowR
    rw [rowsT_get x (by omega), show j - 1 + 1 = j by omega]
  unfold okRow
  rw [hr]
  refine ⟨rowT_len x j, fun i hi => ?_⟩
  rw [rowT_get x hi]
  have h4 := cc_lt x hx i j (by omega) (by omega) (by omega)
  have hc := is_cc hx (a := i) (b := j) (by omega) (by omega) (by omega)
  have := dg_nat h4
  unfold okB
  omega
theorem rowsT_g {x : Col} (hx : x.is) : mkC x.p.toNat x.k (gR (rowsT x (x.p - 1).toNat)) = x := by
  have hp := hx.1
  conv => rhs; rw [is_mk hx]
  refine mkC_congr (by omega) _ fun a b hab hb => ?_
  have hr : rowR (rowsT x (x.p - 1).toNat) b = rowT x b := by
    unfold rowR
    rw [rowsT_get x (by omega), show b - 1 + 1 = b by omega]
  unfold gR
  rw [hr, rowT_get x hab, dg_nat (cc_lt x hx a b (by omega) (by omega) (by omega))]
  omega
theorem rowsT_parts {x : Col} (hx : x.is) (h2 : 2 ≤ x.p) : parts 44 (jT x (x.p - 1).toNat) = rowsT x (x.p - 1).toNat := by
  unfold jT
  refine parts_of_join 44 _ (fun e => ?_) fun r hr h44 => (rowsT_no hx r hr 44 h44).1 rfl
  have := congrArg List.length e
  rw [rowsT_len] at this
  simp at this
  omega
theorem head_len (m n : Nat) (hm : m < 18) (hn : n < 18) (j : List UInt8) : (dec2 m ++ 44 :: (dec2 n ++ 58 :: j)).length ≤ j.length + 6 := by
  have h1 := (dec2_digit m hm).2
  have h2 := (dec2_digit n hn).2
  simp only [List.length_append, List.length_cons]
  omega
theorem TX_split {x : Col} (hx : x.is) : TX x = (dec2 x.p.toNat ++ 44 :: dec2 x.k.toNat) ++ 58 :: jT x (x.p - 1).toNat ∧ 58 ∉ dec2 x.p.toNat ++ 44 :: dec2 x.k.toNat ∧ (TX x).length ≤ 600 := by
  have hp := hx.1
  have hq := hx.2.1
  have h1 := dec2_no x.p.toNat (by omega)
  have h2 := dec2_no x.k.toNat (by omega)
  have hl := jT_len x (x.p - 1).toNat (by omega)
  refine ⟨by unfold TX; simp, ?_, ?_⟩
  · rw [List.mem_append, List.mem_cons]
    rintro (h | h | h)
    · exact h1.2 h
    · simp at h
    · exact h2.2 h
  · have := head_len x.p.toNat x.k.toNat (by omega) (by omega) (jT x (x.p - 1).toNat)
    unfold TX
    omega
theorem get01 {α : Type} [Inhabited α] (a b d : α) : [a, b].getD (0 : Int).toNat d = a ∧ [a, b].getD (1 : Int).toNat d = b := ⟨rfl, rfl⟩
theorem empty_bs (r : List UInt8) : (bs r == (⟨#[]⟩ : ByteArray)) = decide (r = []) := by
  cases r with
  | nil => rfl
  | cons a t =>
    rw [decide_eq_false (by simp)]
    rcases hb : (bs (a :: t) == (⟨#[]⟩ : ByteArray)) with _ | _
    · rfl
    · have := congrArg ByteArray.size (ByteArray.ext (eq_of_beq (show ((bs (a :: t)).data == (⟨#[]⟩ : ByteArray).data) = true from hb)))
      rw [bs_size] at this
      simp at this
      exact absurd this (by show ¬ (t.length + 1 = 0); omega)

theorem read_two {T a r a1 a2 : List UInt8} (h1 : parts 58 T = [a, r]) (h2 : parts 44 a = [a1, a2]) (hT : T.length ≤ 8589934592) (k : Nat) (hk : T.length + 300 ≤ k) {v w : Int} (hv : spec_l01Number k (bs a1) = some v) (hw : spec_l01Number k (bs a2) = some w) :
    spec_l01Read k (bs T) = if (1 ≤ v ∧ v ≤ 17) ∧ 1 ≤ w ∧ w ≤ 4 then (if v = 1 then some (⟨v, w, B136.zero⟩, decide (r = [])) else if ((parts 44 r).length : Int) = v - 1 then (spec_l01Read_l0 k ((parts 44 r).map bs) k 1 Col.zero ⟨v, w, B136.zero⟩).bind fun os42 => (match os42 with | .inl s42 => some (s42.2, true) | .inr rr => some rr) else some (zC, false)) else some (zC, false) := by
  obtain ⟨eT, _, _⟩ := parts_two 58 h1
  have la : a.length + 1 + r.length = T.length := by rw [eT]; simp; omega
  unfold spec_l01Read
  rw [split_val 58 T k (by omega) hT, h1, Option.bind_some]
  simp only [List.map_cons, List.map_nil, List.length_cons, List.length_nil]
  rw [if_neg (by simp), if_pos (by omega), (get01 (bs a) (bs r) ByteArray.empty).1, split_val 44 a k (by omega) (by omega), h2, Option.bind_some]
  simp only [List.map_cons, List.map_nil, List.length_cons, List.length_nil]
  rw [if_neg (by simp), if_pos (by omega), (get01 (bs a1) (bs a2) ByteArray.empty).1, hv, Option.bind_some, if_pos (by omega), (get01 (bs a1) (bs a2) ByteArray.empty).2, hw, Option.bind_some]
  unfold letO
  rw [specIn_eq, specIn_eq]
  by_cases c1 : 1 ≤ v ∧ v ≤ 17
  · by_cases c2 : 1 ≤ w ∧ w ≤ 4
    · rw [if_pos (show (1 ≤ v ∧ v ≤ 17) ∧ 1 ≤ w ∧ w ≤ 4 from ⟨c1, c2⟩), decide_eq_true c1, decide_eq_true c2]
      simp only [Bool.not_true, Bool.false_eq_true, if_false, Option.bind_some]
      rw [if_pos (by omega), (get01 (bs a) (bs r) ByteArray.empty).2, split_val 44 r k (by omega) (by omega), Option.bind_some, List.length_map, w64_id (by omega)]
      by_cases c3 : v = 1
      · rw [if_pos (decide_eq_true c3), if_pos (by omega), if_pos c3, empty_bs]
      · rw [if_neg (by simpa using c3), if_neg c3]
        by_cases c4 : ((parts 44 r).length : Int) = v - 1
        · rw [decide_eq_true c4, if_pos c4]; rfl
        · rw [decide_eq_false c4, if_neg c4]; rfl
    · rw [if_neg (fun h : (1 ≤ v ∧ v ≤ 17) ∧ 1 ≤ w ∧ w ≤ 4 => c2 h.2), decide_eq_true c1, decide_eq_false c2]; rfl
  · rw [if_neg (fun h : (1 ≤ v ∧ v ≤ 17) ∧ 1 ≤ w ∧ w ≤ 4 => c1 h.1), decide_eq_false c1]; rfl

/-- The text of a colouring is read. -/
theorem specA {x : Col} (hx : x.is) (k : Nat) (hk : 1000 ≤ k) : spec_l01Read k (bs (TX x)) = some (x, true) := by
  have hp := hx.1
  have hq := hx.2.1
  obtain ⟨e1, e2, e3⟩ := TX_split hx
  have d1 := dec2_no x.p.toNat (by omega)
  have d2 := dec2_no x.k.toNat (by omega)
  have h1 : parts 58 (TX x) = [dec2 x.p.toNat ++ 44 :: dec2 x.k.toNat, jT x (x.p - 1).toNat] := by rw [e1]; exact parts_pair 58 e2 (jT_no hx)
  have h2 : parts 44 (dec2 x.p.toNat ++ 44 :: dec2 x.k.toNat) = [dec2 x.p.toNat, dec2 x.k.toNat] := parts_pair 44 d1.1 d2.1
  rw [read_two h1 h2 (by omega) k (by omega) (num_dec2 _ (by omega) k (by omega)) (num_dec2 _ (by omega) k (by omega)), if_pos (by omega)]
  by_cases c1 : x.p = 1
  · rw [if_pos (by omega)]
    have hj : jT x (x.p - 1).toNat = [] := by rw [c1]; rfl
    rw [hj, decide_eq_true rfl]
    have hz : x = ⟨((x.p.toNat : Nat) : Int), ((x.k.toNat : Nat) : Int), B136.zero⟩ := by
      conv => lhs; rw [is_mk hx]
      have hm := mkC_made (n := x.p.toNat) (by omega) x.k (fun a b => x.cc a b)
      refine Col.ext' rfl (by show x.k = ((x.k.toNat : Nat) : Int); omega) (B136.ext_get fun e he => ?_)
      have ht : tri x.p.toNat = 0 := by rw [c1]; rfl
      rw [hm.z e (by rw [Int.toNat_natCast, ht]; omega) he]
      exact (B136.get_zero e).symm
    rw [← hz]
  · have hrp := rowsT_parts hx (by omega)
    rw [if_neg (by omega), hrp, rowsT_len, if_pos (by omega)]
    obtain ⟨r, e, hr⟩ := readRows (rowsT x (x.p - 1).toNat) (n := x.p.toNat) (by omega) (by omega) x.k (by rw [rowsT_len]; omega) k (by omega)
    rw [show ((x.k.toNat : Nat) : Int) = x.k by omega, e, Option.bind_some]
    rcases hr with ⟨_, z, rfl⟩ | ⟨hn, _⟩
    · dsimp only
      rw [rowsT_g hx]
    · exact absurd (rowsT_ok hx) hn
/-- What is read has that text. -/
theorem specB (T : List UInt8) (hT : T.length ≤ 8589934592) (k : Nat) (hk : T.length + 1000 ≤ k) : ∃ x b, spec_l01Read k (bs T) = some (x, b) ∧ (b = true → x.is ∧ TX x = T) := by
  by_cases c1 : (parts 58 T).length = 2
  · obtain ⟨a, r, h1⟩ := parts_len2 58 c1
    obtain ⟨eT, n1, n2⟩ := parts_two 58 h1
    have la : a.length + 1 + r.length = T.length := by rw [eT]; simp; omega
    by_cases c2 : (parts 44 a).length = 2
    · obtain ⟨a1, a2, h2⟩ := parts_len2 44 c2
      obtain ⟨ea, m1, m2⟩ := parts_two 44 h2
      have lb : a1.length + 1 + a2.length = a.length := by rw [ea]; simp; omega
      obtain ⟨v, hv, hv2⟩ := num_ex a1 (by omega) k (by omega)
      obtain ⟨w, hw, hw2⟩ := num_ex a2 (by omega) k (by omega)
      rw [read_two h1 h2 hT k (by omega) hv hw]
      by_cases c3 : (1 ≤ v ∧ v ≤ 17) ∧ 1 ≤ w ∧ w ≤ 4
      · obtain ⟨⟨v1, v2⟩, w1, w2⟩ := c3
        have f1 := hv2 v1 v2
        have f2 := hw2 w1 (by omega)
        rw [if_pos ⟨⟨v1, v2⟩, w1, w2⟩]
        have fin : ∀ x : Col, x.is → x.p = v → x.k = w → jT x (x.p - 1).toNat = r → TX x = T := fun x hx hp hk2 hj => by
          unfold TX
          rw [hj, hp, hk2, ← f1, ← f2, eT, ea]
          simp
        by_cases c4 : v = 1
        · rw [if_pos c4]
          refine ⟨_, _, rfl, fun hb => ?_⟩
          have hr := of_decide_eq_true hb
          have his : (⟨v, w, B136.zero⟩ : Col).is := by
            refine ⟨⟨v1, v2⟩, ⟨w1, w2⟩, fun j h0 h136 => ?_⟩
            obtain ⟨e, rfl⟩ := nat_of h0
            have hz0 : B136.zero.get (e : Int).toNat = 0 := B136.get_zero _
            refine ⟨fun _ => ?_, fun _ => ?_⟩
            · show ((B136.zero.get (e : Int).toNat).toNat : Int) < w
              rw [hz0]; simp; omega
            · show ((B136.zero.get (e : Int).toNat).toNat : Int) = 0
              rw [hz0]; rfl
          refine ⟨his, fin _ his rfl rfl ?_⟩
          rw [hr]
          show jT _ (v - 1).toNat = []
          rw [c4]; rfl
        · rw [if_neg c4]
          by_cases c5 : ((parts 44 r).length : Int) = v - 1
          · rw [if_pos c5]
            have hvn : ((v.toNat : Nat) : Int) = v := by omega
            obtain ⟨q, e, hq⟩ := readRows (parts 44 r) (n := v.toNat) (by omega) (by omega) w (by omega) k (by omega)
            rw [hvn] at e
            rw [e, Option.bind_some]
            rcases hq with ⟨ok, z, rfl⟩ | ⟨_, rfl⟩
            · refine ⟨_, true, rfl, fun _ => ?_⟩
              obtain ⟨his, hrows⟩ := rows_of (by omega) (by omega) ⟨w1, w2⟩ (by omega) ok
              refine ⟨his, fin _ his hvn rfl ?_⟩
              show Lib.join (rowsT _ (((v.toNat : Nat) : Int) - 1).toNat) [44] = r
              rw [show (((v.toNat : Nat) : Int) - 1).toNat = v.toNat - 1 by omega, hrows]
              exact parts_join 44 r
            · exact ⟨zC, false, rfl, fun h => by cases h⟩
          · rw [if_neg c5]
            exact ⟨zC, false, rfl, fun h => by cases h⟩
      · rw [if_neg c3]
        exact ⟨zC, false, rfl, fun h => by cases h⟩
    · refine ⟨zC, false, ?_, fun h => by cases h⟩
      unfold spec_l01Read
      rw [split_val 58 T k (by omega) hT, h1, Option.bind_some]
      simp only [List.map_cons, List.map_nil, List.length_cons, List.length_nil]
      rw [if_neg (by simp), if_pos (by omega), (get01 (bs a) (bs r) ByteArray.empty).1, split_val 44 a k (by omega) (by omega), Option.bind_some, List.length_map, if_pos (by simp; omega)]
      rfl
  · refine ⟨zC, false, ?_, fun h => by cases h⟩
    unfold spec_l01Read
    rw [split_val 58 T k (by omega) hT, Option.bind_some, List.length_map, if_pos (by simp; omega)]
    rfl

/-! ### Digits one after the other -/
theorem outC_app (c : UInt8) (A B : List UInt8) : outC c (A ++ B) = outC c A ++ outC c B := List.filter_append ..
theorem outC_join (c : UInt8) : ∀ L : List (List UInt8), (∀ y ∈ L, c ∉ y) → outC c (Lib.join L [c]) = L.flatten
  | [], _ => rfl
  | y :: r, h => by
    have key : ∀ r : List (List UInt8), (∀ y ∈ r, c ∉ y) → outC c (Lib.joinTail [c] r) = r.flatten := by
      intro r
      induction r with
      | nil => intro _; rfl
      | cons z t ih =>
        intro hz
        have e : Lib.joinTail [c] (z :: t) = [c] ++ (z ++ Lib.joinTail [c] t) := by simp [Lib.joinTail]
        have e1 : outC c [c] = [] := by simp [outC]
        rw [e, outC_app, outC_app, e1, outC_no c z (hz z (by simp)), ih fun q hq => hz q (by simp [hq])]
        simp
    rw [Lib.join_cons, outC_app, outC_no c y (h y (by simp)), key r fun q hq => h q (by simp [hq])]
    simp
theorem tri_succ {m : Nat} (h : m ≤ 16) : tri (m + 1) + (m + 1) = tri (m + 2) := by
  have : ∀ m, m ≤ 16 → tri (m + 1) + (m + 1) = tri (m + 2) := by decide +kernel
  exact this m h
def flatT (x : Col) (m : Nat) : List UInt8 := (rowsT x m).flatten
theorem flatT_succ (x : Col) (m : Nat) : flatT x (m + 1) = flatT x m ++ rowT x (m + 1) := by
  unfold flatT
  rw [rowsT_succ, List.flatten_append]
  simp
theorem flatT_len (x : Col) : ∀ m, m ≤ 16 → (flatT x m).length = tri (m + 1)
  | 0, _ => rfl
  | m + 1, h => by rw [flatT_succ, List.length_append, flatT_len x m (by omega), rowT_len, tri_succ (by omega)]
theorem flatT_get (x : Col) : ∀ m, m ≤ 16 → ∀ i j, i < j → j ≤ m → (flatT x m).getD (eN i j) 0 = dg (x.cc i j)
  | 0, _, i, j, h1, h2 => by omega
  | m + 1, hm, i, j, h1, h2 => by
    have hl := flatT_len x m (by omega)
    rw [flatT_succ]
    rcases Nat.lt_or_ge m j with w | w
    · obtain rfl : j = m + 1 := by omega
      have he : eN i (m + 1) = tri (m + 1) + i := by unfold eN tri; rw [if_neg (by omega)]
      have hr := rowT_get x h1
      rw [he]
      unfold List.getD at hr ⊢
      rw [List.getElem?_append_right (by omega), hl, Nat.add_sub_cancel_left]
      exact hr
    · have hlt := eN_lt h1 (show j < m + 1 by omega) (by omega)
      have := flatT_get x m (by omega) i j h1 w
      unfold List.getD at this ⊢
      rw [List.getElem?_append_left (by omega)]
      exact this
theorem digits {x : Col} (hx : x.is) : outC 44 (jT x (x.p - 1).toNat) = flatT x (x.p - 1).toNat :=
  outC_join 44 _ fun y hy h => (rowsT_no hx y hy 44 h).1 rfl

/-! ### The program -/
theorem fill_val (D : List UInt8) (hD : D.length ≤ 136) (p q : Int) (K : Nat) (hK : 200 ≤ K) : ∃ s : Col, impl_ParseColouring_l0 (bs D) K 0 ⟨p, q, B136.zero⟩ = some s ∧ s.p = p ∧ s.k = q ∧ ∀ t, t < 136 → s.e.get t = if t < D.length then toByte (((D.getD t 0).toNat : Int) - 48) else 0 := by
  refine loopI (f := fun k' i (s : Col) => impl_ParseColouring_l0 (bs D) k' i s) (D.length : Int) 0 (fun i s => i ≤ D.length ∧ s.p = p ∧ s.k = q ∧ ∀ t : Nat, t < 136 → s.e.get t = if (t : Int) < i then toByte (((D.getD t 0).toNat : Int) - 48) else 0) (fun s => s.p = p ∧ s.k = q ∧ ∀ t : Nat, t < 136 → s.e.get t = if t < D.length then toByte (((D.getD t 0).toNat : Int) - 48) else 0) ?_ ?_ K 0 ⟨p, q, B136.zero⟩ (by omega) (by omega) ⟨by omega, rfl, rfl, fun t _ => by rw [if_neg (by omega)]; exact B136.get_zero t⟩
  · rintro k' i s h0 h1 ⟨_, q1, q2, q3⟩
    obtain ⟨m, rfl⟩ := nat_of h0
    left
    refine ⟨s.set m (toByte (((D.getD m 0).toNat : Int) - 48)), ?_, by omega, q1, q2, fun t ht => ?_⟩
    · show impl_ParseColouring_l0 (bs D) (k' + 1) m s = _
      rw [impl_ParseColouring_l0, bs_size, if_pos (decide_eq_true h1), if_pos ⟨h0, h1⟩, if_pos ⟨h0, by omega⟩, Int.toNat_natCast, bs_list, w64_succ h0 h1 (by omega)]
    · rw [show (s.set m (toByte (((D.getD m 0).toNat : Int) - 48))).e.get t = _ from B136.get_set s.e m t _ (by omega)]
      by_cases e : t = m
      · rw [if_pos e, if_pos (by omega), e]
      · rw [if_neg e, q3 t ht]
        by_cases h : (t : Int) < m
        · rw [if_pos h, if_pos (by omega)]
        · rw [if_neg h, if_neg (by omega)]
  · rintro k' i s h0 h1 ⟨_, q1, q2, q3⟩
    refine ⟨s, ?_, q1, q2, fun t ht => ?_⟩
    · show impl_ParseColouring_l0 (bs D) (k' + 1) i s = _
      rw [impl_ParseColouring_l0, bs_size, if_neg (by simp only [decide_eq_true_eq]; omega)]
    · rw [q3 t ht]
      by_cases h : t < D.length
      · rw [if_pos h, if_pos (by omega)]
      · rw [if_neg h, if_neg (by omega)]
theorem repl_val (r : List UInt8) (h : r.length < 4294967281) : replC (bs r) (⟨#[44]⟩ : ByteArray) (⟨#[]⟩ : ByteArray) = some (bs (outC 44 r)) := by
  show (if (bs r).size < 4294967281 then some (⟨(outC 44 (bs r).data.toList).toArray⟩ : ByteArray) else none) = _
  rw [bs_size, if_pos h, bs_list]; rfl
theorem cut_any (c : UInt8) (T : List UInt8) (hT : T.length ≤ 8589934592) : ∃ a r f, strings_Cut (bs T) (⟨#[c]⟩ : ByteArray) = some (bs a, bs r, f) ∧ a.length ≤ T.length ∧ r.length ≤ T.length := by
  by_cases h : c ∈ T
  · obtain ⟨a, r, rfl, ha⟩ := firstC c T h
    exact ⟨a, r, true, cut_some c a r ha hT, by simp, by simp; omega⟩
  · exact ⟨T, [], false, cut_none c T h, Nat.le_refl _, by simp⟩
theorem bs_inj {a b : List UInt8} (h : bs a = bs b) : a = b := by
  have := congrArg (fun z : ByteArray => z.data.toList) h
  simpa [bs] using this
theorem beq_bs (a b : List UInt8) : (bs a == bs b) = decide (a = b) := by
  by_cases h : a = b
  · rw [h, decide_eq_true rfl]; exact beq_self _
  · rw [decide_eq_false h]
    rcases hb : (bs a == bs b) with _ | _
    · rfl
    · exact absurd (bs_inj (congrArg ByteArray.mk (eq_of_beq (show ((bs a).data == (bs b).data) = true from hb)))) h
/-- The end of the program's function, from what is cut and read. -/
def endP (k : Nat) (T : ByteArray) (v w : Int) (o1 o2 : Bool) (D : ByteArray) : Option (Col × Int) :=
  (letO (if !o1 then true else (if !o2 then true else (if !(impl_areSizes v w) then true else !decide ((D.size : Int) = w64 ((w64 (v * (w64 (v - 1)))).tdiv 2))))) fun (s10 : Bool) => (if s10 then some (.inr ((⟨0, 0, B136.zero⟩ : Col), 6)) else some (.inl ())) : Option (Sum (Unit) (Col × Int))).bind fun os12 => (match os12 with | .inl s12 => (impl_ParseColouring_l0 D k 0 (⟨v, w, B136.zero⟩ : Col) : Option (Col)).bind fun s18 => (((impl_Colouring_isColouring k s18).bind fun r19 => (if !r19 then some true else (impl_Colouring_text k s18).bind fun r21 => some (!(r21 == T))) : Option (Bool)).bind fun s22 => (if s22 then some (.inr ((⟨0, 0, B136.zero⟩ : Col), 6)) else some (.inl ())) : Option (Sum (Unit) (Col × Int))).bind fun os24 => (match os24 with | .inl s24 => some (s18, 0) | .inr rr => some rr) | .inr rr => some rr)
theorem parse_end {k : Nat} {T head rest a b : ByteArray} {f g : Bool} {v w : Int} {o1 o2 : Bool} {D : ByteArray} (h1 : strings_Cut T (⟨#[58]⟩ : ByteArray) = some (head, rest, f)) (h2 : strings_Cut head (⟨#[44]⟩ : ByteArray) = some (a, b, g)) (h3 : readN a = some (v, o1)) (h4 : readN b = some (w, o2)) (h5 : replC rest (⟨#[44]⟩ : ByteArray) (⟨#[]⟩ : ByteArray) = some D) : impl_ParseColouring k T = endP k T v w o1 o2 D := by
  unfold impl_ParseColouring endP
  rw [h1, Option.bind_some]
  dsimp only
  rw [h2, Option.bind_some]
  dsimp only
  rw [h3, Option.bind_some, h4, Option.bind_some, h5, Option.bind_some]
  rfl
open Classical in
theorem end_val {k : Nat} (hk : 300 ≤ k) (T D : List UInt8) {v w : Int} (hs : (1 ≤ v ∧ v ≤ 17) ∧ 1 ≤ w ∧ w ≤ 4) (hD : D.length = tri v.toNat) : ∃ s : Col, s.p = v ∧ s.k = w ∧ (∀ t, t < 136 → s.e.get t = if t < D.length then toByte (((D.getD t 0).toNat : Int) - 48) else 0) ∧ endP k (bs T) v w true true (bs D) = if s.is ∧ TX s = T then some (s, 0) else some (zC, 6) := by
  have hv : ((v.toNat : Nat) : Int) = v := by omega
  have ht := tri_le (n := v.toNat) (by omega)
  obtain ⟨s, e, s1, s2, s3⟩ := fill_val D (by omega) v w k (by omega)
  refine ⟨s, s1, s2, s3, ?_⟩
  have hed : w64 ((w64 (v * (w64 (v - 1)))).tdiv 2) = (tri v.toNat : Int) := by
    have : ∀ n : Nat, n ≤ 17 → w64 ((w64 ((n : Int) * (w64 ((n : Int) - 1)))).tdiv 2) = (tri n : Int) := by decide +kernel
    have := this v.toNat (by omega)
    rwa [hv] at this
  unfold endP impl_areSizes letO
  rw [in_eq, in_eq, decide_eq_true hs.1, decide_eq_true hs.2, bs_size, hed, decide_eq_true (show (D.length : Int) = (tri v.toNat : Int) by omega)]
  simp only [Bool.not_true, Bool.false_eq_true, if_false, if_true, Option.bind_some]
  rw [e, Option.bind_some, isColouring_eq k (by omega)]
  by_cases his : s.is
  · rw [decide_eq_true his, Option.bind_some, if_neg (by simp), (txt_val s his k (by omega)).2, Option.bind_some, beq_bs]
    by_cases h : TX s = T
    · rw [decide_eq_true h, if_pos ⟨his, h⟩]; rfl
    · rw [decide_eq_false h, if_neg (fun q => h q.2)]; rfl
  · rw [decide_eq_false his, if_neg (fun q => his q.1)]; rfl
theorem end_err {k : Nat} (T : ByteArray) (v w : Int) (o1 o2 : Bool) (D : ByteArray) (h : ¬ (o1 = true ∧ o2 = true ∧ ((1 ≤ v ∧ v ≤ 17) ∧ 1 ≤ w ∧ w ≤ 4) ∧ (D.size : Int) = w64 ((w64 (v * (w64 (v - 1)))).tdiv 2))) : endP k T v w o1 o2 D = some (zC, 6) := by
  unfold endP impl_areSizes letO
  rw [in_eq, in_eq]
  cases o1 with
  | false => rfl
  | true =>
    cases o2 with
    | false => rfl
    | true =>
      by_cases c1 : 1 ≤ v ∧ v ≤ 17
      · by_cases c2 : 1 ≤ w ∧ w ≤ 4
        · rw [decide_eq_true c1, decide_eq_true c2, decide_eq_false (fun q => h ⟨rfl, rfl, ⟨c1, c2⟩, q⟩)]; rfl
        · rw [decide_eq_true c1, decide_eq_false c2]; rfl
      · rw [decide_eq_false c1]; rfl
theorem implB (T : List UInt8) (hT : T.length ≤ 4294967280) (k : Nat) (hk : 300 ≤ k) : ∃ x c, impl_ParseColouring k (bs T) = some (x, c) ∧ ((c = 0 ∧ x.is ∧ TX x = T) ∨ (x = zC ∧ c = 6)) := by
  classical
  obtain ⟨a, r, f, h1, l1, l2⟩ := cut_any 58 T (by omega)
  obtain ⟨a1, a2, g, h2, l3, l4⟩ := cut_any 44 a (by omega)
  obtain ⟨v, o1, h3⟩ := read_ex (bs a1) (by rw [bs_size]; omega)
  obtain ⟨w, o2, h4⟩ := read_ex (bs a2) (by rw [bs_size]; omega)
  rw [parse_end h1 h2 h3 h4 (repl_val r (by omega))]
  by_cases h : o1 = true ∧ o2 = true ∧ ((1 ≤ v ∧ v ≤ 17) ∧ 1 ≤ w ∧ w ≤ 4) ∧ ((bs (outC 44 r)).size : Int) = w64 ((w64 (v * (w64 (v - 1)))).tdiv 2)
  · obtain ⟨rfl, rfl, hs, hD⟩ := h
    have hv : ((v.toNat : Nat) : Int) = v := by omega
    have hed : w64 ((w64 (v * (w64 (v - 1)))).tdiv 2) = (tri v.toNat : Int) := by
      have : ∀ n : Nat, n ≤ 17 → w64 ((w64 ((n : Int) * (w64 ((n : Int) - 1)))).tdiv 2) = (tri n : Int) := by decide +kernel
      have := this v.toNat (by omega)
      rwa [hv] at this
    rw [hed, bs_size] at hD
    obtain ⟨s, _, _, _, e⟩ := end_val hk T (outC 44 r) hs (by omega)
    rw [e]
    by_cases hq : s.is ∧ TX s = T
    · rw [if_pos hq]; exact ⟨s, 0, rfl, .inl ⟨rfl, hq⟩⟩
    · rw [if_neg hq]; exact ⟨zC, 6, rfl, .inr ⟨rfl, rfl⟩⟩
  · rw [end_err _ _ _ _ _ _ h]
    exact ⟨zC, 6, rfl, .inr ⟨rfl, rfl⟩⟩
theorem implA {x : Col} (hx : x.is) (k : Nat) (hk : 300 ≤ k) : impl_ParseColouring k (bs (TX x)) = some (x, 0) := by
  classical
  have hp := hx.1
  have hq := hx.2.1
  obtain ⟨e1, e2, e3⟩ := TX_split hx
  have d1 := dec2_no x.p.toNat (by omega)
  have hl := jT_len x (x.p - 1).toNat (by omega)
  have h1 := cut_some 58 _ (jT x (x.p - 1).toNat) e2 (by rw [← e1]; omega)
  rw [← e1] at h1
  have h2 := cut_some 44 (dec2 x.p.toNat) (dec2 x.k.toNat) d1.1 (by
    have := head_len x.p.toNat x.k.toNat (by omega) (by omega) (jT x (x.p - 1).toNat)
    simp only [List.length_append, List.length_cons] at this ⊢
    omega)
  rw [parse_end h1 h2 (read_dec2 _ (by omega)) (read_dec2 _ (by omega)) (repl_val _ (by omega)), digits hx]
  have ep : ((x.p.toNat : Nat) : Int) = x.p := by omega
  have ek : ((x.k.toNat : Nat) : Int) = x.k := by omega
  have hlen : (flatT x (x.p - 1).toNat).length = tri x.p.toNat := by
    rw [flatT_len x _ (by omega), show (x.p - 1).toNat + 1 = x.p.toNat by omega]
  rw [ep, ek]
  obtain ⟨s, s1, s2, s3, e⟩ := end_val hk (TX x) (flatT x (x.p - 1).toNat) (v := x.p) (w := x.k) ⟨⟨by omega, by omega⟩, by omega, by omega⟩ hlen
  have hsx : s = x := by
    conv => rhs; rw [is_mk hx]
    have ht := tri_le (n := x.p.toNat) (by omega)
    refine Made.to (g' := fun a b => toByte ((((flatT x (x.p - 1).toNat).getD (eN a b) 0).toNat : Int) - 48)) (by omega) ⟨by rw [s1, ep], s2, fun a b hab hb => ?_, fun e he h1 => ?_⟩ fun a b hab hb => ?_
    · have := eN_lt hab (show b < x.p.toNat by omega) (by omega)
      rw [s3 _ (by omega), hlen, if_pos this]
    · rw [s3 e h1, hlen, if_neg (by rw [Int.toNat_natCast] at he; omega)]
    · rw [flatT_get x _ (by omega) a b hab (by omega), dg_nat (cc_lt x hx a b (by omega) (by omega) (by omega))]
      congr 1
      omega
  rw [e, hsx, if_pos ⟨hx, rfl⟩]
theorem parse_same (T : List UInt8) (hT : T.length ≤ 4294967280) (k : Nat) (hk : T.length + 1000 ≤ k) : ∃ x c, impl_ParseColouring k (bs T) = some (x, c) ∧ spec_ParseColouring k (bs T) = some (x, c) := by
  by_cases h : ∃ x : Col, x.is ∧ TX x = T
  · obtain ⟨x, hx, rfl⟩ := h
    refine ⟨x, 0, implA hx k (by omega), ?_⟩
    unfold spec_ParseColouring
    rw [specA hx k (by omega)]
    rfl
  · obtain ⟨y, b, e, hb⟩ := specB T (by omega) k (by omega)
    obtain ⟨z, c, e2, hz⟩ := implB T hT k (by omega)
    rcases hz with ⟨_, h1, h2⟩ | ⟨rfl, rfl⟩
    · exact absurd ⟨z, h1, h2⟩ h
    · refine ⟨zC, 6, e2, ?_⟩
      unfold spec_ParseColouring
      rw [e, Option.bind_some]
      cases b with
      | true => exact absurd ⟨y, hb rfl⟩ h
      | false => rfl
end Go.Proofs.YtfhdihekehlkiaaGreatDoor
