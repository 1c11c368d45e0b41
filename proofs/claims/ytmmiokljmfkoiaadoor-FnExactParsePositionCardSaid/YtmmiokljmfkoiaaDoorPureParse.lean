/- The plain law of FnExactParsePosition: the program's answer is the reference's. No conditions beyond those that each lemma states. -/
import Derived.Test.YtmmiokljmfkoiaaDoorPurePosn12
set_option linter.unusedVariables false
set_option linter.unusedSimpArgs false
namespace Go.Proofs.YtmmiokljmfkoiaaDoor
open Go Go.RowKit Ab

def bs (l : List UInt8) : ByteArray := ⟨l.toArray⟩
theorem bs_size (a : List UInt8) : (bs a).size = a.length := by simp [bs, ByteArray.size]
theorem bs_list (a : List UInt8) : (bs a).data.toList = a := by simp [bs]
theorem bs_of (t : ByteArray) : t = bs t.data.toList := by
  rcases t with ⟨a⟩; simp [bs]
theorem bs_ext (l : List UInt8) (i j : Nat) : (bs l).extract i j = bs ((l.drop i).take (j - i)) := by
  apply ByteArray.ext
  rw [ByteArray.data_extract]
  apply Array.ext'
  rw [Array.toList_extract]
  simp [bs, List.extract]

/-! ### The parts of a text -/
/-- Where the last part begins, and the parts before it, behind i bytes. -/
def spl (T : List UInt8) : Nat → Nat × List ByteArray
  | 0 => (0, [])
  | i + 1 => if T.getD i 0 = 58 then (i + 1, (spl T i).2 ++ [bs ((T.drop (spl T i).1).take (i - (spl T i).1))]) else spl T i

theorem spl_le (T : List UInt8) (i : Nat) : (spl T i).1 ≤ i := by
  induction i with
  | zero => simp [spl]
  | succ i ih =>
    rw [spl]; split
    · exact Nat.le_refl _
    · omega

theorem spl_len (T : List UInt8) (i : Nat) (h : i ≤ T.length) : (spl T i).2.length = (T.take i).count 58 := by
  induction i with
  | zero => simp [spl]
  | succ i ih =>
    have e : T.take (i + 1) = T.take i ++ [T.getD i 0] := by
      rw [List.take_succ_eq_append_getElem (by omega)]; simp [List.getD, show i < T.length by omega]
    rw [spl, e, List.count_append, ← ih (by omega)]
    split
    · rename_i h; rw [h]; simp
    · rename_i h; rw [List.count_singleton, if_neg (by simpa using h), Nat.add_zero]

theorem split_loop (T : List UInt8) (k : Nat) (hk : T.length + 2 ≤ k) (hT : T.length ≤ 1048576) : spec_l01Split_l0 (bs T) 58 k 0 0 [] = some (((spl T T.length).1 : Int), (spl T T.length).2) := by
  have hsz : ((bs T).size : Int) = (T.length : Int) := by rw [bs_size]
  have := loopI (f := fun k' i (s : Int × List ByteArray) => spec_l01Split_l0 (bs T) 58 k' s.1 i s.2) (T.length : Int) 0 (fun i s => i ≤ T.length ∧ s = (((spl T i.toNat).1 : Int), (spl T i.toNat).2)) (fun r => r = (((spl T T.length).1 : Int), (spl T T.length).2)) ?_ ?_ k 0 (0, []) (by omega) (by omega) ⟨by omega, by simp [spl]⟩
  · obtain ⟨r, e, rfl⟩ := this
    exact e
  · rintro k' i s h0 h1 ⟨_, rfl⟩
    left
    obtain ⟨m, rfl⟩ := nat_of h0
    rw [Int.toNat_natCast]
    refine ⟨(((spl T (m + 1)).1 : Int), (spl T (m + 1)).2), ?_, by omega, by rw [show ((m : Int) + 1).toNat = m + 1 by omega]⟩
    show spec_l01Split_l0 (bs T) 58 (k' + 1) ((spl T m).1 : Int) (m : Int) (spl T m).2 = _
    have hle := spl_le T m
    have hln := spl_len T m (by omega)
    have hc : (T.take m).count 58 ≤ m := Nat.le_trans List.count_le_length (by rw [List.length_take]; omega)
    rw [spec_l01Split_l0, hsz, if_pos (decide_eq_true h1), if_pos ⟨h0, h1⟩, bs_list, Int.toNat_natCast, w64_succ h0 h1 (by omega), Int.toNat_natCast, bs_ext]
    by_cases hb : T.getD m 0 = 58
    · have e : (((T.getD m 0).toNat : Int) = ((58 : UInt8).toNat : Int)) := by rw [hb]
      rw [if_pos (decide_eq_true e), if_pos ⟨by omega, by omega, by omega⟩, if_pos (by simp; omega)]
      rw [spl, if_pos hb]
      rfl
    · have e : ¬ (((T.getD m 0).toNat : Int) = ((58 : UInt8).toNat : Int)) := fun h => hb (UInt8.toNat_inj.1 (by omega))
      rw [if_neg (by simpa using e)]
      rw [spl, if_neg hb]
      rfl
  · rintro k' i s h0 h1 ⟨q0, rfl⟩
    obtain rfl : i = T.length := by omega
    rw [Int.toNat_natCast]
    refine ⟨(((spl T T.length).1 : Int), (spl T T.length).2), ?_, rfl⟩
    show spec_l01Split_l0 (bs T) 58 (k' + 1) ((spl T T.length).1 : Int) (T.length : Int) (spl T T.length).2 = _
    rw [spec_l01Split_l0, hsz]; simp

theorem split_eq (T : List UInt8) (k : Nat) (hk : T.length + 2 ≤ k) (hT : T.length ≤ 1048576) : spec_l01Split k (bs T) 58 = some ((spl T T.length).2 ++ [bs (T.drop (spl T T.length).1)]) := by
  unfold spec_l01Split
  rw [split_loop T k hk hT, Option.bind_some]
  have hle := spl_le T T.length
  have hln := spl_len T T.length (Nat.le_refl _)
  have hc : (T.take T.length).count 58 ≤ T.length := Nat.le_trans List.count_le_length (by rw [List.length_take]; omega)
  have hsz : (bs T).size = T.length := bs_size T
  rw [hsz, if_pos ⟨by omega, by omega, by omega⟩, if_pos (by simp; omega), bs_ext, Int.toNat_natCast]
  rw [List.take_of_length_le (by rw [List.length_drop]; exact Nat.le_refl _)]

theorem spl_before (a r : List UInt8) (ha : 58 ∉ a) (i : Nat) (hi : i ≤ a.length) : spl (a ++ 58 :: r) i = (0, []) := by
  induction i with
  | zero => simp [spl]
  | succ i ih =>
    have h1 : i < a.length := by omega
    have e : (a ++ 58 :: r).getD i 0 = a[i] := by simp [List.getD, List.getElem?_append, h1]
    rw [spl, if_neg (by rw [e]; intro h; exact ha (h ▸ List.getElem_mem h1)), ih (by omega)]

theorem spl_after (a r : List UInt8) (ha : 58 ∉ a) (hr : 58 ∉ r) (j : Nat) (hj : j ≤ r.length) : spl (a ++ 58 :: r) (a.length + 1 + j) = (a.length + 1, [bs a]) := by
  induction j with
  | zero =>
    have e : (a ++ 58 :: r).getD a.length 0 = 58 := by simp [List.getD]
    rw [Nat.add_zero, spl, if_pos e, spl_before a r ha _ (Nat.le_refl _)]
    simp
  | succ j ih =>
    have h1 : j < r.length := by omega
    have e : (a ++ 58 :: r).getD (a.length + 1 + j) 0 = r[j] := by
      rw [List.getD, List.getElem?_append_right (by omega), show a.length + 1 + j - a.length = j + 1 by omega]; simp [h1]
    show spl (a ++ 58 :: r) ((a.length + 1 + j) + 1) = _
    rw [spl, if_neg (by rw [e]; intro h; exact hr (h ▸ List.getElem_mem h1)), ih (by omega)]

theorem split_two (a r : List UInt8) (ha : 58 ∉ a) (hr : 58 ∉ r) (k : Nat) (hk : (a ++ 58 :: r).length + 2 ≤ k) (hT : (a ++ 58 :: r).length ≤ 1048576) : spec_l01Split k (bs (a ++ 58 :: r)) 58 = some [bs a, bs r] := by
  have hl : (a ++ 58 :: r).length = a.length + 1 + r.length := by simp; omega
  have e := spl_after a r ha hr r.length (Nat.le_refl _)
  rw [split_eq _ k hk hT, hl, e]
  simp [List.drop_append, List.drop_eq_nil_of_le (show a.length ≤ a.length + 1 by omega)]

theorem split_len (T : List UInt8) (k : Nat) (hk : T.length + 2 ≤ k) (hT : T.length ≤ 1048576) : ∃ ps, spec_l01Split k (bs T) 58 = some ps ∧ ps.length = T.count 58 + 1 := by
  refine ⟨_, split_eq T k hk hT, ?_⟩
  have := spl_len T T.length (Nat.le_refl _)
  rw [List.take_length] at this
  simp [this]

/-! ### The list behind -/
def okc (c : UInt8) : Prop := c = 46 ∨ c = 48 ∨ c = 49
instance (c : UInt8) : Decidable (okc c) := by unfold okc; infer_instance
def allok (l : List UInt8) : Prop := ∀ c ∈ l, okc c
instance (l : List UInt8) : Decidable (allok l) := by unfold allok; infer_instance
def chv (c : UInt8) : Int := if c = 46 then -1 else if c = 48 then 0 else if c = 49 then 1 else -2

theorem indexB_eq (c : UInt8) : indexB (⟨#[46, 48, 49]⟩ : ByteArray) c = chv c + 1 := by
  unfold indexB chv
  show Lib.indexByte [46, 48, 49] c = _
  by_cases h1 : c = 46
  · subst h1; decide
  · by_cases h2 : c = 48
    · subst h2; decide
    · by_cases h3 : c = 49
      · subst h3; decide
      · have e1 : ((46 : UInt8) == c) = false := by simpa using fun h => h1 h.symm
        have e2 : ((48 : UInt8) == c) = false := by simpa using fun h => h2 h.symm
        have e3 : ((49 : UInt8) == c) = false := by simpa using fun h => h3 h.symm
        simp [Lib.indexByte, e1, e2, e3, h1, h2, h3]

theorem chv_range (c : UInt8) : -2 ≤ chv c ∧ chv c ≤ 1 := by
  unfold chv
  by_cases h1 : c = 46 <;> by_cases h2 : c = 48 <;> by_cases h3 : c = 49 <;> simp [h1, h2, h3]
theorem chv_ok (c : UInt8) : 0 ≤ chv c + 1 ↔ okc c := by
  unfold chv okc
  by_cases h1 : c = 46
  · simp [h1]
  · by_cases h2 : c = 48
    · simp [h2]
    · by_cases h3 : c = 49
      · simp [h3]
      · simp [h1, h2, h3]

theorem take_snoc {α : Type} [Inhabited α] (l : List α) (d : α) (i : Nat) (h : i < l.length) : l.take (i + 1) = l.take i ++ [l.getD i d] := by
  rw [List.take_succ_eq_append_getElem h]; simp [List.getD, h]

theorem mem_take_succ (r : List UInt8) (m : Nat) (h : m < r.length) : allok (r.take (m + 1)) ↔ allok (r.take m) ∧ okc (r.getD m 0) := by
  unfold allok
  rw [take_snoc r 0 m h]
  simp only [List.mem_append, List.mem_singleton]
  constructor
  · intro q; exact ⟨fun c hc => q c (.inl hc), q _ (.inr rfl)⟩
  · rintro ⟨q1, q2⟩ c (hc | rfl)
    · exact q1 c hc
    · exact q2

theorem read_loop (a r : List UInt8) (k : Nat) (hk : r.length + 2 ≤ k) (hr : r.length ≤ 1048576) : spec_l09Read_l0 [bs a, bs r] k 0 [] = some (if allok r then .inl (r.map chv) else .inr (0, [], false)) := by
  have := loopI (f := fun k' i (s : List Int) => spec_l09Read_l0 [bs a, bs r] k' i s) (r.length : Int) 0 (fun i s => i ≤ r.length ∧ allok (r.take i.toNat) ∧ s = (r.take i.toNat).map chv) (fun q => q = if allok r then .inl (r.map chv) else .inr (0, [], false)) ?_ ?_ k 0 [] (by omega) (by omega) ⟨by omega, by simp [allok], by simp⟩
  · obtain ⟨q, e, rfl⟩ := this
    exact e
  · rintro k' i s h0 h1 ⟨_, hok, hs⟩
    obtain ⟨m, rfl⟩ := nat_of h0
    rw [Int.toNat_natCast] at hok hs
    have hm : m < r.length := by omega
    have hsl : s.length = m := by rw [hs, List.length_map, List.length_take]; omega
    have hg : ([bs a, bs r].getD (1 : Int).toNat ByteArray.empty) = bs r := rfl
    have hl2 : (([bs a, bs r] : List ByteArray).length : Int) = 2 := rfl
    have hsz : ((bs r).size : Int) = (r.length : Int) := by rw [bs_size]
    have hfirst : spec_l09Read_l0 [bs a, bs r] (k' + 1) (m : Int) s = spec_l09Read_l0 [bs a, bs r] (k' + 1) (m : Int) s := rfl
    have good : ∀ v : Int, chv (r.getD m 0) = v → okc (r.getD m 0) → (s ++ [v] = (r.take (m + 1)).map chv ∧ allok (r.take (m + 1))) := fun v hv ho =>
      ⟨by rw [take_snoc r 0 m hm, List.map_append, hs, ← hv]; rfl, (mem_take_succ r m hm).2 ⟨hok, ho⟩⟩
    have step : spec_l09Read_l0 [bs a, bs r] (k' + 1) (m : Int) s = if okc (r.getD m 0) then spec_l09Read_l0 [bs a, bs r] k' ((m : Int) + 1) (s ++ [chv (r.getD m 0)]) else some (.inr (0, [], false)) := by
      rw [spec_l09Read_l0, hl2, if_pos ⟨by omega, by omega⟩, hg, hsz, if_pos (decide_eq_true h1), if_pos ⟨by omega, by omega⟩, if_pos ⟨h0, h1⟩, bs_list, Int.toNat_natCast, w64_succ h0 h1 (by omega)]
      generalize r.getD m 0 = c
      have hlen : s.length + 1 ≤ 1099511627776 := by omega
      by_cases e1 : c = 46
      · subst e1
        simp [okc, chv, hlen]
      · have e1' : ¬ ((c.toNat : Int) = 46) := fun h => e1 (UInt8.toNat_inj.1 (by show c.toNat = 46; omega))
        by_cases e2 : c = 48
        · subst e2
          simp [okc, chv, hlen]
        · have e2' : ¬ ((c.toNat : Int) = 48) := fun h => e2 (UInt8.toNat_inj.1 (by show c.toNat = 48; omega))
          by_cases e3 : c = 49
          · subst e3
            simp [okc, chv, hlen]
          · have e3' : ¬ ((c.toNat : Int) = 49) := fun h => e3 (UInt8.toNat_inj.1 (by show c.toNat = 49; omega))
            simp [okc, e1, e2, e3, e1', e2', e3']
    by_cases ho : okc (r.getD m 0)
    · left
      obtain ⟨g1, g2⟩ := good _ rfl ho
      refine ⟨s ++ [chv (r.getD m 0)], by show spec_l09Read_l0 [bs a, bs r] (k' + 1) (m : Int) s = _; rw [step, if_pos ho], by omega, ?_, ?_⟩
      · rw [show ((m : Int) + 1).toNat = m + 1 by omega]; exact g2
      · rw [show ((m : Int) + 1).toNat = m + 1 by omega]; exact g1
    · right
      refine ⟨.inr (0, [], false), by show spec_l09Read_l0 [bs a, bs r] (k' + 1) (m : Int) s = _; rw [step, if_neg ho], ?_⟩
      rw [if_neg]
      intro hall
      refine ho (hall _ ?_)
      have : r.getD m 0 = r[m] := by simp [List.getD, hm]
      rw [this]; exact List.getElem_mem hm
  · rintro k' i s h0 h1 ⟨q0, hok, hs⟩
    obtain rfl : i = r.length := by omega
    rw [Int.toNat_natCast, List.take_length] at hok hs
    refine ⟨.inl s, ?_, by rw [if_pos hok, hs]⟩
    show spec_l09Read_l0 [bs a, bs r] (k' + 1) (r.length : Int) s = _
    have hg : ([bs a, bs r].getD (1 : Int).toNat ByteArray.empty) = bs r := rfl
    have hl2 : (([bs a, bs r] : List ByteArray).length : Int) = 2 := rfl
    have hsz : ((bs r).size : Int) = (r.length : Int) := by rw [bs_size]
    rw [spec_l09Read_l0, hl2, if_pos ⟨by omega, by omega⟩, hg, hsz]; simp

theorem impl_loop (h r : List UInt8) (is ok : Bool) (k : Nat) (hk : r.length + 2 ≤ k) (hr : r.length ≤ 1048576) : impl_ParsePosition_l0 (bs h, bs r, is) k ok 0 [] = some (ok && decide (allok r), r.map chv) := by
  have hsz : ((bs r).size : Int) = (r.length : Int) := by rw [bs_size]
  have := loopI (f := fun k' i (s : Bool × List Int) => impl_ParsePosition_l0 (bs h, bs r, is) k' s.1 i s.2) (r.length : Int) 0 (fun i s => i ≤ r.length ∧ s = (ok && decide (allok (r.take i.toNat)), (r.take i.toNat).map chv)) (fun q => q = (ok && decide (allok r), r.map chv)) ?_ ?_ k 0 (ok, []) (by omega) (by omega) ⟨by omega, by simp [allok]⟩
  · obtain ⟨q, e, rfl⟩ := this
    exact e
  · rintro k' i s h0 h1 ⟨_, rfl⟩
    left
    obtain ⟨m, rfl⟩ := nat_of h0
    rw [Int.toNat_natCast]
    have hm : m < r.length := by omega
    refine ⟨(ok && decide (allok (r.take (m + 1))), (r.take (m + 1)).map chv), ?_, by omega, by rw [show ((m : Int) + 1).toNat = m + 1 by omega]⟩
    show impl_ParsePosition_l0 (bs h, bs r, is) (k' + 1) (ok && decide (allok (r.take m))) (m : Int) ((r.take m).map chv) = _
    have hv := chv_range (r.getD m 0)
    rw [impl_ParsePosition_l0, hsz, if_pos (decide_eq_true h1), if_pos ⟨h0, h1⟩, bs_list, Int.toNat_natCast, indexB_eq, w64_succ h0 h1 (by omega), w64_id (n := chv (r.getD m 0) + 1 - 1) (by omega), show chv (r.getD m 0) + 1 - 1 = chv (r.getD m 0) by omega]
    have hlen : ((r.take m).map chv).length + ([chv (r.getD m 0)]).length ≤ 1099511627776 := by rw [List.length_map, List.length_take]; simp; omega
    simp only [letO, if_pos hlen, Option.bind_some]
    rw [take_snoc r 0 m hm, List.map_append]
    have e : (if (ok && decide (allok (r.take m))) = true then decide (0 ≤ chv (r.getD m 0) + 1) else false) = (ok && decide (allok (r.take m ++ [r.getD m 0]))) := by
      have e2 := mem_take_succ r m hm
      rw [take_snoc r 0 m hm] at e2
      have e3 := chv_ok (r.getD m 0)
      generalize r.getD m 0 = c at e2 e3
      by_cases g1 : allok (r.take m) <;> by_cases g2 : okc (r.getD m 0) <;> cases ok <;> simp [e2, e3, g1, g2]
    rw [e]; rfl
  · rintro k' i s h0 h1 ⟨q0, rfl⟩
    obtain rfl : i = r.length := by omega
    rw [Int.toNat_natCast, List.take_length]
    refine ⟨_, ?_, rfl⟩
    show impl_ParsePosition_l0 (bs h, bs r, is) (k' + 1) _ (r.length : Int) _ = _
    rw [impl_ParsePosition_l0, hsz]; simp

/-! ### Numbers -/
theorem num_small (z : Nat) (hz : 1 ≤ z ∧ z ≤ 5) (k : Nat) (hk : 3 ≤ k) : spec_l01Number k (bs [UInt8.ofNat (48 + z)]) = some (z : Int) ∧ readN (bs [UInt8.ofNat (48 + z)]) = some ((z : Int), true) := by
  obtain ⟨k, rfl⟩ : ∃ k', k = k' + 2 := ⟨k - 2, by omega⟩
  have h5 : z = 1 ∨ z = 2 ∨ z = 3 ∨ z = 4 ∨ z = 5 := by omega
  have hd : ∀ u : Nat, u < 10 → Lib.itoa (u : Int) = [UInt8.ofNat (48 + u)] := fun u hu => by
    unfold Lib.itoa
    rw [if_neg (by omega), Int.toNat_natCast, Lib.decDigits, dif_pos hu]
  constructor
  · rcases h5 with rfl | rfl | rfl | rfl | rfl <;> rfl
  · unfold readN
    rw [if_pos (by rw [bs_size]; simp), bs_list]
    have hp : Lib.parseIntB 64 [UInt8.ofNat (48 + z)] = .ok (z : Int) := by
      rcases h5 with rfl | rfl | rfl | rfl | rfl <;> decide +kernel
    rw [hp]
    simp only [hd z (by omega)]
    have : ∀ b : ByteArray, (b == b) = true := fun b => by rcases b with ⟨a⟩; show (a == a) = true; simp
    exact congrArg some (Prod.ext rfl (this _))

theorem readN_ex (a : List UInt8) (ha : a.length ≤ 1048576) : ∃ v ok, readN (bs a) = some (v, ok) ∧ (ok = true → 1 ≤ v ∧ v ≤ 5 → ∃ z : Nat, (1 ≤ z ∧ z ≤ 5) ∧ a = [UInt8.ofNat (48 + z)]) := by
  unfold readN
  rw [if_pos (by rw [bs_size]; omega), bs_list]
  cases Lib.parseIntB 64 a with
  | range => exact ⟨_, _, rfl, fun h => by cases h⟩
  | ok v =>
    refine ⟨_, _, rfl, fun h hv => ⟨v.toNat, by omega, ?_⟩⟩
    have he : (⟨(Lib.itoa v).toArray⟩ : ByteArray) = bs a := congrArg ByteArray.mk (eq_of_beq (show ((Lib.itoa v).toArray == a.toArray) = true from h))
    have h2 : Lib.itoa v = a := by
      have := congrArg (fun b : ByteArray => b.data.toList) he
      simpa [bs] using this
    rw [← h2]
    unfold Lib.itoa
    rw [if_neg (by omega), Lib.decDigits, dif_pos (by omega)]
  | _ => exact ⟨_, _, rfl, fun h => by cases h⟩

theorem num_ex (a : List UInt8) (ha : a.length ≤ 1048576) (hn : ¬ ∃ z : Nat, (1 ≤ z ∧ z ≤ 5) ∧ a = [UInt8.ofNat (48 + z)]) (k : Nat) (hk : 20 ≤ k) : ∃ v, spec_l01Number k (bs a) = some v ∧ ¬ (1 ≤ v ∧ v ≤ 5) := by
  have hsz : ((bs a).size : Int) = (a.length : Int) := by rw [bs_size]
  unfold spec_l01Number
  rw [hsz, bs_list]
  by_cases h0 : a.length = 0
  · exact ⟨-1, by simp [h0], by omega⟩
  by_cases h9 : 9 < a.length
  · exact ⟨-1, by simp [h0, h9, show (9 : Int) < (a.length : Int) by omega], by omega⟩
  have hz : (0 : Int).toNat = 0 := rfl
  by_cases h1 : 1 < a.length ∧ a.getD 0 0 = 48
  · refine ⟨-1, ?_, by omega⟩
    have e : ((a.getD (0 : Int).toNat 0).toNat : Int) = 48 := by rw [hz, h1.2]; rfl
    rw [if_neg (by simpa using h0), if_neg (by simp; omega), if_pos (by simp; omega), if_pos ⟨by omega, by omega⟩, decide_eq_true e]
    rfl
  -- the loop
  have hlead : (if decide ((a.length : Int) = 0) = true then some true else if decide (9 < (a.length : Int)) = true then some true else if decide (1 < (a.length : Int)) = true then (if (0 : Int) ≤ 0 ∧ (0 : Int) < (a.length : Int) then some (decide (((a.getD (0 : Int).toNat 0).toNat : Int) = 48)) else none) else some false) = some false := by
    rw [if_neg (by simpa using h0), if_neg (by simp; omega)]
    by_cases h2 : 1 < a.length
    · have e : ¬ ((a.getD (0 : Int).toNat 0).toNat : Int) = 48 := fun h => h1 ⟨h2, UInt8.toNat_inj.1 (by rw [hz] at h; show (a.getD 0 0).toNat = 48; omega)⟩
      rw [if_pos (by simp; omega), if_pos ⟨by omega, by omega⟩, decide_eq_false e]
    · rw [if_neg (by simp; omega)]
  have loop := loopI (f := fun k' i (s : Int) => spec_l01Number_l0 (bs a) k' s i) (a.length : Int) 0
    (fun i s => i ≤ a.length ∧ 0 ≤ s ∧ s < ((10 ^ i.toNat : Nat) : Int) ∧ (1 ≤ i → 1 < a.length → 1 ≤ s) ∧ (2 ≤ i → 10 ≤ s) ∧ (i = 1 → s = ((a.getD 0 0).toNat : Int) - 48 ∧ 48 ≤ ((a.getD 0 0).toNat : Int)))
    (fun q => q = .inr (-1) ∨ ∃ v, q = .inl v ∧ ¬ (1 ≤ v ∧ v ≤ 5)) ?_ ?_ k 0 0 (by omega) (by omega) ⟨by omega, by omega, by simp, fun h => by omega, fun h => by omega, fun h => by omega⟩
  · obtain ⟨q, e, hq⟩ := loop
    have e' : spec_l01Number_l0 (bs a) k 0 0 = some q := e
    rcases hq with rfl | ⟨v, rfl, hv⟩
    · refine ⟨-1, ?_, by omega⟩
      rw [hlead]
      simp [e']
    · refine ⟨v, ?_, hv⟩
      rw [hlead]
      simp [e']
  · rintro k' i s i0 i1 ⟨_, s0, s1, s2, s3, s4⟩
    obtain ⟨m, rfl⟩ := nat_of i0
    rw [Int.toNat_natCast] at s1
    have hm : m < a.length := by omega
    have hsplit : spec_l01Number_l0 (bs a) (k' + 1) s (m : Int) = if ((a.getD m 0).toNat : Int) < 48 ∨ 57 < ((a.getD m 0).toNat : Int) then some (.inr (-1)) else spec_l01Number_l0 (bs a) k' (w64 (w64 (s * 10) + w64 (IntKind.u8.wrap (((a.getD m 0).toNat : Int) - 48)))) ((m : Int) + 1) := by
      rw [spec_l01Number_l0, hsz, if_pos (decide_eq_true i1), if_pos ⟨i0, i1⟩, bs_list, Int.toNat_natCast, w64_succ i0 i1 (by omega)]
      by_cases c1 : ((a.getD m 0).toNat : Int) < 48
      · have hor : ((a.getD m 0).toNat : Int) < 48 ∨ 57 < ((a.getD m 0).toNat : Int) := .inl c1
        rw [if_pos (decide_eq_true c1), if_pos hor]; rfl
      · rw [if_neg (by simpa using c1)]
        by_cases c2 : 57 < ((a.getD m 0).toNat : Int)
        · have hor : ((a.getD m 0).toNat : Int) < 48 ∨ 57 < ((a.getD m 0).toNat : Int) := .inr c2
          rw [decide_eq_true c2, if_pos hor, if_pos ⟨i0, i1⟩]; rfl
        · have hor : ¬ (((a.getD m 0).toNat : Int) < 48 ∨ 57 < ((a.getD m 0).toNat : Int)) := by omega
          rw [decide_eq_false c2, if_neg hor, if_pos ⟨i0, i1⟩]; simp [i0, i1]
    by_cases hc : ((a.getD m 0).toNat : Int) < 48 ∨ 57 < ((a.getD m 0).toNat : Int)
    · right
      exact ⟨.inr (-1), by show spec_l01Number_l0 (bs a) (k' + 1) s (m : Int) = _; rw [hsplit, if_pos hc], .inl rfl⟩
    · left
      have hp : (10 ^ (m + 1) : Nat) = 10 * 10 ^ m := by rw [Nat.pow_succ]; omega
      have hb : (10 ^ m : Nat) ≤ 10 ^ 8 := Nat.pow_le_pow_right (by omega) (by omega)
      have hb2 : (10 ^ 8 : Nat) = 100000000 := by decide
      have hw : w64 (w64 (s * 10) + w64 (IntKind.u8.wrap (((a.getD m 0).toNat : Int) - 48))) = s * 10 + (((a.getD m 0).toNat : Int) - 48) := by
        rw [IntKind.wrap_u8, w64_id (n := s * 10) (by omega), w64_id (n := (((a.getD m 0).toNat : Int) - 48) % 256) (by omega), w64_id (by omega)]
        omega
      refine ⟨s * 10 + (((a.getD m 0).toNat : Int) - 48), by show spec_l01Number_l0 (bs a) (k' + 1) s (m : Int) = _; rw [hsplit, if_neg hc, hw], by omega, by omega, ?_, ?_, ?_, ?_⟩
      · rw [show ((m : Int) + 1).toNat = m + 1 by omega, hp]; omega
      · intro _ hl
        by_cases hm0 : m = 0
        · subst hm0
          have : ¬ ((a.getD 0 0).toNat : Int) = 48 := fun h => h1 ⟨hl, UInt8.toNat_inj.1 (by show (a.getD 0 0).toNat = 48; omega)⟩
          omega
        · have := s2 (by omega) hl; omega
      · intro h2
        have := s2 (by omega) (by omega); omega
      · intro h1'
        obtain rfl : m = 0 := by omega
        have : s = 0 := by have : (10 ^ 0 : Nat) = 1 := rfl; omega
        omega
  · rintro k' i s i0 i1 ⟨_, s0, s1, s2, s3, s4⟩
    obtain rfl : i = a.length := by omega
    refine ⟨.inl s, ?_, .inr ⟨s, rfl, fun hv => ?_⟩⟩
    · show spec_l01Number_l0 (bs a) (k' + 1) s (a.length : Int) = _
      rw [spec_l01Number_l0, hsz]; simp
    · by_cases h2 : 2 ≤ a.length
      · have := s3 (by omega); omega
      · have hl1 : a.length = 1 := by omega
        obtain ⟨e1, e2⟩ := s4 (by omega)
        refine hn ⟨s.toNat, by omega, ?_⟩
        match a, hl1 with
        | [c], _ =>
          simp at e1
          have : c = UInt8.ofNat (48 + s.toNat) := UInt8.toNat_inj.1 (by rw [UInt8.toNat_ofNat']; omega)
          rw [this]

/-! ### The text cut -/
theorem indexByte_none (T : List UInt8) (h : 58 ∉ T) : Lib.indexByte T 58 = -1 := by
  induction T with
  | nil => rfl
  | cons b l ih =>
    have h1 : (b == (58 : UInt8)) = false := by simpa using fun e => h (by simp [e])
    rw [Lib.indexByte, h1, ih (fun e => h (by simp [e]))]; rfl
theorem indexByte_some (a r : List UInt8) (ha : 58 ∉ a) : Lib.indexByte (a ++ 58 :: r) 58 = a.length := by
  induction a with
  | nil => rfl
  | cons b l ih =>
    have h1 : (b == (58 : UInt8)) = false := by simpa using fun e => ha (by simp [e])
    rw [List.cons_append, Lib.indexByte, h1, ih (fun e => ha (by simp [e]))]
    have : ((l.length : Int) == -1) = false := by simp
    rw [this]
    simp

theorem cut_none (T : List UInt8) (h : 58 ∉ T) : strings_Cut (bs T) (⟨#[58]⟩ : ByteArray) = some (bs T, bs [], false) := by
  unfold strings_Cut internal_stringslite_Cut
  have : indexOne (bs T) (⟨#[58]⟩ : ByteArray) = some (-1) := by
    show some (Lib.indexByte (bs T).data.toList 58) = _
    rw [bs_list, indexByte_none T h]
  rw [this]; rfl

theorem cut_some (a r : List UInt8) (ha : 58 ∉ a) (hT : (a ++ 58 :: r).length ≤ 1048576) : strings_Cut (bs (a ++ 58 :: r)) (⟨#[58]⟩ : ByteArray) = some (bs a, bs r, true) := by
  have hl : (a ++ 58 :: r).length = a.length + 1 + r.length := by simp; omega
  unfold strings_Cut internal_stringslite_Cut
  have : indexOne (bs (a ++ 58 :: r)) (⟨#[58]⟩ : ByteArray) = some (a.length : Int) := by
    show some (Lib.indexByte (bs (a ++ 58 :: r)).data.toList 58) = _
    rw [bs_list, indexByte_some a r ha]
  have hsz : (bs (a ++ 58 :: r)).size = a.length + 1 + r.length := by rw [bs_size, hl]
  have h1 : (⟨#[58]⟩ : ByteArray).size = 1 := rfl
  rw [this, Option.bind_some, if_pos (by simp), hsz, h1, w64_id (by omega), if_pos ⟨by omega, by omega, by omega⟩, if_pos ⟨by omega, by omega, by omega⟩, Option.bind_some, bs_ext, bs_ext]
  have e1 : ((a.length : Int) + ((1 : Nat) : Int)).toNat = a.length + 1 := by omega
  rw [e1, Int.toNat_natCast]
  have e2 : ((a ++ 58 :: r).drop 0).take (a.length - 0) = a := by simp
  have e3 : ((a ++ 58 :: r).drop (a.length + 1)).take (a.length + 1 + r.length - (a.length + 1)) = r := by
    rw [show a ++ 58 :: r = (a ++ [58]) ++ r by simp, show a.length + 1 = (a ++ [58]).length by simp, List.drop_left, List.take_of_length_le (by simp)]
  rw [e2, e3]

theorem first58 (T : List UInt8) (h : 58 ∈ T) : ∃ a r, T = a ++ 58 :: r ∧ 58 ∉ a := by
  induction T with
  | nil => simp at h
  | cons b l ih =>
    by_cases e : b = 58
    · exact ⟨[], l, by simp [e], by simp⟩
    · obtain ⟨a, r, rfl, ha⟩ := ih (by rcases List.mem_cons.1 h with h | h; exact absurd h.symm e; exact h)
      exact ⟨b :: a, r, by simp, by simp [ha, Ne.symm e]⟩

open Classical in
theorem parse_same (T : List UInt8) (hT : T.length ≤ 1048576) (k : Nat) (hk : T.length + 300 ≤ k) : ∃ (n : Int) (o : Option (List Int)) (e : Int), spec_ParsePosition k (bs T) = some (n, o.getD [], e) ∧ impl_ParsePosition k (bs T) = some (n, o, e) ∧ (o.getD []).length ≤ 10 := by
  have bad : ∀ ps : List ByteArray, spec_l01Split k (bs T) 58 = some ps → ps.length ≠ 2 → spec_ParsePosition k (bs T) = some (0, [], 6) := fun ps h h2 => by
    unfold spec_ParsePosition spec_l09Read
    rw [h, Option.bind_some, if_pos (by simp; omega)]; rfl
  obtain ⟨ps, hps, hpl⟩ := split_len T k (by omega) hT
  by_cases h58 : 58 ∈ T
  · obtain ⟨a, r, rfl, ha⟩ := first58 T h58
    have hl : (a ++ 58 :: r).length = a.length + 1 + r.length := by simp; omega
    obtain ⟨v, ok, hv, hv2⟩ := readN_ex a (by omega)
    have himp : impl_ParsePosition k (bs (a ++ 58 :: r)) = (((if !(ok && decide (allok r)) then some true else (impl_IsPosition k v (r.map chv)).bind fun r16 => some (!r16) : Option Bool).bind fun s17 => (if s17 then some (.inr (0, none, 6)) else some (.inl ()) : Option (Sum Unit (Int × Option (List Int) × Int)))).bind fun os19 => match os19 with | .inl s19 => some (v, some (r.map chv), 0) | .inr rr => some rr) := by
      unfold impl_ParsePosition
      rw [cut_some a r ha hT, Option.bind_some, hv, Option.bind_some, impl_loop a r true ok k (by omega) (by omega), Option.bind_some]
      rfl
    by_cases hr : 58 ∈ r
    · refine ⟨0, none, 6, bad ps hps ?_, ?_, by simp⟩
      · rw [hpl]
        have h1 := List.count_pos_iff.2 hr
        simp only [List.count_append, List.count_cons]
        have : ((58 : UInt8) == 58) = true := rfl
        rw [this]; simp; omega
      · have hno : ¬ allok r := fun h => by
          have := h 58 hr
          rcases this with h | h | h <;> exact absurd h (by decide)
        rw [himp, decide_eq_false hno]
        cases ok <;> rfl
    · have hsp := split_two a r ha hr k (by omega) hT
      have hspec : spec_ParsePosition k (bs (a ++ 58 :: r)) = (spec_l09Read k (bs (a ++ 58 :: r))).bind fun r1 => if !r1.2.2 then some (0, [], 6) else some (r1.1, r1.2.1, 0) := rfl
      have hread : spec_l09Read k (bs (a ++ 58 :: r)) = if allok r then (spec_l01Number k (bs a)).bind fun r18 => (spec_l09Code k r18 (r.map chv)).bind fun r19 => if !decide (r19 = 0) then some (0, [], false) else some (r18, r.map chv, true) else some (0, [], false) := by
        unfold spec_l09Read
        rw [hsp, Option.bind_some, if_neg (by simp), read_loop a r k (by omega) (by omega), Option.bind_some]
        by_cases h : allok r
        · simp [h]
        · simp [h]
      by_cases h : allok r
      · rw [if_pos h] at hread
        have hlm : ((r.map chv).length : Int) ≤ 1099511627776 := by rw [List.length_map]; omega
        have hlk : (r.map chv).length + 1 ≤ k := by rw [List.length_map]; omega
        have code : ∀ n, spec_l09Code k n (r.map chv) = some (if sh n (r.map chv) then (if isPos n (r.map chv) then 0 else 1) else 2) := fun n => by
          unfold spec_l09Code
          rw [lists_eq k n _ hlk hlm]
          by_cases hs : sh n (r.map chv)
          · rw [specIs9_eq _ n hs k (by omega)]
            by_cases hi : isPos n (r.map chv) <;> simp [hs, hi]
          · simp [hs]
        have isp : ∀ n, impl_IsPosition k n (r.map chv) = some (decide (sh n (r.map chv) ∧ isPos n (r.map chv))) := fun n => by
          unfold impl_IsPosition
          rw [shape_eq k n _ hlk hlm]
          by_cases hs : sh n (r.map chv)
          · rw [isPosition_eq _ n hs k (by omega)]
            simp [hs]
          · simp [hs]
        by_cases hz : ∃ z : Nat, (1 ≤ z ∧ z ≤ 5) ∧ a = [UInt8.ofNat (48 + z)]
        · obtain ⟨z, hz, rfl⟩ := hz
          obtain ⟨e1, e2⟩ := num_small z hz k (by omega)
          rw [e2] at hv
          obtain ⟨rfl, rfl⟩ : (z : Int) = v ∧ true = ok := by simpa using hv
          by_cases hp : sh z (r.map chv) ∧ isPos z (r.map chv)
          · refine ⟨z, some (r.map chv), 0, ?_, ?_, ?_⟩
            · rw [hspec, hread, e1, Option.bind_some, code, if_pos hp.1, if_pos hp.2]; rfl
            · rw [himp, isp, decide_eq_true h, decide_eq_true hp]; rfl
            · have := tri5 z hp.1.1
              have h2 := hp.1.2.1
              simp only [Option.getD_some]; omega
          · refine ⟨0, none, 6, ?_, ?_, by simp⟩
            · rw [hspec, hread, e1, Option.bind_some, code]
              by_cases hs : sh z (r.map chv)
              · have hi : ¬ isPos z (r.map chv) := fun hi => hp ⟨hs, hi⟩
                rw [if_pos hs, if_neg hi]; rfl
              · rw [if_neg hs]; rfl
            · rw [himp, isp, decide_eq_true h, decide_eq_false hp]; rfl
        · obtain ⟨u, e1, hu⟩ := num_ex a (by omega) hz k (by omega)
          refine ⟨0, none, 6, ?_, ?_, by simp⟩
          · have hs : ¬ sh u (r.map chv) := fun hs => hu hs.1
            rw [hspec, hread, e1, Option.bind_some, code, if_neg hs]; rfl
          · rw [himp, isp, decide_eq_true h]
            cases ok with
            | false => rfl
            | true =>
              have hp : ¬ (sh v (r.map chv) ∧ isPos v (r.map chv)) := fun hp => hz (hv2 rfl hp.1.1)
              rw [decide_eq_false hp]; rfl
      · rw [if_neg h] at hread
        refine ⟨0, none, 6, by rw [hspec, hread]; rfl, ?_, by simp⟩
        rw [himp, decide_eq_false h]
        cases ok <;> rfl
  · refine ⟨0, none, 6, bad ps hps ?_, ?_, by simp⟩
    · rw [hpl, List.count_eq_zero.2 h58]; omega
    · obtain ⟨v, ok, hv, hv2⟩ := readN_ex T (by omega)
      unfold impl_ParsePosition
      rw [cut_none T h58, Option.bind_some, hv, Option.bind_some, impl_loop T [] false ok k (by simp; omega) (by simp), Option.bind_some]
      rfl

theorem parsePosition_pure (t : ByteArray) : ∃ k, laws_FnExactParsePosition k t = some true := by
  obtain ⟨k, hk⟩ : ∃ k, k = t.size + 400 := ⟨_, rfl⟩
  refine ⟨k, ?_⟩
  obtain ⟨T, hT⟩ : ∃ T, T = t.data.toList := ⟨_, rfl⟩
  have ht : t = bs T := by rw [hT]; exact bs_of t
  have hsz : t.size = T.length := by rw [ht, bs_size]
  unfold laws_FnExactParsePosition
  by_cases hl : (1048576 : Int) < (t.size : Int)
  · rw [if_pos (decide_eq_true hl)]
  rw [if_neg (by simpa using hl)]
  obtain ⟨n, o, e, h1, h2, h3⟩ := parse_same T (by omega) k (by omega)
  rw [← ht] at h1 h2
  rw [h1]
  simp only [Option.bind_some]
  rw [h2]
  simp only [Option.bind_some]
  cases o with
  | none =>
    simp only [Option.getD_none]
    rw [eqInts_refl k [] (by simp; omega) (by simp), mark_nil k (by omega), held_nil k (by omega)]
    simp
  | some l =>
    simp only [Option.getD_some] at h3 ⊢
    rw [eqInts_refl k l (by omega) (by omega), mark_eq k l (by omega) (by omega)]
    simp only [Option.bind_some]
    rw [held_eq k l.length (by omega) (by omega)]
    have : ¬ ((1 : Int) + l.length < 0) := by omega
    simp [this]
end Go.Proofs.YtmmiokljmfkoiaaDoor
