/- The plain law of FnExactColouringText: the program's answer is the reference's. No conditions beyond those that each lemma states. -/
import Derived.Test.YtmmiokljmfkoiaaDoorPureCore11
set_option linter.unusedVariables false
set_option linter.unusedSimpArgs false
namespace Go.Proofs.YtmmiokljmfkoiaaDoor
open Go Go.RowKit Ab

def bs (l : List UInt8) : ByteArray := ⟨l.toArray⟩
theorem bs_app (x : ByteArray) (a b : List UInt8) : (x ++ bs a) ++ bs b = x ++ bs (a ++ b) := by
  apply ByteArray.ext
  simp only [bs, ByteArray.data_append]
  rw [Array.append_assoc]
  simp
theorem bs_nil (x : ByteArray) : x ++ bs [] = x := by
  apply ByteArray.ext
  simp [bs, ByteArray.data_append]
theorem bs_size (a : List UInt8) : (bs a).size = a.length := by simp [bs, ByteArray.size]
theorem bs_list (a : List UInt8) : (bs a).data.toList = a := by simp [bs]

/-- A digit. -/
def dg (c : Int) : UInt8 := toByte (48 + c)

theorem dec_one (n : Int) (hn : 0 ≤ n ∧ n < 10) (k : Nat) : spec_l01Dec (k + 1) n = some (bs [dg n]) := by
  rw [spec_l01Dec, spec_l01Dec_body]
  have h1 : ¬ n < 0 := by omega
  have h2 : n < 10 := by omega
  simp only [h1, h2, decide_true, decide_false, Bool.false_eq_true, if_false, if_true]
  rw [w64_id (by omega)]; rfl

theorem dec_fuel (n : Int) (hn : 0 ≤ n ∧ n < 100) (k : Nat) : spec_l01Dec (k + 2) n = spec_l01Dec 2 n := by
  show spec_l01Dec_body (spec_l01Dec (k + 1)) (k + 1) n = spec_l01Dec_body (spec_l01Dec 1) 1 n
  unfold spec_l01Dec_body
  have h1 : ¬ n < 0 := by omega
  by_cases h2 : n < 10
  · simp only [h1, h2, decide_true, decide_false, Bool.false_eq_true, if_false, if_true]
  · have e : n.tdiv 10 = n / 10 := Int.tdiv_eq_ediv_of_nonneg hn.1
    have hq : 0 ≤ n / 10 ∧ n / 10 < 10 := by omega
    simp only [h1, h2, decide_false, Bool.false_eq_true, if_false]
    rw [e, w64_id (by omega), dec_one _ hq k, dec_one _ hq 0]

theorem dec_both (n : Int) (hn : 0 ≤ n ∧ n < 18) (k : Nat) (hk : 2 ≤ k) : ∃ d : ByteArray, d.size ≤ 2 ∧ spec_l01Dec k n = some d ∧ impl_decimal n = some d := by
  obtain ⟨k, rfl⟩ : ∃ k', k = k' + 2 := ⟨k - 2, by omega⟩
  rw [dec_fuel n (by omega)]
  obtain ⟨m, rfl⟩ := nat_of hn.1
  have : ∀ m : Nat, m < 18 → spec_l01Dec 2 (m : Int) = impl_decimal (m : Int) ∧ (impl_decimal (m : Int)).isSome = true ∧ ((impl_decimal (m : Int)).getD ByteArray.empty).size ≤ 2 := by decide +kernel
  obtain ⟨h1, h2, h3⟩ := this m (by omega)
  obtain ⟨d, hd⟩ := Option.isSome_iff_exists.1 h2
  rw [hd] at h1 h3
  exact ⟨d, h3, h1, hd⟩

theorem cc_lt (x : Col) (h : x.is) (i j : Int) (h0 : 0 ≤ i) (hij : i < j) (hj : j < x.p) : 0 ≤ x.cc i j ∧ x.cc i j < 4 := by
  obtain ⟨hp, hk, hE⟩ := h
  have hlt := eN_lt (i := i.toNat) (j := j.toNat) (n := x.p.toNat) (by omega) (by omega) (by omega)
  have h136 := eN_136 (i := i.toNat) (j := j.toNat) (by omega) (by omega) (by omega)
  have hT : tE x = (tri x.p.toNat : Int) := by
    unfold tE
    obtain ⟨m, hm⟩ := nat_of (show 0 ≤ x.p by omega)
    rw [hm]
    have : ∀ m : Nat, m < 18 → w64 ((w64 ((m : Int) * (w64 ((m : Int) - 1)))).tdiv 2) = (tri m : Int) := by decide +kernel
    rw [Int.toNat_natCast]
    exact this m (by omega)
  have := (hE (eN i.toNat j.toNat : Nat) (by omega) (by omega)).1 (by rw [hT]; omega)
  unfold Col.cc
  rw [Int.toNat_natCast] at this
  refine ⟨by omega, ?_⟩
  have h2 : ((x.get (eN i.toNat j.toNat)).toNat : Int) = ((x.e.get (eN i.toNat j.toNat)).toNat : Int) := rfl
  omega

/-- The row of point j; the first rows. -/
def rowT (x : Col) (j : Nat) : List UInt8 := (List.range j).map fun i : Nat => dg (x.cc i j)
def rowsT (x : Col) (m : Nat) : List (List UInt8) := (List.range m).map fun t => rowT x (t + 1)
theorem rowT_succ (f : Nat → UInt8) (m : Nat) : (List.range (m + 1)).map f = (List.range m).map f ++ [f m] := by simp [List.range_succ]
theorem rowsT_succ (x : Col) (m : Nat) : rowsT x (m + 1) = rowsT x m ++ [rowT x (m + 1)] := by simp [rowsT, List.range_succ]

theorem join_snoc (xs : List (List UInt8)) (y sep : List UInt8) (h : xs ≠ []) : Lib.join (xs ++ [y]) sep = Lib.join xs sep ++ sep ++ y := by
  cases xs with
  | nil => exact absurd rfl h
  | cons a l =>
    rw [List.cons_append, Lib.join_cons, Lib.join_cons]
    simp [Lib.joinTail, List.append_assoc]

def jT (x : Col) (m : Nat) : List UInt8 := Lib.join (rowsT x m) [44]
theorem jT_one (x : Col) : jT x 1 = rowT x 1 := by unfold jT rowsT; simp [Lib.join_one]
theorem jT_succ (x : Col) (m : Nat) (h : 1 ≤ m) : jT x (m + 1) = jT x m ++ [44] ++ rowT x (m + 1) := by
  unfold jT
  rw [rowsT_succ, join_snoc]
  intro e
  have : (rowsT x m).length = m := by simp [rowsT]
  rw [e] at this; simp at this; omega
theorem jT_len (x : Col) (m : Nat) (h : m ≤ 16) : (jT x m).length ≤ 18 * m := by
  induction m with
  | zero => simp [jT, rowsT, Lib.join_nil]
  | succ m ih =>
    by_cases h1 : m = 0
    · subst h1; rw [jT_one]; simp [rowT]
    · rw [jT_succ x m (by omega)]
      have := ih (by omega)
      simp [rowT]; omega

theorem specRow (x : Col) (hx : x.is) (m : Nat) (h1 : 1 ≤ m) (hm : (m : Int) < x.p) (s : ByteArray) (hs : s.size ≤ 400) (k : Nat) (hk : 40 ≤ k) : spec_l01Text_l1 k x m k s 0 = some (s ++ bs (rowT x m)) := by
  have hp := hx.1
  have := loopI (f := fun k' i (s : ByteArray) => spec_l01Text_l1 k x m k' s i) (m : Int) 0 (fun i r => i ≤ m ∧ r = s ++ bs ((List.range i.toNat).map fun i : Nat => dg (x.cc i m))) (fun r => r = s ++ bs (rowT x m)) ?_ ?_ k 0 s (by omega) (by omega) ⟨by omega, by simp [bs_nil]⟩
  · obtain ⟨r, e, rfl⟩ := this
    exact e
  · rintro k' i r h0 h1 ⟨_, q⟩
    left
    obtain ⟨a, rfl⟩ := nat_of h0
    have hc := cc_lt x hx a m (by omega) h1 hm
    have e1 : r.size ≤ 420 := by
      have e0 := bs_size ((List.range (a : Int).toNat).map fun i : Nat => dg (x.cc i m))
      rw [List.length_map, List.length_range, Int.toNat_natCast] at e0
      rw [q, ByteArray.size_append, Int.toNat_natCast, e0]; omega
    refine ⟨s ++ bs ((List.range (a + 1)).map fun i : Nat => dg (x.cc i m)), ?_, by omega, by rw [show ((a : Int) + 1).toNat = a + 1 by omega]⟩
    show spec_l01Text_l1 k x m (k' + 1) r a = _
    obtain ⟨k2, rfl⟩ : ∃ k2, k = k2 + 1 := ⟨k - 1, by omega⟩
    rw [spec_l01Text_l1, if_pos (decide_eq_true h1), specAt_eq x a m (by omega) h1 (by omega) (by omega), Option.bind_some, dec_one _ (by omega), Option.bind_some, w64_succ h0 h1 (by omega), if_pos (by rw [bs_size]; simp; omega), q, Int.toNat_natCast, bs_app, rowT_succ]
  · rintro k' i r h0 h1 ⟨q0, q⟩
    obtain rfl : i = m := by omega
    refine ⟨r, ?_, by rw [q, Int.toNat_natCast]; rfl⟩
    show spec_l01Text_l1 k x m (k' + 1) r m = _
    rw [spec_l01Text_l1]; simp

theorem specText (x : Col) (hx : x.is) (s : ByteArray) (hs : s.size ≤ 10) (k : Nat) (hk : 40 ≤ k) : spec_l01Text_l0 k x k s 1 = some (s ++ bs (jT x (x.p - 1).toNat)) := by
  have hp := hx.1
  have := loopI (f := fun k' j (s : ByteArray) => spec_l01Text_l0 k x k' s j) x.p 1 (fun j r => j ≤ x.p ∧ r = s ++ bs (jT x (j - 1).toNat)) (fun r => r = s ++ bs (jT x (x.p - 1).toNat)) ?_ ?_ k 1 s (by omega) (by omega) ⟨by omega, by simp [jT, rowsT, Lib.join_nil, bs_nil]⟩
  · obtain ⟨r, e, rfl⟩ := this
    exact e
  · rintro k' j r h0 h1 ⟨_, q⟩
    left
    obtain ⟨m, rfl⟩ : ∃ m : Nat, j = (m : Int) + 1 := ⟨(j - 1).toNat, by omega⟩
    rw [show ((m : Int) + 1 - 1).toNat = m by omega] at q
    have hl := jT_len x m (by omega)
    refine ⟨s ++ bs (jT x (m + 1)), ?_, by omega, by rw [show ((m : Int) + 1 + 1 - 1).toNat = m + 1 by omega]⟩
    show spec_l01Text_l0 k x (k' + 1) r ((m : Int) + 1) = _
    have hr : r.size ≤ 10 + 18 * m := by rw [q, ByteArray.size_append, bs_size]; omega
    have hrow := fun (t : ByteArray) (ht : t.size ≤ 400) => specRow x hx (m + 1) (by omega) (by omega) t ht k hk
    rw [spec_l01Text_l0, if_pos (decide_eq_true h1), w64_succ (by omega) h1 (by omega)]
    by_cases hm : m = 0
    · subst hm
      have : ¬ (1 : Int) < ((0 : Nat) : Int) + 1 := by omega
      rw [if_neg (by simp), Option.bind_some]
      have e := hrow r (by omega)
      rw [show ((0 + 1 : Nat) : Int) = ((0 : Nat) : Int) + 1 by omega] at e
      rw [e, Option.bind_some, q, jT_one]
      have : jT x 0 = [] := by simp [jT, rowsT, Lib.join_nil]
      rw [this, bs_app]; rfl
    · have h2 : (1 : Int) < (m : Int) + 1 := by omega
      have e44 : (⟨#[44]⟩ : ByteArray) = bs [44] := rfl
      rw [if_pos (decide_eq_true h2), e44, if_pos (by rw [bs_size]; show r.size + 1 ≤ 1099511627776; omega), Option.bind_some]
      have e := hrow (r ++ bs [44]) (by rw [ByteArray.size_append, bs_size]; show r.size + 1 ≤ 400; omega)
      rw [show ((m + 1 : Nat) : Int) = (m : Int) + 1 by omega] at e
      rw [e, Option.bind_some, q, bs_app, bs_app, jT_succ x m (by omega), List.append_assoc]
  · rintro k' j r h0 h1 ⟨q0, q⟩
    obtain rfl : j = x.p := by omega
    refine ⟨r, ?_, q⟩
    show spec_l01Text_l0 k x (k' + 1) r x.p = _
    rw [spec_l01Text_l0]; simp

theorem implRow (x : Col) (hx : x.is) (m : Nat) (hm : (m : Int) < x.p) (k : Nat) (hk : 40 ≤ k) : impl_Colouring_text_l1 x m k 0 [] = some (rowT x m) := by
  have hp := hx.1
  have := loopI (f := fun k' i (s : List UInt8) => impl_Colouring_text_l1 x m k' i s) (m : Int) 0 (fun i r => i ≤ m ∧ r = (List.range i.toNat).map fun i : Nat => dg (x.cc i m)) (fun r => r = rowT x m) ?_ ?_ k 0 [] (by omega) (by omega) ⟨by omega, by simp⟩
  · obtain ⟨r, e, rfl⟩ := this
    exact e
  · rintro k' i r h0 h1 ⟨_, q⟩
    left
    obtain ⟨a, rfl⟩ := nat_of h0
    have hc := cc_lt x hx a m (by omega) h1 hm
    have e1 : r.length ≤ 20 := by rw [q, List.length_map, List.length_range]; omega
    refine ⟨(List.range (a + 1)).map fun i : Nat => dg (x.cc i m), ?_, by omega, by rw [show ((a : Int) + 1).toNat = a + 1 by omega]⟩
    show impl_Colouring_text_l1 x m (k' + 1) a r = _
    rw [impl_Colouring_text_l1, if_pos (decide_eq_true h1), implAt_eq x a m (by omega) h1 (by omega) (by omega), Option.bind_some, w64_succ h0 h1 (by omega), if_pos (by simp; omega), w64_id (n := 48 + x.cc a m) (by omega), q, Int.toNat_natCast, rowT_succ]
    rfl
  · rintro k' i r h0 h1 ⟨q0, q⟩
    obtain rfl : i = m := by omega
    refine ⟨r, ?_, by rw [q, Int.toNat_natCast]; rfl⟩
    show impl_Colouring_text_l1 x m (k' + 1) m r = _
    rw [impl_Colouring_text_l1]; simp

theorem implRows (x : Col) (hx : x.is) (k : Nat) (hk : 40 ≤ k) : impl_Colouring_text_l0 k x k 1 [] = some ((rowsT x (x.p - 1).toNat).map bs) := by
  have hp := hx.1
  have := loopI (f := fun k' j (s : List ByteArray) => impl_Colouring_text_l0 k x k' j s) x.p 1 (fun j r => j ≤ x.p ∧ r = (rowsT x (j - 1).toNat).map bs) (fun r => r = (rowsT x (x.p - 1).toNat).map bs) ?_ ?_ k 1 [] (by omega) (by omega) ⟨by omega, by simp [rowsT]⟩
  · obtain ⟨r, e, rfl⟩ := this
    exact e
  · rintro k' j r h0 h1 ⟨_, q⟩
    left
    obtain ⟨m, rfl⟩ : ∃ m : Nat, j = (m : Int) + 1 := ⟨(j - 1).toNat, by omega⟩
    rw [show ((m : Int) + 1 - 1).toNat = m by omega] at q
    refine ⟨(rowsT x (m + 1)).map bs, ?_, by omega, by rw [show ((m : Int) + 1 + 1 - 1).toNat = m + 1 by omega]⟩
    show impl_Colouring_text_l0 k x (k' + 1) ((m : Int) + 1) r = _
    have e := implRow x hx (m + 1) (by omega) k hk
    rw [show ((m + 1 : Nat) : Int) = (m : Int) + 1 by omega] at e
    have hr : r.length = m := by rw [q, List.length_map]; simp [rowsT]
    rw [impl_Colouring_text_l0, if_pos (decide_eq_true h1), w64_succ (by omega) h1 (by omega), e, Option.bind_some, if_pos (by simp; omega), Option.bind_some, rowsT_succ, List.map_append, q]
    rfl
  · rintro k' j r h0 h1 ⟨q0, q⟩
    obtain rfl : j = x.p := by omega
    refine ⟨r, ?_, q⟩
    show impl_Colouring_text_l0 k x (k' + 1) x.p r = _
    rw [impl_Colouring_text_l0]; simp

theorem texts (x : Col) (hx : x.is) (k : Nat) (hk : 40 ≤ k) : ∃ t, spec_l01Text k x = some t ∧ impl_Colouring_text k x = some t := by
  have hp := hx.1
  have hq := hx.2.1
  unfold spec_l01Text impl_Colouring_text
  obtain ⟨a, a1, a2, a3⟩ := dec_both x.p (by omega) k (by omega)
  obtain ⟨b, b1, b2, b3⟩ := dec_both x.k (by omega) k (by omega)
  have e44 : (⟨#[44]⟩ : ByteArray) = bs [44] := rfl
  have e58 : (⟨#[58]⟩ : ByteArray) = bs [58] := rfl
  have s1 : (a ++ bs [44]).size ≤ 3 := by rw [ByteArray.size_append, bs_size]; show a.size + 1 ≤ 3; omega
  have s2 : ((a ++ bs [44]) ++ b).size ≤ 5 := by rw [ByteArray.size_append]; omega
  have s3 : (((a ++ bs [44]) ++ b) ++ bs [58]).size ≤ 6 := by rw [ByteArray.size_append, bs_size]; show _ + 1 ≤ 6; omega
  have hl := jT_len x (x.p - 1).toNat (by omega)
  have hj : joinL ((rowsT x (x.p - 1).toNat).map bs) (bs [44]) = jT x (x.p - 1).toNat := by
    unfold joinL jT
    rw [List.map_map, bs_list]
    congr 1
    refine (List.map_congr_left fun l _ => ?_).trans (List.map_id _)
    exact bs_list l
  have hjs : joinS ((rowsT x (x.p - 1).toNat).map bs) (bs [44]) = some (bs (jT x (x.p - 1).toNat)) := by
    unfold joinS
    rw [hj, if_pos ⟨by simp [rowsT]; omega, by omega⟩]; rfl
  refine ⟨(((a ++ bs [44]) ++ b) ++ bs [58]) ++ bs (jT x (x.p - 1).toNat), ?_, ?_⟩
  · rw [a2, Option.bind_some, e44, e58, if_pos (by rw [bs_size]; show a.size + 1 ≤ 1099511627776; omega), b2, Option.bind_some, if_pos (by omega), if_pos (by rw [bs_size]; show _ + 1 ≤ 1099511627776; omega), specText x hx _ (by omega) k hk]
    rfl
  · rw [implRows x hx k hk, Option.bind_some, a3, Option.bind_some, e44, e58, if_pos (by rw [bs_size]; show a.size + 1 ≤ 1099511627776; omega), b3, Option.bind_some, if_pos (by omega), if_pos (by rw [bs_size]; show _ + 1 ≤ 1099511627776; omega), hjs, Option.bind_some, if_pos (by rw [bs_size (jT x (x.p - 1).toNat)]; omega)]

theorem colouringText_pure (x : Col) : laws_FnExactColouringText 300 x = some true := by
  classical
  unfold laws_FnExactColouringText spec_ColouringText impl_ColouringText impl_Colouring_code impl_always
  rw [toColouring_eq 300 (by omega)]
  simp only [Option.bind_some]
  rw [specIs_eq 300 (by omega), isColouring_eq 300 (by omega)]
  have hb : ∀ b : ByteArray, (b == b) = true := fun b => by rcases b with ⟨a⟩; show (a == a) = true; simp
  by_cases h : x.is
  · obtain ⟨t, h1, h2⟩ := texts x h 300 (by omega)
    simp [h, h1, h2, letO, hb]
  · simp [h, letO, hb]
end Go.Proofs.YtmmiokljmfkoiaaDoor
