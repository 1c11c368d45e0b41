/- The game: lists of moves, the position behind a move and results by both sides; draws of positions; texts read back. No conditions beyond those that each lemma states. -/
import Derived.Test.YtkonbaijkcaehaaGreatDoorPurePlay24
set_option linter.unusedVariables false
set_option linter.unusedSimpArgs false
namespace Go.Proofs.YtkonbaijkcaehaaGreatDoor
open Go Go.RowKit Ab

open Classical in
noncomputable def mvs (n : Int) (l : List Int) : List Int := if 0 ≤ res n l then [] else fl (fre l) l.length
open Classical in
noncomputable def safeB (n : Int) (l : List Int) (a : Nat) : Bool := decide (¬ anyT n (l.set a (mov l)) (mov l))
open Classical in
noncomputable def sfe (n : Int) (l : List Int) : List Int := if 0 ≤ res n l then [] else fl (fun a => fre l a && safeB n l a) l.length

theorem cod_zero {n : Int} {l : List Int} (h : cod n l = 0) : sh n l ∧ isPos n l := by
  unfold cod at h
  split at h
  · split at h
    · exact ⟨by assumption, by assumption⟩
    · omega
  · omega
theorem cod_pos {n : Int} {l : List Int} (h1 : sh n l) (h2 : isPos n l) : cod n l = 0 := by
  unfold cod; rw [if_pos h1, if_pos h2]
theorem isPos.range {n : Int} {l : List Int} (h : isPos n l) : 0 ≤ mov l ∧ mov l ≤ 1 := h.1

theorem mvs_length (n : Int) (l : List Int) : (mvs n l).length ≤ l.length := by
  unfold mvs; split
  · simp
  · exact fl_length _ _
theorem sfe_length (n : Int) (l : List Int) : (sfe n l).length ≤ l.length := by
  unfold sfe; split
  · simp
  · exact fl_length _ _

theorem specMoves_val {n : Int} {l : List Int} (hs : sh n l) (k : Nat) (hk : 300 ≤ k) : spec_l09Moves k n l = some (mvs n l) := by
  have h10 := sh10 hs
  unfold spec_l09Moves mvs
  rw [(result_val hs k (by omega)).2, Option.bind_some]
  by_cases h : 0 ≤ res n l
  · rw [if_pos (decide_eq_true h), if_pos h]
  · rw [if_neg (by simpa using h), if_neg h, free_val l k (by omega) (by omega)]; rfl

theorem moves_val (n : Int) (l : List Int) (hl : l.length ≤ 100) (k : Nat) (hk : 300 ≤ k) : ∃ o, impl_MovesOf k n l = some (o, cod n l) ∧ spec_MovesOf k n l = some (o.getD [], cod n l) ∧ (cod n l = 0 → o = some (mvs n l)) ∧ (o.getD []).length ≤ 100 := by
  unfold impl_MovesOf spec_MovesOf impl_always
  rw [implCode_val n l true k hk hl, specCode_val n l k hk hl]
  simp only [Option.bind_some, if_true]
  by_cases h : cod n l = 0
  · obtain ⟨hs, hp⟩ := cod_zero h
    have h10 := sh10 hs
    refine ⟨some (mvs n l), ?_, ?_, fun _ => rfl, by simp only [Option.getD_some]; have := mvs_length n l; omega⟩
    · rw [h]
      unfold impl_position_movesThat
      rw [(result_val hs k (by omega)).1, Option.bind_some]
      unfold mvs
      by_cases h0 : 0 ≤ res n l
      · simp [h0]
      · rw [if_neg (by simp), if_neg (by simpa using h0), that_loop n l _ (fun _ => true) (fun a _ _ => rfl) k (by omega) (by omega), if_neg h0]
        simp
    · rw [h, specMoves_val hs k hk]
      simp
  · refine ⟨none, ?_, ?_, fun e => absurd e h, by simp⟩
    · rw [if_pos (by simpa using h)]
    · rw [if_pos (by simpa using h)]; rfl

theorem implSafe1 {n : Int} {l : List Int} (hs : sh n l) (hp : isPos n l) (k : Nat) (hk : 300 ≤ k) (a : Nat) (ha : a < l.length) : impl_SafeMoves_c1 k a ⟨n, l⟩ = some (safeB n l a) := by
  have h10 := sh10 hs
  have hr := hp.range
  unfold impl_SafeMoves_c1
  rw [(moved_val n l a ha h10 k (by omega)).1, Option.bind_some, (mover_val n l h10 k (by omega)).1, Option.bind_some]
  obtain ⟨R, e, t, _⟩ := triangles_eq (l.set a (mov l)) (mov l) n (sh_set hs a _ ha (by omega)) k (by omega)
  rw [e, Option.bind_some]
  have := nil_iff t
  unfold safeB
  congr 1
  apply decide_eq_decide.2
  rw [← this]
  omega

theorem specSafe_loop {n : Int} {l : List Int} (hs : sh n l) (hp : isPos n l) (k : Nat) (hk : 300 ≤ k) (g : Nat → Bool) : spec_SafeMoves_l0 k n l (fl g l.length) k 0 [] = some ((fl g l.length).filter fun x => safeB n l x.toNat) := by
  have h10 := sh10 hs
  have hr := hp.range
  have hR := fl_length g l.length
  have hmem : ∀ i : Nat, i < (fl g l.length).length → ∃ a, a < l.length ∧ (fl g l.length).getD i 0 = (a : Int) := fun i hi => by
    have : (fl g l.length).getD i 0 ∈ fl g l.length := mem_getD.2 ⟨i, hi, rfl⟩
    obtain ⟨a, h1, _, h2⟩ := (fl_mem _ _ _).1 this
    exact ⟨a, h1, h2⟩
  generalize fl g l.length = R at *
  have := loopI (f := fun k' i (s : List Int) => spec_SafeMoves_l0 k n l R k' i s) (R.length : Int) 0 (fun i s => i ≤ R.length ∧ s = (R.take i.toNat).filter fun x => safeB n l x.toNat) (fun s => s = R.filter fun x => safeB n l x.toNat) ?_ ?_ k 0 [] (by omega) (by omega) ⟨by omega, by simp⟩
  · obtain ⟨s, e, rfl⟩ := this
    exact e
  · rintro k' i s h0 h1 ⟨q1, rfl⟩
    left
    refine ⟨(R.take (i + 1).toNat).filter fun x => safeB n l x.toNat, ?_, by omega, rfl⟩
    show spec_SafeMoves_l0 k n l R (k' + 1) i _ = _
    rw [spec_SafeMoves_l0, w64_succ h0 h1 (by omega)]
    obtain ⟨a, ha, ea⟩ := hmem i.toNat (by omega)
    obtain ⟨r, e3, c⟩ := common_eq (l.set a (mov l)) (mov l) n (sh_set hs a _ ha (by omega)) k (by omega)
    have hz := zero_iff c
    rw [if_pos (decide_eq_true h1), if_pos ⟨h0, h1⟩, ea, (moved_val n l a ha h10 k (by omega)).2, Option.bind_some, (mover_val n l h10 k (by omega)).2, Option.bind_some, e3, Option.bind_some]
    rw [show (i + 1).toNat = i.toNat + 1 by omega, List.take_succ_eq_append_getElem (show i.toNat < R.length by omega), List.filter_append]
    have eR : R[i.toNat]'(by omega) = (a : Int) := by rw [← ea]; simp [show i.toNat < R.length by omega]
    rw [eR]
    have hlen : ((R.take i.toNat).filter fun x => safeB n l x.toNat).length ≤ 10 := Nat.le_trans (List.length_filter_le _ _) (by simp; omega)
    have h00 : 0 ≤ r.2 := c.2.1
    by_cases h : anyT n (l.set a (mov l)) (mov l)
    · have h2 := hz.2 h
      have : safeB n l (a : Int).toNat = false := by unfold safeB; simp [h]
      have hf : [(a : Int)].filter (fun x => safeB n l x.toNat) = [] := by rw [List.filter_cons, if_neg (by rw [this]; simp)]; rfl
      rw [if_neg (by simp only [decide_eq_true_eq]; omega), hf, List.append_nil]
      rfl
    · have h2 : ¬ 0 < r.2 := fun h3 => h (hz.1 h3)
      have : safeB n l (a : Int).toNat = true := by unfold safeB; simp [h]
      have hf : [(a : Int)].filter (fun x => safeB n l x.toNat) = [(a : Int)] := by rw [List.filter_cons, if_pos this]; rfl
      rw [if_pos (decide_eq_true (by omega)), if_pos ⟨h0, h1⟩, if_pos (by simp only [List.length_singleton]; omega), hf]
      rfl
  · rintro k' i s h0 h1 ⟨q1, rfl⟩
    have hi : i = R.length := by omega
    subst hi
    refine ⟨R.filter fun x => safeB n l x.toNat, ?_, rfl⟩
    show spec_SafeMoves_l0 k n l R (k' + 1) _ _ = _
    rw [spec_SafeMoves_l0, Int.toNat_natCast, List.take_length]; simp

theorem safe_val (n : Int) (l : List Int) (hl : l.length ≤ 100) (k : Nat) (hk : 300 ≤ k) : ∃ o, impl_SafeMoves k n l = some (o, cod n l) ∧ spec_SafeMoves k n l = some (o.getD [], cod n l) ∧ (cod n l = 0 → o = some (sfe n l)) ∧ (o.getD []).length ≤ 100 := by
  unfold impl_SafeMoves spec_SafeMoves impl_always
  rw [implCode_val n l true k hk hl, specCode_val n l k hk hl]
  simp only [Option.bind_some, if_true]
  by_cases h : cod n l = 0
  · obtain ⟨hs, hp⟩ := cod_zero h
    have h10 := sh10 hs
    refine ⟨some (sfe n l), ?_, ?_, fun _ => rfl, by simp only [Option.getD_some]; have := sfe_length n l; omega⟩
    · rw [h]
      unfold impl_position_movesThat
      rw [(result_val hs k (by omega)).1, Option.bind_some]
      unfold sfe
      by_cases h0 : 0 ≤ res n l
      · simp [h0]
      · rw [if_neg (by simp), if_neg (by simpa using h0), that_loop n l _ (safeB n l) (fun a ha _ => implSafe1 hs hp k hk a ha) k (by omega) (by omega), if_neg h0]
        simp
    · rw [h, specMoves_val hs k hk, if_neg (by simp), Option.bind_some]
      unfold mvs sfe
      by_cases h0 : 0 ≤ res n l
      · rw [if_pos h0, if_pos h0]
        have := specSafe_loop hs hp k hk (fun _ => false)
        have e : fl (fun _ => false) l.length = [] := by unfold fl; simp
        rw [e] at this
        rw [this]; rfl
      · rw [if_neg h0, if_neg h0, specSafe_loop hs hp k hk (fre l), fl_filter]
        simp
  · refine ⟨none, ?_, ?_, fun e => absurd e h, by simp⟩
    · rw [if_pos (by simpa using h)]
    · rw [if_pos (by simpa using h)]; rfl

theorem resultOf_val (n : Int) (l : List Int) (hl : l.length ≤ 100) (k : Nat) (hk : 300 ≤ k) : ∃ v, impl_ResultOf k n l = some (v, cod n l) ∧ spec_ResultOf k n l = some (v, cod n l) ∧ (cod n l = 0 → v = res n l) := by
  unfold impl_ResultOf spec_ResultOf impl_always
  rw [implCode_val n l true k hk hl, specCode_val n l k hk hl]
  simp only [Option.bind_some, if_true]
  by_cases h : cod n l = 0
  · obtain ⟨hs, hp⟩ := cod_zero h
    obtain ⟨e1, e2⟩ := result_val hs k (by omega)
    exact ⟨res n l, by rw [h, e1]; simp, by rw [h, e2]; simp, fun _ => rfl⟩
  · exact ⟨0, by rw [if_pos (by simpa using h)], by rw [if_pos (by simpa using h)], fun e => absurd e h⟩

theorem moverOf_val (n : Int) (l : List Int) (hl : l.length ≤ 100) (k : Nat) (hk : 300 ≤ k) : ∃ v, impl_MoverOf k n l = some (v, cod n l) ∧ spec_MoverOf k n l = some (v, cod n l) ∧ (cod n l = 0 → v = mov l) := by
  unfold impl_MoverOf spec_MoverOf impl_always
  rw [implCode_val n l true k hk hl, specCode_val n l k hk hl]
  simp only [Option.bind_some, if_true]
  by_cases h : cod n l = 0
  · obtain ⟨hs, hp⟩ := cod_zero h
    obtain ⟨e1, e2⟩ := mover_val n l (sh10 hs) k (by omega)
    exact ⟨mov l, by rw [h, e1]; simp, by rw [h, e2]; simp, fun _ => rfl⟩
  · exact ⟨0, by rw [if_pos (by simpa using h)], by rw [if_pos (by simpa using h)], fun e => absurd e h⟩

/-! ### The position behind a move -/
theorem make_val (n : Int) (l : List Int) (e : Int) (hl : l.length ≤ 100) (k : Nat) (hk : 300 ≤ k) : ∃ r c, impl_MakeMove k n l e = some (r, c) ∧ spec_MakeMove k n l e = some (r, c) ∧ r.length ≤ 100 ∧
    (sh n l → isPos n l → res n l < 0 → (0 ≤ e ∧ e < l.length) → l.getD e.toNat 0 < 0 → c = 0 ∧ r = l.set e.toNat (mov l)) := by
  unfold impl_MakeMove spec_MakeMove impl_MakeMove_c1 impl_size
  rw [implCode_val n l _ k hk hl, lists_eq k n l (by omega) (by omega), in_eq, specIn_eq]
  rw [w64_id (n := (l.length : Int) - 1) (by omega)]
  simp only [Option.bind_some, letO]
  by_cases hs : sh n l
  · rw [if_pos hs]
    have h10 := sh10 hs
    by_cases hb : 0 ≤ e ∧ e ≤ (l.length : Int) - 1
    · rw [decide_eq_true hb]
      simp only [if_true, decide_true, Bool.not_true, Bool.false_eq_true, if_false]
      rw [specCode_val n l k hk hl, Option.bind_some]
      by_cases hp : isPos n l
      · rw [cod_pos hs hp]
        obtain ⟨e1, e2⟩ := result_val hs k (by omega)
        simp only [decide_true, if_true]
        rw [e1, e2]
        simp only [Option.bind_some]
        obtain ⟨a, rfl⟩ : ∃ a : Nat, e = a := ⟨e.toNat, by omega⟩
        by_cases hq : 0 ≤ res n l
        · refine ⟨[], 5, ?_, ?_, by simp, fun _ _ h => by omega⟩ <;> simp [hq]
        · rw [if_neg (by simpa using hq), if_pos ⟨hb.1, by omega⟩]
          by_cases hf : 0 ≤ l.getD a 0
          · refine ⟨[], 5, ?_, ?_, by simp, fun _ _ _ _ h => by rw [Int.toNat_natCast] at h; omega⟩
            · rw [Int.toNat_natCast, decide_eq_true hf]; rfl
            · rw [Int.toNat_natCast, decide_eq_true hf]; rfl
          · obtain ⟨m1, m2⟩ := moved_val n l a (by omega) h10 k (by omega)
            refine ⟨l.set a (mov l), 0, ?_, ?_, by simp; omega, fun _ _ _ _ _ => ⟨rfl, by rw [Int.toNat_natCast]⟩⟩
            · rw [Int.toNat_natCast, decide_eq_false hf]
              simp only [Option.bind_some, Bool.false_eq_true, if_false, decide_true, Bool.not_true, m1]
            · rw [Int.toNat_natCast, decide_eq_false hf]
              simp only [Option.bind_some, Bool.false_eq_true, if_false, decide_true, Bool.not_true, m2, if_true]
      · have hc : cod n l = 1 := by unfold cod; rw [if_pos hs, if_neg hp]
        rw [hc]
        exact ⟨[], 1, by simp, by simp, by simp, fun _ h => absurd h hp⟩
    · rw [decide_eq_false hb]
      exact ⟨[], 2, by simp, by simp, by simp, fun _ _ _ h => absurd ⟨h.1, by omega⟩ hb⟩
  · have hc : cod n l = 2 := by unfold cod; rw [if_neg hs]
    rw [if_neg hs, hc]
    refine ⟨[], 2, ?_, ?_, by simp, fun h => absurd h hs⟩
    · simp
    · simp

/-! ### Texts read back -/
theorem chv_sgn (l : List Int) (h : ∀ a : Nat, a < l.length → -1 ≤ l.getD a 0 ∧ l.getD a 0 ≤ 1) : (l.map sgn).map chv = l ∧ allok (l.map sgn) ∧ (58 : UInt8) ∉ l.map sgn := by
  have hm : ∀ z ∈ l, -1 ≤ z ∧ z ≤ 1 := fun z hz => by
    obtain ⟨a, h1, h2⟩ := mem_getD.1 hz
    have := h a h1
    omega
  have h3 : ∀ z : Int, -1 ≤ z ∧ z ≤ 1 → chv (sgn z) = z ∧ okc (sgn z) ∧ sgn z ≠ 58 := fun z hz => by
    rcases (show z = -1 ∨ z = 0 ∨ z = 1 by omega) with rfl | rfl | rfl
    · exact ⟨by decide, .inl (by decide), by decide⟩
    · exact ⟨by decide, .inr (.inl (by decide)), by decide⟩
    · exact ⟨by decide, .inr (.inr (by decide)), by decide⟩
  refine ⟨?_, fun c hc => ?_, fun hc => ?_⟩
  · rw [List.map_map]
    conv => rhs; rw [← List.map_id l]
    exact List.map_congr_left fun z hz => (h3 z (hm z hz)).1
  · obtain ⟨z, hz, rfl⟩ := List.mem_map.1 hc
    exact (h3 z (hm z hz)).2.1
  · obtain ⟨z, hz, e⟩ := List.mem_map.1 hc
    exact (h3 z (hm z hz)).2.2 e

theorem parse_pos {n : Int} {l : List Int} (hs : sh n l) (hp : isPos n l) (k : Nat) (hk : 400 ≤ k) :
    impl_ParsePosition k (((⟨[toByte (48 + n)].toArray⟩ : ByteArray) ++ (⟨#[58]⟩ : ByteArray)) ++ ⟨(l.map sgn).toArray⟩) = some (n, some l, 0) := by
  classical
  have h10 := sh10 hs
  obtain ⟨z, hz, rfl⟩ : ∃ z : Nat, (1 ≤ z ∧ z ≤ 5) ∧ n = (z : Int) := ⟨n.toNat, by have := hs.1; omega, by have := hs.1; omega⟩
  obtain ⟨c1, c2, c3⟩ := chv_sgn l hs.2.2
  have hc : toByte (48 + (z : Int)) = UInt8.ofNat (48 + z) ∧ (58 : UInt8) ∉ [UInt8.ofNat (48 + z)] := by
    rcases (show z = 1 ∨ z = 2 ∨ z = 3 ∨ z = 4 ∨ z = 5 by omega) with rfl | rfl | rfl | rfl | rfl <;> exact ⟨by decide, by decide⟩
  have ht : (((⟨[toByte (48 + (z : Int))].toArray⟩ : ByteArray) ++ (⟨#[58]⟩ : ByteArray)) ++ ⟨(l.map sgn).toArray⟩) = bs ([UInt8.ofNat (48 + z)] ++ 58 :: l.map sgn) := by
    rw [hc.1, show (⟨#[58]⟩ : ByteArray) = ⟨([58] : List UInt8).toArray⟩ from rfl, tx_app]
    unfold bs
    apply ByteArray.ext
    simp [ByteArray.data_append]
  rw [ht]
  unfold impl_ParsePosition
  rw [cut_some [UInt8.ofNat (48 + z)] (l.map sgn) hc.2 (by simp; omega), Option.bind_some, (num_small z hz k (by omega)).2, Option.bind_some, impl_loop _ _ true true k (by simp; omega) (by simp; omega), Option.bind_some, c1, decide_eq_true c2]
  obtain ⟨b, e1, _, hb⟩ := isPos_val z l k (by omega) (by omega)
  rw [hb hs hp] at e1
  simp only [Bool.not_true, Bool.false_eq_true, if_false, Bool.and_self, e1, Option.bind_some]
end Go.Proofs.YtkonbaijkcaehaaGreatDoor
