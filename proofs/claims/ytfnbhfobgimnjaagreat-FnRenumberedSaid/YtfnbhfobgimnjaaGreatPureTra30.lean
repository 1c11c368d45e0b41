/- Plain laws: sets of points renumbered, cliques and their numbers. No conditions beyond those that each lemma states. -/
import Derived.Test.YtfnbhfobgimnjaaGreatPureClqM30
set_option linter.unusedVariables false
set_option linter.unusedSimpArgs false
namespace Go.Proofs.YtfnbhfobgimnjaaGreat
open Go Go.RowKit Ab

/-! ### Lists without twice the same -/
theorem sub_len {α : Type} [BEq α] [LawfulBEq α] : ∀ (A B : List α), A.Nodup → (∀ a ∈ A, a ∈ B) → A.length ≤ B.length
  | [], B, _, _ => by simp
  | a :: t, B, hn, h => by
    obtain ⟨h1, h2⟩ := List.nodup_cons.1 hn
    have ha := h a (by simp)
    have := sub_len t (B.erase a) h2 fun b hb => (List.mem_erase_of_ne (fun e => h1 (by rw [← e]; exact hb))).2 (h b (by simp [hb]))
    rw [List.length_erase_of_mem ha] at this
    have := List.length_pos_of_mem ha
    simp only [List.length_cons]
    omega
theorem nodup_map_on {α β : Type} (f : α → β) (L : List α) (hn : L.Nodup) (hf : ∀ a ∈ L, ∀ b ∈ L, f a = f b → a = b) : (L.map f).Nodup := by
  unfold List.Nodup
  rw [List.pairwise_map]
  exact List.Pairwise.imp_of_mem (fun ha hb hne e => hne (hf _ ha _ hb e)) hn
theorem cl_nodup {adj : Int → Int → Bool} : ∀ (l : List Int), l.Nodup → ∀ m, (cl adj m l).Nodup := by
  refine len_ind fun l ih hn m => ?_
  cases m with
  | zero => rw [cl_zero]; simp
  | succ m =>
    cases l with
    | nil => rw [cl_nil]; simp
    | cons v t =>
      obtain ⟨h1, h2⟩ := List.nodup_cons.1 hn
      rw [cl_cons, List.nodup_append]
      refine ⟨nodup_map_on _ _ (ih (t.filter (adj v)) (flt_lt (adj := adj) v t) (h2.sublist List.filter_sublist) m) (fun a _ b _ e => by simpa using e), ih t (by simp) h2 (m + 1), fun a ha b hb e => ?_⟩
      subst e
      obtain ⟨q, _, rfl⟩ := List.mem_map.1 ha
      have := ((mem_cl _ _ _ _).1 hb).1.subset (by simp : v ∈ v :: q)
      exact h1 this

/-! ### Sets of points renumbered -/
def fz (l : List Int) (z : Int) : Int := l.getD z.toNat 0
def img (l : List Int) (N : Nat) (Z : List Int) : List Int := (ir 0 N).filter fun q => decide (q ∈ Z.map (fz l))
section
variable {l : List Int} {N : Nat} (ho : isOrd l N)
include ho
theorem fz_range {z : Int} (h0 : 0 ≤ z) (h1 : z < N) : 0 ≤ fz l z ∧ fz l z < N := by
  obtain ⟨a, e, ha⟩ := ord_at ho (i := z.toNat) (by omega)
  unfold fz
  omega
theorem fz_inj {a b : Int} (h0 : 0 ≤ a) (h1 : a < N) (h2 : 0 ≤ b) (h3 : b < N) (e : fz l a = fz l b) : a = b := by
  have := ord_ne ho (i := a.toNat) (j := b.toNat) (by omega) (by omega) e
  omega
theorem fz_nodup {Z : List Int} (hz : ∀ z ∈ Z, 0 ≤ z ∧ z < N) (hn : Z.Nodup) : (Z.map (fz l)).Nodup :=
  nodup_map_on _ _ hn fun a ha b hb e => fz_inj ho (hz a ha).1 (hz a ha).2 (hz b hb).1 (hz b hb).2 e
theorem mem_img {Z : List Int} (hz : ∀ z ∈ Z, 0 ≤ z ∧ z < N) {q : Int} : q ∈ img l N Z ↔ ∃ z ∈ Z, fz l z = q := by
  unfold img
  rw [List.mem_filter, decide_eq_true_eq, List.mem_map]
  constructor
  · exact fun h => h.2
  · rintro ⟨z, h1, rfl⟩
    have := fz_range ho (hz z h1).1 (hz z h1).2
    exact ⟨mem_ir.2 (by omega), z, h1, rfl⟩
theorem img_len {Z : List Int} (hz : ∀ z ∈ Z, 0 ≤ z ∧ z < N) (hn : Z.Nodup) : (img l N Z).length = Z.length := by
  have hp : (img l N Z).Perm (Z.map (fz l)) := (List.perm_ext_iff_of_nodup ((ir_nodup 0 N).sublist List.filter_sublist) (fz_nodup ho hz hn)).2 fun q => by
    rw [List.mem_map]
    exact mem_img ho hz
  rw [hp.length_eq, List.length_map]
theorem img_inj {Z W : List Int} (hz : ∀ z ∈ Z, 0 ≤ z ∧ z < N) (hw : ∀ z ∈ W, 0 ≤ z ∧ z < N) (h1 : Z.Pairwise (· < ·)) (h2 : W.Pairwise (· < ·)) (e : img l N Z = img l N W) : Z = W := by
  refine pw_ext _ _ h1 h2 fun q => ?_
  have key : ∀ A B : List Int, (∀ z ∈ A, 0 ≤ z ∧ z < N) → (∀ z ∈ B, 0 ≤ z ∧ z < N) → img l N A = img l N B → ∀ q ∈ A, q ∈ B := fun A B ha hb e q hq => by
    have : fz l q ∈ img l N A := (mem_img ho ha).2 ⟨q, hq, rfl⟩
    rw [e] at this
    obtain ⟨z, h3, h4⟩ := (mem_img ho hb).1 this
    have := fz_inj ho (hb z h3).1 (hb z h3).2 (ha q hq).1 (ha q hq).2 h4
    rw [← this]; exact h3
  exact ⟨key Z W hz hw e q, key W Z hw hz e.symm q⟩
end
theorem img_sub (l : List Int) (N : Nat) (Z : List Int) : (img l N Z).Sublist (ir 0 N) := List.filter_sublist

theorem pts_in {x : Col} {Z : List Int} (h : Z.Sublist (pts x)) : ∀ z ∈ Z, 0 ≤ z ∧ z < (x.p.toNat : Int) := fun z hz => by
  have := mem_ir.1 (h.subset hz)
  omega
theorem ord_nat {x : Col} (hp : 1 ≤ x.p ∧ x.p ≤ 17) {l : List Int} (ho : isOrd l x.p) : isOrd l (x.p.toNat : Int) := by
  rw [show ((x.p.toNat : Nat) : Int) = x.p by omega]; exact ho
theorem ren_p (x : Col) {l : List Int} (h : x.is) (ho : isOrd l x.p) : (ren x l).p = x.p := (ren_RI h.1 ho).p
theorem ren_k (x : Col) {l : List Int} (h : x.is) (ho : isOrd l x.p) : (ren x l).k = x.k := (ren_RI h.1 ho).k
theorem aB_ren {x : Col} (h : x.is) {l : List Int} (ho : isOrd l x.p) (c : Int) {a b : Int} (ha : 0 ≤ a ∧ a < x.p) (hb : 0 ≤ b ∧ b < x.p) (hab : a ≠ b) : aB (ren x l) c (fz l a) (fz l b) = aB x c a b := by
  have hp := h.1
  have hne : fz l a ≠ fz l b := fun e => hab (fz_inj (ord_nat hp ho) ha.1 (by omega) hb.1 (by omega) e)
  have := ren_cc h ho (a := a.toNat) (b := b.toNat) (by omega) (by omega) (by omega)
  rw [show ((a.toNat : Nat) : Int) = a by omega, show ((b.toNat : Nat) : Int) = b by omega] at this
  unfold aB
  rw [decide_eq_decide]
  unfold fz at hne ⊢
  rw [this]
  exact ⟨fun q => ⟨hab, q.2⟩, fun q => ⟨hne, q.2⟩⟩
theorem cl_img {x : Col} (h : x.is) {l : List Int} (ho : isOrd l x.p) (c : Int) {m : Nat} {Z : List Int} (hZ : Z ∈ cl (aB x c) m (pts x)) : img l x.p.toNat Z ∈ cl (aB (ren x l) c) m (pts (ren x l)) := by
  have hp := h.1
  have on := ord_nat hp ho
  obtain ⟨h1, h2, h3⟩ := (mem_cl _ _ _ _).1 hZ
  have hin := pts_in h1
  have hlt : Z.Pairwise (· < ·) := ir_pair.sublist h1
  have hnd : Z.Nodup := hlt.imp fun h => by omega
  rw [mem_cl]
  refine ⟨?_, ?_, by rw [img_len on hin hnd, h3]⟩
  · unfold pts
    rw [ren_p x h ho]
    exact img_sub _ _ _
  · have hI : (img l x.p.toNat Z).Pairwise (· < ·) := (ir_pw 0 _).sublist (img_sub _ _ _)
    refine List.Pairwise.imp_of_mem (R := fun a b : Int => a < b) (fun {a b} hA hB hab => ?_) hI
    obtain ⟨u, hu, rfl⟩ := (mem_img on hin).1 hA
    obtain ⟨v, hv, rfl⟩ := (mem_img on hin).1 hB
    have hu2 := hin u hu
    have hv2 := hin v hv
    have huv : u ≠ v := fun e => by subst e; omega
    rw [aB_ren h ho c (by omega) (by omega) huv]
    have key : ∀ a b : Int, a ∈ Z → b ∈ Z → a < b → aB x c a b = true := fun a b hA hB hab => by
      obtain ⟨p, hp1, hp2⟩ := List.getElem_of_mem hA
      obtain ⟨q, hq1, hq2⟩ := List.getElem_of_mem hB
      rcases Nat.lt_trichotomy p q with w | w | w
      · have := (List.pairwise_iff_getElem.1 h2) p q hp1 hq1 w
        rw [hp2, hq2] at this
        exact this
      · subst w; rw [hp2] at hq2; omega
      · have := (List.pairwise_iff_getElem.1 hlt) q p hq1 hp1 w
        rw [hp2, hq2] at this
        omega
    rcases Int.lt_or_gt_of_ne huv with w | w
    · exact key u v hu hv w
    · rw [aB_comm]; exact key v u hv hu w
theorem cl_le_ren {x : Col} (h : x.is) {l : List Int} (ho : isOrd l x.p) (c : Int) (m : Nat) : (cl (aB x c) m (pts x)).length ≤ (cl (aB (ren x l) c) m (pts (ren x l))).length := by
  have hp := h.1
  have on := ord_nat hp ho
  have hn : (cl (aB x c) m (pts x)).Nodup := cl_nodup _ (ir_nodup 0 _) m
  have h1 : ((cl (aB x c) m (pts x)).map (img l x.p.toNat)).Nodup := nodup_map_on _ _ hn fun a ha b hb e => by
    have ha1 := ((mem_cl _ _ _ _).1 ha).1
    have hb1 := ((mem_cl _ _ _ _).1 hb).1
    exact img_inj on (pts_in ha1) (pts_in hb1) (ir_pair.sublist ha1) (ir_pair.sublist hb1) e
  have := sub_len _ (cl (aB (ren x l) c) m (pts (ren x l))) h1 fun a ha => by
    obtain ⟨Z, hZ, rfl⟩ := List.mem_map.1 ha
    exact cl_img h ho c hZ
  rw [List.length_map] at this
  exact this

/-! ### The way back -/
def inv (l : List Int) (N q : Nat) : Nat := ((List.range N).find? fun i => decide (l.getD i 0 = (q : Int))).getD 0
theorem inv_ok {l : List Int} {N : Nat} (ho : isOrd l N) {q : Nat} (hq : q < N) : inv l N q < N ∧ l.getD (inv l N q) 0 = (q : Int) := by
  obtain ⟨i, hi, e⟩ := ord_surj ho hq
  unfold inv
  cases hf : (List.range N).find? (fun i => decide (l.getD i 0 = (q : Int))) with
  | none =>
    exact absurd (decide_eq_true e) (List.find?_eq_none.1 hf i (List.mem_range.2 hi))
  | some j =>
    have h1 := List.find?_some hf
    have h2 := List.mem_range.1 (List.mem_of_find?_eq_some hf)
    simp only [Option.getD_some]
    exact ⟨h2, of_decide_eq_true h1⟩
def bkL (l : List Int) (N : Nat) : List Int := mapL N fun q => (inv l N q : Int)
theorem bk_get (l : List Int) {N q : Nat} (hq : q < N) : (bkL l N).getD q 0 = (inv l N q : Int) := mapL_get _ _ _ hq
theorem bk_ord {l : List Int} {N : Nat} (ho : isOrd l N) : isOrd (bkL l N) N := by
  have hl : (bkL l N).length = N := mapL_length _ _
  refine ⟨by rw [hl], fun a ha => ?_, fun i j hij hj e => ?_⟩
  · rw [hl] at ha
    rw [bk_get l ha]
    have := (inv_ok ho ha).1
    omega
  · rw [hl] at hj
    rw [bk_get l (by omega), bk_get l hj] at e
    have h1 := (inv_ok ho (show i < N by omega)).2
    have h2 := (inv_ok ho hj).2
    rw [show inv l N i = inv l N j by omega, h2] at h1
    omega
theorem bk_back {l : List Int} {N : Nat} (ho : isOrd l N) {i : Nat} (hi : i < N) : (bkL l N).getD (l.getD i 0).toNat 0 = i := by
  obtain ⟨a, e, ha⟩ := ord_at ho hi
  rw [e, Int.toNat_natCast, bk_get l ha]
  have h1 := (inv_ok ho ha).2
  have := ord_ne ho (inv_ok ho ha).1 hi (by rw [h1, e])
  omega
theorem ren_ren {x : Col} (h : x.is) {l : List Int} (ho : isOrd l x.p) : isOrd (bkL l x.p.toNat) (ren x l).p ∧ ren (ren x l) (bkL l x.p.toNat) = x := by
  have hp := h.1
  have on := ord_nat hp ho
  have hb : isOrd (bkL l x.p.toNat) x.p := by
    have := bk_ord on
    rwa [show ((x.p.toNat : Nat) : Int) = x.p by omega] at this
  exact ⟨by rw [ren_p x h ho]; exact hb, ren_back h ho hb fun i hi => bk_back on (by omega)⟩
theorem cl_same {x : Col} (h : x.is) {l : List Int} (ho : isOrd l x.p) (c : Int) (m : Nat) : (cl (aB (ren x l) c) m (pts (ren x l))).length = (cl (aB x c) m (pts x)).length := by
  have h1 := cl_le_ren h ho c m
  obtain ⟨h2, h3⟩ := ren_ren h ho
  have h4 := cl_le_ren (ren_is h ho) h2 c m
  rw [h3] at h4
  omega

/-! ### Numbers of cliques -/
theorem grt_mem : ∀ (L : List (List Int)) (s : List Int), grt L s = s ∨ grt L s ∈ L
  | [], s => .inl rfl
  | a :: t, s => by
    show grt t (if s.length < a.length then a else s) = s ∨ grt t (if s.length < a.length then a else s) ∈ a :: t
    rcases grt_mem t (if s.length < a.length then a else s) with h | h
    · rw [h]
      split
      · exact .inr (by simp)
      · exact .inl rfl
    · exact .inr (List.mem_cons_of_mem _ h)
theorem grt_ge : ∀ (L : List (List Int)) (s : List Int), s.length ≤ (grt L s).length ∧ ∀ a ∈ L, a.length ≤ (grt L s).length
  | [], s => ⟨Nat.le_refl _, fun a h => by simp at h⟩
  | b :: t, s => by
    show s.length ≤ (grt t (if s.length < b.length then b else s)).length ∧ ∀ a ∈ b :: t, a.length ≤ (grt t (if s.length < b.length then b else s)).length
    obtain ⟨h1, h2⟩ := grt_ge t (if s.length < b.length then b else s)
    have h3 : s.length ≤ (if s.length < b.length then b else s).length ∧ b.length ≤ (if s.length < b.length then b else s).length := by
      split <;> omega
    refine ⟨by omega, fun a ha => ?_⟩
    rcases List.mem_cons.1 ha with rfl | ha
    · omega
    · exact h2 a ha
def gw (x : Col) (c : Int) : Nat := (grt (acl x c) []).length
/-- The greatest clique has at least m points if there is a clique of m points. -/
theorem gw_cl (x : Col) (c : Int) (m : Nat) : m ≤ gw x c ↔ cl (aB x c) m (pts x) ≠ [] := by
  constructor
  · intro h
    have hmem : grt (acl x c) [] ∈ acl x c := by
      rcases grt_mem (acl x c) [] with e | e
      · rw [e]; exact List.mem_cons_self
      · exact e
    obtain ⟨a, b⟩ := (mem_ac _ _ _).1 hmem
    have hm : grt (acl x c) [] ∈ cl (aB x c) (gw x c) (pts x) := (mem_cl _ _ _ _).2 ⟨a, b, rfl⟩
    have hne : cl (aB x c) (gw x c) (pts x) ≠ [] := List.ne_nil_of_mem hm
    obtain ⟨d, hd⟩ : ∃ d, gw x c = m + d := ⟨gw x c - m, by omega⟩
    rw [hd] at hne
    exact cl_down _ _ _ _ hne
  · intro h
    obtain ⟨Z, hZ⟩ := List.exists_mem_of_ne_nil _ h
    obtain ⟨h1, h2, h3⟩ := (mem_cl _ _ _ _).1 hZ
    have := (grt_ge (acl x c) []).2 Z ((mem_ac _ _ _).2 ⟨h1, h2⟩)
    unfold gw
    omega
theorem gw_same {x : Col} (h : x.is) {l : List Int} (ho : isOrd l x.p) (c : Int) : gw (ren x l) c = gw x c := by
  have key : ∀ m, m ≤ gw (ren x l) c ↔ m ≤ gw x c := fun m => by
    rw [gw_cl, gw_cl, ← List.length_pos_iff, ← List.length_pos_iff, cl_same h ho]
  have h1 := (key (gw (ren x l) c)).1 (Nat.le_refl _)
  have h2 := (key (gw x c)).2 (Nat.le_refl _)
  omega

/-! ### What the program answers -/
theorem cliques_val {k : Nat} (hk : 5000 ≤ k) {x : Col} (h : x.is) : impl_CliqueNumbers k x = some (some (mapL x.k.toNat fun c => (gw x c : Int)), 0) := by
  have hkk := h.2.1
  have ek : ((x.k.toNat : Nat) : Int) = x.k := by omega
  unfold impl_CliqueNumbers impl_always
  rw [((code_cases hk x).1 h).1]
  unfold impl_Colouring_cliqueNumbers
  have := collect (fun k' i s => impl_Colouring_cliqueNumbers_l0 k x k' i s) x.k.toNat (fun c => (gw x c : Int)) (fun k' i s hi hl => by
    have h1 : (i : Int) < x.k := by omega
    have hl' : s.length + ([(impl_size (grt (acl x i) []))]).length ≤ 1099511627776 := by simp; omega
    rw [impl_Colouring_cliqueNumbers_l0, greatest_eq hk x h.1 i, w64_id (by omega)]
    simp only [h1, decide_true, if_true, Option.bind_some, hl']
    rfl) (fun k' s => by rw [ek, impl_Colouring_cliqueNumbers_l0]; simp) k (by omega)
  simp only [Option.bind_some, decide_true, Bool.not_true, Bool.false_eq_true, if_false, this]
theorem renum_val {k : Nat} (hk : 5000 ≤ k) {x : Col} (h : x.is) {l : List Int} (ho : isOrd l x.p) : impl_RenumberPoints k x l = some (ren x l, 0) := by
  classical
  have hp := h.1
  have hl := ho.1
  unfold impl_RenumberPoints impl_RenumberPoints_c1
  rw [implOrder_eq k l x.p (by omega) (by omega), decide_eq_true ho]
  simp only [Option.bind_some, ((code_cases hk x).1 h).1, implRen_eq x l hp ho k (by omega)]
  rfl

/-! ### Lists that are set -/
theorem mapL_set {m c : Nat} {f g : Nat → Int} {v : Int} (hv : g c = v) (ho : ∀ a, a ≠ c → g a = f a) : (mapL m f).set c v = mapL m g := by
  refine List.ext_getElem (by rw [List.length_set, mapL_length, mapL_length]) fun i h1 h2 => ?_
  rw [List.getElem_set]
  simp only [mapL, List.getElem_map, List.getElem_range]
  by_cases e : c = i
  · rw [if_pos e, ← e, hv]
  · rw [if_neg e, ho i fun q => e q.symm]
theorem mapL_ext {m : Nat} {f g : Nat → Int} (h : ∀ a, a < m → f a = g a) : mapL m f = mapL m g := by
  unfold mapL
  exact List.map_congr_left fun a ha => h a (List.mem_range.1 ha)

/-! ### Degrees -/
def dgC (x : Col) (i c m : Nat) : Nat := (List.range m).countP fun q => decide (q ≠ i) && decide (x.cc i q = (c : Int))
def dgs (x : Col) (i : Nat) : List Int := mapL x.k.toNat fun c => (dgC x i c x.p.toNat : Int)
theorem dgC_succ (x : Col) (i c m : Nat) : dgC x i c (m + 1) = dgC x i c m + if m ≠ i ∧ x.cc i m = (c : Int) then 1 else 0 := by
  unfold dgC
  rw [List.range_succ, List.countP_append]
  congr 1
  simp only [List.countP_cons, List.countP_nil, Nat.zero_add, Bool.and_eq_true, decide_eq_true_eq]
theorem dgC_le (x : Col) (i c m : Nat) : dgC x i c m ≤ m := by
  unfold dgC
  exact Nat.le_trans List.countP_le_length (by simp)
theorem degAt_val {x : Col} (hx : x.is) {i : Nat} (hi : (i : Int) < x.p) (k : Nat) (hk : 20 ≤ k) : impl_Colouring_degreesAt k x i = some (dgs x i) := by
  have hp := hx.1
  have hkk := hx.2.1
  unfold impl_Colouring_degreesAt
  rw [if_pos ⟨by omega, by omega, by omega⟩]
  have := loopI (f := fun k' j (s : List Int) => impl_Colouring_degreesAt_l0 x i k' j s) x.p 0
    (fun j s => j ≤ x.p ∧ s = mapL x.k.toNat fun c => (dgC x i c j.toNat : Int)) (fun s => s = dgs x i) ?_ ?_ k 0 (List.replicate x.k.toNat (0 : Int)) (by omega) (by omega) ⟨by omega, ?_⟩
  · obtain ⟨s, e, rfl⟩ := this
    rw [e]; rfl
  · rintro k' j s h0 h1 ⟨q1, rfl⟩
    obtain ⟨q, rfl⟩ : ∃ q : Nat, j = q := ⟨j.toNat, by omega⟩
    left
    refine ⟨mapL x.k.toNat fun c => (dgC x i c (q + 1) : Int), ?_, by omega, by rw [show ((q : Int) + 1).toNat = q + 1 by omega]⟩
    show impl_Colouring_degreesAt_l0 x i (k' + 1) q _ = _
    rw [impl_Colouring_degreesAt_l0, if_pos (decide_eq_true h1), w64_succ h0 h1 (by omega), Int.toNat_natCast]
    by_cases e : (q : Int) = i
    · have e' : q = i := by omega
      rw [decide_eq_true e, if_neg (by simp), Option.bind_some]
      congr 1
      refine mapL_ext fun c _ => ?_
      rw [dgC_succ, if_neg (fun h => h.1 e')]
      omega
    · have hne : i ≠ q := fun h => e (by rw [h])
      obtain ⟨c1, c2⟩ := is_cc hx hi h1 hne
      obtain ⟨c, hc⟩ : ∃ c : Nat, x.cc i q = c := ⟨(x.cc i q).toNat, by omega⟩
      rw [decide_eq_false e, Bool.not_false, if_pos rfl, implAt_ne _ _ _ (by omega) (by omega) (by omega) (by omega) (by omega), Option.bind_some, if_pos ⟨by omega, by rw [mapL_length]; omega⟩, if_pos ⟨by omega, by rw [mapL_length]; omega⟩, Option.bind_some, hc, Int.toNat_natCast, mapL_get _ _ _ (by omega)]
      have hle := dgC_le x i c q
      rw [w64_id (by omega)]
      congr 1
      refine mapL_set ?_ fun a ha => ?_
      · rw [dgC_succ, if_pos ⟨fun h => hne h.symm, hc⟩]; omega
      · rw [dgC_succ, if_neg (fun h => ha (by have := h.2; omega))]; omega
  · rintro k' j s h0 h1 ⟨q1, rfl⟩
    refine ⟨dgs x i, ?_, rfl⟩
    show impl_Colouring_degreesAt_l0 x i (k' + 1) j _ = _
    rw [impl_Colouring_degreesAt_l0, if_neg (by simp only [decide_eq_true_eq]; omega), show j.toNat = x.p.toNat by omega]
    rfl
  · refine List.ext_getElem (by simp [mapL_length]) fun a h1 h2 => ?_
    simp [mapL, dgC]

theorem slicesEq_val (a b : List Int) (ha : a.length ≤ 1000) (k : Nat) (hk : 1100 ≤ k) : slices_Equal k a b = some (decide (a = b)) := by
  unfold slices_Equal
  by_cases hl : a.length = b.length
  · rw [decide_eq_true (by omega), if_neg (by simp)]
    have := loopAll (fun k' i => slices_Equal_l0 a b k' i) (a.length : Int) false (fun i => a.getD i.toNat 0 = b.getD i.toNat 0) 0
      (fun k' i h0 h1 hq => by
        show slices_Equal_l0 a b (k' + 1) i = _
        rw [slices_Equal_l0, if_pos (decide_eq_true h1), if_pos ⟨h0, h1⟩, if_pos ⟨h0, by omega⟩, if_neg (by rw [decide_eq_true hq]; simp), w64_succ h0 h1 (by omega)])
      (fun k' i h0 h1 hq => by
        show slices_Equal_l0 a b (k' + 1) i = _
        rw [slices_Equal_l0, if_pos (decide_eq_true h1), if_pos ⟨h0, h1⟩, if_pos ⟨h0, by omega⟩, if_pos (by rw [decide_eq_false hq]; rfl)])
      (fun k' i h => by
        show slices_Equal_l0 a b (k' + 1) i = _
        rw [slices_Equal_l0, if_neg (by simp only [decide_eq_true_eq]; omega)]) k 0 (by omega) (by omega)
    rw [this, Option.bind_some]
    by_cases e : a = b
    · rw [if_pos (fun j _ _ => by rw [e]), decide_eq_true e]
    · rw [if_neg, decide_eq_false e]
      intro h
      apply e
      refine List.ext_getElem hl fun i h1 h2 => ?_
      have := h i (by omega) (by omega)
      rw [Int.toNat_natCast] at this
      simpa [List.getD, h1, h2] using this
  · rw [decide_eq_false (by omega), Bool.not_false, if_pos rfl, decide_eq_false (fun e => hl (by rw [e]))]

/-! ### The table -/
theorem S17_same (s : S17) (i : Nat) (v : Bool) (h : i < 289) : (s.set i v).get i = v := by
  unfold S17.set S17.get
  simp [List.getD, s.h, h]
theorem S17_other (s : S17) {i j : Nat} (v : Bool) (h : i ≠ j) : (s.set i v).get j = s.get j := by
  unfold S17.set S17.get
  simp [List.getD, List.getElem?_set, h]
structure TI (x y : Col) (o : List Int) (i j : Nat) (t : Tra) : Prop where
  hx : t.x = x
  hy : t.y = y
  ho : t.o = o
  g : ∀ a b : Nat, a < x.p.toNat → b < y.p.toNat → (a < i ∨ a = i ∧ b < j) → t.get (a * 17 + b) = decide (dgs x a = dgs y b)
theorem dgs_len {x : Col} (hx : x.is) (i : Nat) : (dgs x i).length ≤ 4 := by
  have := hx.2.1
  unfold dgs
  rw [mapL_length]
  omega
theorem tab_row {x y : Col} (hx : x.is) (hy : y.is) (o : List Int) {i : Nat} (hi : (i : Int) < x.p) (t : Tra) (ht : TI x y o i 0 t) (k : Nat) (hk : 1200 ≤ k) : ∃ t', impl_newTracer_l1 k x y i k 0 t = some t' ∧ TI x y o (i + 1) 0 t' := by
  have hp := hx.1
  have hp' := hy.1
  refine loopI (f := fun k' j (s : Tra) => impl_newTracer_l1 k x y i k' j s) y.p 0 (fun j s => j ≤ y.p ∧ TI x y o i j.toNat s) (fun s => TI x y o (i + 1) 0 s) ?_ ?_ k 0 t (by omega) (by omega) ⟨by omega, ht⟩
  · rintro k' j s h0 h1 ⟨q1, q2⟩
    obtain ⟨q, rfl⟩ : ∃ q : Nat, j = q := ⟨j.toNat, by omega⟩
    rw [Int.toNat_natCast] at q2
    left
    refine ⟨s.set (i * 17 + q) (decide (dgs x i = dgs y q)), ?_, by omega, ?_⟩
    · show impl_newTracer_l1 k x y i (k' + 1) q s = _
      rw [impl_newTracer_l1, if_pos (decide_eq_true h1), if_pos ⟨by omega, by omega⟩, degAt_val hx hi k (by omega), Option.bind_some, degAt_val hy h1 k (by omega), Option.bind_some, slicesEq_val _ _ (by have := dgs_len hx i; omega) k (by omega), Option.bind_some, if_pos ⟨h0, by omega⟩, w64_succ h0 h1 (by omega), Int.toNat_natCast, Int.toNat_natCast]
    · rw [show ((q : Int) + 1).toNat = q + 1 by omega]
      refine ⟨q2.hx, q2.hy, q2.ho, fun a b ha hb h => ?_⟩
      by_cases e : a = i ∧ b = q
      · obtain ⟨rfl, rfl⟩ := e
        exact S17_same _ _ _ (by omega)
      · refine (S17_other _ _ (by omega)).trans (q2.g a b ha hb ?_)
        omega
  · rintro k' j s h0 h1 ⟨q1, q2⟩
    refine ⟨s, ?_, q2.hx, q2.hy, q2.ho, fun a b ha hb h => q2.g a b ha hb (by omega)⟩
    show impl_newTracer_l1 k x y i (k' + 1) j s = _
    rw [impl_newTracer_l1, if_neg (by simp only [decide_eq_true_eq]; omega)]
theorem tracer_val {x y : Col} (hx : x.is) (hy : y.is) (o : List Int) (k : Nat) (hk : 1200 ≤ k) (h1 : x.p = y.p) (h2 : x.k = y.k) : ∃ t, impl_newTracer k x y o = some (some t) ∧ TI x y o x.p.toNat 0 t := by
  have hp := hx.1
  have := loopI (f := fun k' j (s : Tra) => impl_newTracer_l0 k x y k' j s) x.p 0 (fun j s => j ≤ x.p ∧ TI x y o j.toNat 0 s) (fun s => TI x y o x.p.toNat 0 s) ?_ ?_ k 0 (⟨x, y, o, S17.zero⟩ : Tra) (by omega) (by omega) ⟨by omega, ⟨rfl, rfl, rfl, fun a b _ _ h => ?_⟩⟩
  · obtain ⟨t, e, ht⟩ := this
    refine ⟨t, ?_, ht⟩
    unfold impl_newTracer letO
    rw [decide_eq_true h1, decide_eq_true h2]
    simp only [Bool.not_true, Bool.false_eq_true, if_false, Option.bind_some, e]
  · rintro k' j s h0 h1 ⟨q1, q2⟩
    obtain ⟨q, rfl⟩ : ∃ q : Nat, j = q := ⟨j.toNat, by omega⟩
    rw [Int.toNat_natCast] at q2
    obtain ⟨t', e, ht'⟩ := tab_row hx hy o h1 s q2 k hk
    left
    refine ⟨t', ?_, by omega, by rw [show ((q : Int) + 1).toNat = q + 1 by omega]; exact ht'⟩
    show impl_newTracer_l0 k x y (k' + 1) q s = _
    rw [impl_newTracer_l0, if_pos (decide_eq_true h1), e, Option.bind_some, w64_succ h0 h1 (by omega)]
  · rintro k' j s h0 h1 ⟨q1, q2⟩
    refine ⟨s, ?_, by rw [show x.p.toNat = j.toNat by omega]; exact q2⟩
    show impl_newTracer_l0 k x y (k' + 1) j s = _
    rw [impl_newTracer_l0, if_neg (by simp only [decide_eq_true_eq]; omega)]
  · omega
theorem tracer_none {x y : Col} (o : List Int) (k : Nat) (h : ¬ (x.p = y.p ∧ x.k = y.k)) : impl_newTracer k x y o = some none := by
  unfold impl_newTracer letO
  by_cases h1 : x.p = y.p
  · rw [decide_eq_true h1, decide_eq_false (fun q => h ⟨h1, q⟩)]; rfl
  · rw [decide_eq_false h1]; rfl

/-! ### Renumberings in order -/
def ordOK (o : List Int) : Prop := (∀ i, i < o.length → 0 ≤ o.getD i 0 ∧ o.getD i 0 < 17) ∧ o.Nodup
theorem ordOK_two {o : List Int} (h : ordOK o) {i n : Nat} (hi : i < n) (hn : n < o.length) : (0 ≤ o.getD i 0 ∧ o.getD i 0 < 17) ∧ (0 ≤ o.getD n 0 ∧ o.getD n 0 < 17) ∧ o.getD i 0 ≠ o.getD n 0 := by
  refine ⟨h.1 i (by omega), h.1 n hn, ?_⟩
  have := (List.pairwise_iff_getElem.1 h.2) i n (by omega) hn hi
  simpa [List.getD, hn, show i < o.length by omega] using this
theorem ordOK_le {o : List Int} (h : ordOK o) : o.length ≤ 17 := by
  have := sub_len o (ir 0 17) h.2 fun a ha => by
    obtain ⟨i, hi, rfl⟩ := mem_getD.1 ha
    have := h.1 i hi
    exact mem_ir.2 (by omega)
  rwa [ir_length] at this
def nearP (t : Tra) (l : List Int) (c i : Nat) : Prop := l.getD i 0 ≠ (c : Int) ∧ t.x.cc (t.o.getD i 0) (t.o.getD l.length 0) = t.y.cc (l.getD i 0) c
instance (t : Tra) (l : List Int) (c i : Nat) : Decidable (nearP t l c i) := by unfold nearP; infer_instance
def nearT (t : Tra) (l : List Int) (c : Nat) : Prop := ∀ i, i < l.length → nearP t l c i
instance (t : Tra) (l : List Int) (c : Nat) : Decidable (nearT t l c) := by unfold nearT; infer_instance
def okT (t : Tra) (l : List Int) (c : Nat) : Bool := t.get ((t.o.getD l.length 0).toNat * 17 + c) && decide (nearT t l c)
def isRen (t : Tra) (e : List Int) : Prop := ∀ i, i < e.length → ∃ c : Nat, c < t.y.p.toNat ∧ e.getD i 0 = (c : Int) ∧ okT t (e.take i) c = true
theorem isRen_nil (t : Tra) : isRen t [] := fun i h => by simp at h
theorem isRen_range {t : Tra} {e : List Int} (h : isRen t e) : ∀ z ∈ e, 0 ≤ z ∧ z < t.y.p := fun z hz => by
  obtain ⟨i, hi, rfl⟩ := mem_getD.1 hz
  obtain ⟨c, h1, h2, _⟩ := h i hi
  omega
theorem isRen_snoc {t : Tra} {e : List Int} (h : isRen t e) {c : Nat} (hc : c < t.y.p.toNat) (ho : okT t e c = true) : isRen t (e ++ [(c : Int)]) := by
  intro i hi
  rw [List.length_append, List.length_singleton] at hi
  rcases Nat.lt_or_ge i e.length with w | w
  · obtain ⟨b, h1, h2, h3⟩ := h i w
    refine ⟨b, h1, ?_, ?_⟩
    · simp [List.getD, List.getElem?_append, w] at h2 ⊢
      exact h2
    · rw [List.take_append_of_le_length (by omega)]
      exact h3
  · have : i = e.length := by omega
    subst this
    refine ⟨c, hc, by simp [List.getD], ?_⟩
    rw [List.take_append_of_le_length (Nat.le_refl _), List.take_length]
    exact ho
/-! ### The walk for renumbering_c1 -/
theorem same_renumbering_c1 (t : Tra) (ho : ordOK t.o) (hp : t.y.p ≤ 17) (cs : List Int) (n c : Nat) (hn : n < t.o.length) (hcs : n ≤ cs.length) (hl : ∀ z ∈ cs.take n, 0 ≤ z ∧ z < t.y.p) (hc : (c : Int) < t.y.p) (k : Nat) (hk : 20 ≤ k) :
    impl_tracer_all_on_renumbering_c1_l1 t n c cs k true 0 = some (decide (nearT t (cs.take n) c)) := by
  have hn17 := ordOK_le ho
  have hlen : (cs.take n).length = n := by simp; omega
  have := loopI (f := fun k' j (_ : Unit) => impl_tracer_all_on_renumbering_c1_l1 t n c cs k' true j) (n : Int) 0
    (fun j _ => j ≤ n ∧ ∀ i : Nat, (i : Int) < j → nearP t (cs.take n) c i) (fun s => s = decide (nearT t (cs.take n) c)) ?_ ?_ k 0 () (by omega) (by omega) ⟨by omega, fun i hi => by omega⟩
  · obtain ⟨s, e, rfl⟩ := this
    exact e
  · rintro k' j _ h0 h1 ⟨q1, q2⟩
    obtain ⟨i, rfl⟩ : ∃ i : Nat, j = i := ⟨j.toNat, by omega⟩
    have hi : i < n := by omega
    have hg : cs.getD (0 + i) 0 = (cs.take n).getD i 0 := by simp [List.getD, List.getElem?_take, hi]
    have hz := hl _ (mem_getD.2 ⟨i, by omega, rfl⟩)
    obtain ⟨o1, o2, o3⟩ := ordOK_two ho (show i < n from hi) hn
    have hstep : impl_tracer_all_on_renumbering_c1_l1 t n c cs (k' + 1) true i = if nearP t (cs.take n) c i then impl_tracer_all_on_renumbering_c1_l1 t n c cs k' true ((i : Int) + 1) else some false := by
      rw [impl_tracer_all_on_renumbering_c1_l1, if_pos (decide_eq_true h1), if_pos ⟨h0, h1, by omega⟩, Int.toNat_natCast, hg, Int.toNat_natCast, w64_succ h0 h1 (by omega)]
      by_cases e : (cs.take n).getD i 0 = (c : Int)
      · rw [if_pos (decide_eq_true e), if_neg (fun q : nearP t (cs.take n) c i => q.1 e)]; rfl
      · rw [if_neg (by simpa using e), if_pos ⟨h0, by omega⟩, implAt_ne _ _ _ (by omega) (by omega) (by omega) (by omega) o3, Option.bind_some, implAt_ne _ _ _ (by omega) (by omega) (by omega) (by omega) e, Option.bind_some, Option.bind_some]
        have hnp : nearP t (cs.take n) c i ↔ (cs.take n).getD i 0 ≠ (c : Int) ∧ t.x.cc (t.o.getD i 0) (t.o.getD n 0) = t.y.cc ((cs.take n).getD i 0) c := by
          unfold nearP
          rw [hlen]
        by_cases e2 : t.x.cc (t.o.getD i 0) (t.o.getD n 0) = t.y.cc ((cs.take n).getD i 0) c
        · rw [if_pos (hnp.2 ⟨e, e2⟩), decide_eq_true e2]; rfl
        · rw [if_neg (fun q => e2 (hnp.1 q).2), decide_eq_false e2]; rfl
    by_cases h : nearP t (cs.take n) c i
    · left
      refine ⟨(), ?_, by omega, fun a ha => ?_⟩
      · show impl_tracer_all_on_renumbering_c1_l1 t n c cs (k' + 1) true i = _
        rw [hstep, if_pos h]
      · rcases Nat.lt_or_ge a i with w | w
        · exact q2 a (by omega)
        · rw [show a = i by omega]; exact h
    · right
      refine ⟨false, ?_, ?_⟩
      · show impl_tracer_all_on_renumbering_c1_l1 t n c cs (k' + 1) true i = _
        rw [hstep, if_neg h]
      · exact (decide_eq_false fun q => h (q i (by omega))).symm
  · rintro k' j _ h0 h1 ⟨q1, q2⟩
    refine ⟨true, ?_, ?_⟩
    · show impl_tracer_all_on_renumbering_c1_l1 t n c cs (k' + 1) true j = _
      rw [impl_tracer_all_on_renumbering_c1_l1, if_neg (by simp only [decide_eq_true_eq]; omega)]
    · exact (decide_eq_true fun i hi => q2 i (by omega)).symm

theorem run_renumbering_c1 (t : Tra) (ho : ordOK t.o) (hp : 1 ≤ t.y.p ∧ t.y.p ≤ 17) (cb : List Int → List Int → Bool × List Int) (Inv : List Int → Prop)
    (hcb : ∀ (k : Nat) (cs : List Int) (s : List Int), 100 ≤ k → cs.length = 17 → isRen t (cs.take t.o.length) → Inv s → impl_Colouring_renumbering_c1 cs t.o.length s = some ((cb (cs.take t.o.length) s).1, cs, (cb (cs.take t.o.length) s).2) ∧ ((cb (cs.take t.o.length) s).1 = true → Inv (cb (cs.take t.o.length) s).2)) :
    ∀ (d : Nat) (cs : List Int) (n : Nat) (s : List Int) (k : Nat), n + d = t.o.length → cs.length = 17 → isRen t (cs.take n) → Inv s → d + 200 ≤ k →
      ∃ cs', cs'.length = 17 ∧ cs'.take n = cs.take n ∧ impl_tracer_all_on_renumbering_c1 k t cs n s = some ((runT cb (exts t.y.p.toNat (okT t) d (cs.take n)) s).1, cs', (runT cb (exts t.y.p.toNat (okT t) d (cs.take n)) s).2) ∧
        ((runT cb (exts t.y.p.toNat (okT t) d (cs.take n)) s).1 = true → Inv (runT cb (exts t.y.p.toNat (okT t) d (cs.take n)) s).2) := by
  have hn17 := ordOK_le ho
  intro d
  induction d with
  | zero =>
    intro cs n s k hn hcs hr hi hk
    obtain ⟨k, rfl⟩ : ∃ q, k = q + 1 := ⟨k - 1, by omega⟩
    rw [exts_zero, runT_one]
    have hnn : n = t.o.length := by omega
    subst hnn
    obtain ⟨c1, c2⟩ := hcb k cs s (by omega) hcs hr hi
    refine ⟨cs, hcs, rfl, ?_, c2⟩
    rw [impl_tracer_all_on_renumbering_c1, impl_tracer_all_on_renumbering_c1_body, if_pos (decide_eq_true rfl), c1]
    rfl
  | succ d ih =>
    intro cs n s k hn hcs hr hi hk
    obtain ⟨k, rfl⟩ : ∃ q, k = q + 1 := ⟨k - 1, by omega⟩
    rw [exts_succ]
    obtain ⟨l, hl⟩ : ∃ l, l = cs.take n := ⟨_, rfl⟩
    have hll : l.length = n := by rw [hl]; simp; omega
    rw [← hl] at hr
    rw [← hl]
    have hlr := isRen_range hr
    have hK : ((t.y.p.toNat : Nat) : Int) = t.y.p := by omega
    obtain ⟨on1, on2⟩ := ho.1 n (by omega)
    have := loopI (f := fun k' c (st : List Int × List Int) => impl_tracer_all_on_renumbering_c1_l0 k (impl_tracer_all_on_renumbering_c1 k) t n k' c st.1 st.2) t.y.p 0
      (fun c st => c ≤ t.y.p ∧ st.1.length = 17 ∧ st.1.take n = l ∧ runT cb (epre t.y.p.toNat (okT t) d l c.toNat) s = (true, st.2) ∧ Inv st.2)
      (fun r => ∃ cs', cs'.length = 17 ∧ cs'.take n = l ∧ ((∃ s', r = .inl (cs', s') ∧ runT cb (epre t.y.p.toNat (okT t) d l t.y.p.toNat) s = (true, s') ∧ Inv s') ∨ (∃ s', r = .inr (false, cs', s') ∧ runT cb (epre t.y.p.toNat (okT t) d l t.y.p.toNat) s = (false, s')))) ?_ ?_ k 0 (cs, s) (by omega) (by omega) ⟨by omega, hcs, hl.symm, rfl, hi⟩
    · obtain ⟨r, e, cs', h1, h2, h3⟩ := this
      refine ⟨cs', h1, h2, ?_, ?_⟩
      · rw [impl_tracer_all_on_renumbering_c1, impl_tracer_all_on_renumbering_c1_body, if_neg (by simp only [decide_eq_true_eq]; omega), if_pos ⟨by omega, by omega⟩, e]
        rcases h3 with ⟨s', rfl, h4, _⟩ | ⟨s', rfl, h4⟩ <;> rw [h4] <;> rfl
      · rcases h3 with ⟨s', rfl, h4, h5⟩ | ⟨s', rfl, h4⟩
        · rw [h4]; intro _; exact h5
        · rw [h4]; intro h; cases h
    · rintro k' j ⟨ds, u⟩ h0 h1 ⟨q1, q2, q3, q4, q5⟩
      dsimp only at q2 q3 q4 q5
      obtain ⟨c, rfl⟩ : ∃ c : Nat, j = c := ⟨j.toNat, by omega⟩
      rw [Int.toNat_natCast] at q4
      have hnear := same_renumbering_c1 t ho (by omega) ds n c (by omega) (by omega) (by rw [q3]; exact hlr) h1 k (by omega)
      rw [q3] at hnear
      obtain ⟨B, hB⟩ := epre_more (K := t.y.p.toNat) (ok := okT t) (n := d) (l := l) (c + 1) (t.y.p.toNat - (c + 1))
      rw [show c + 1 + (t.y.p.toNat - (c + 1)) = t.y.p.toNat by omega] at hB
      have hpre := epre_succ (K := t.y.p.toNat) (ok := okT t) (n := d) (l := l) c
      have hstep : impl_tracer_all_on_renumbering_c1_l0 k (impl_tracer_all_on_renumbering_c1 k) t n (k' + 1) c ds u = ((if okT t l c then (impl_tracer_all_on_renumbering_c1 k t (splicedL ds (0 + n) ([(c : Int)].length) [(c : Int)]) (n + [(c : Int)].length) u).bind fun r23 => some (!r23.1, r23.2.1, r23.2.2) else some (false, ds, u)) : Option (Bool × List Int × List Int)).bind fun s24 => if s24.1 then some (.inr (false, s24.2.1, s24.2.2)) else impl_tracer_all_on_renumbering_c1_l0 k (impl_tracer_all_on_renumbering_c1 k) t n k' ((c : Int) + 1) s24.2.1 s24.2.2 := by
        rw [impl_tracer_all_on_renumbering_c1_l0, if_pos (decide_eq_true h1), Int.toNat_natCast, if_pos ⟨on1, on2⟩, if_pos ⟨h0, by omega⟩, Int.toNat_natCast, hnear, Option.bind_some, w64_succ h0 h1 (by omega)]
        unfold okT
        rw [hll]
        cases t.get ((t.o.getD n 0).toNat * 17 + c) with
        | false => rfl
        | true =>
          simp only [Bool.not_true, Bool.false_eq_true, if_false, Bool.true_and]
          by_cases hq : nearT t l c
          · rw [decide_eq_true hq, if_pos rfl, if_pos rfl, if_pos ⟨by simp only [List.length_singleton]; omega, by simp⟩]
            cases impl_tracer_all_on_renumbering_c1 k t (splicedL ds (0 + n) ([(c : Int)].length) [(c : Int)]) (n + [(c : Int)].length) u with
            | none => rfl
            | some r => cases hr : r.1 <;> simp [hr]
          · rw [decide_eq_false hq]; rfl
      cases hok : okT t l c with
      | false =>
        left
        refine ⟨(ds, u), ?_, by omega, q2, q3, ?_, q5⟩
        · show impl_tracer_all_on_renumbering_c1_l0 k (impl_tracer_all_on_renumbering_c1 k) t n (k' + 1) c ds u = _
          rw [hstep, hok]; rfl
        · rw [show ((c : Int) + 1).toNat = c + 1 by omega, hpre]
          unfold esub
          rw [hok, if_neg (by simp), List.append_nil]
          exact q4
      | true =>
        obtain ⟨p1, p2⟩ := spl_one ds n c (by omega)
        rw [q3] at p2
        obtain ⟨es, g1, g2, g3, g4⟩ := ih (splicedL ds (0 + n) ([(c : Int)].length) [(c : Int)]) (n + 1) u k (by omega) (by rw [p1, q2]) (by rw [p2]; exact isRen_snoc hr (by omega) hok) q5 (by omega)
        rw [p2] at g2 g3 g4
        have g2' : es.take n = l := by
          have : (es.take (n + 1)).take n = (l ++ [(c : Int)]).take n := by rw [g2]
          have e2 : (l ++ [(c : Int)]).take n = l := by rw [List.take_append_of_le_length (by omega), List.take_of_length_le (by omega)]
          rw [List.take_take, show min n (n + 1) = n by omega, e2] at this
          exact this
        have hsub : esub t.y.p.toNat (okT t) d l c = exts t.y.p.toNat (okT t) d (l ++ [(c : Int)]) := by unfold esub; rw [hok, if_pos rfl]
        have hr2 : runT cb (epre t.y.p.toNat (okT t) d l (c + 1)) s = runT cb (exts t.y.p.toNat (okT t) d (l ++ [(c : Int)])) u := by
          rw [hpre, runT_app, q4, hsub]; rfl
        rw [show n + [(c : Int)].length = n + 1 from rfl] at hstep
        cases hb : (runT cb (exts t.y.p.toNat (okT t) d (l ++ [(c : Int)])) u).1 with
        | true =>
          left
          refine ⟨(es, (runT cb (exts t.y.p.toNat (okT t) d (l ++ [(c : Int)])) u).2), ?_, by omega, g1, g2', ?_, g4 hb⟩
          · show impl_tracer_all_on_renumbering_c1_l0 k (impl_tracer_all_on_renumbering_c1 k) t n (k' + 1) c ds u = _
            rw [hstep, hok, if_pos rfl, g3, hb]; rfl
          · rw [show ((c : Int) + 1).toNat = c + 1 by omega, hr2, ← hb]
        | false =>
          right
          refine ⟨.inr (false, es, (runT cb (exts t.y.p.toNat (okT t) d (l ++ [(c : Int)])) u).2), ?_, es, g1, g2', .inr ⟨_, rfl, ?_⟩⟩
          · show impl_tracer_all_on_renumbering_c1_l0 k (impl_tracer_all_on_renumbering_c1 k) t n (k' + 1) c ds u = _
            rw [hstep, hok, if_pos rfl, g3, hb]; rfl
          · rw [hB, runT_app, hr2, hb]; rfl
    · rintro k' j ⟨ds, u⟩ h0 h1 ⟨q1, q2, q3, q4, q5⟩
      dsimp only at q2 q3 q4 q5
      refine ⟨.inl (ds, u), ?_, ds, q2, q3, .inl ⟨u, rfl, ?_, q5⟩⟩
      · show impl_tracer_all_on_renumbering_c1_l0 k (impl_tracer_all_on_renumbering_c1 k) t n (k' + 1) j ds u = _
        rw [impl_tracer_all_on_renumbering_c1_l0, if_neg (by simp only [decide_eq_true_eq]; omega)]
      · rw [show j.toNat = t.y.p.toNat by omega] at q4
        exact q4
end Go.Proofs.YtfnbhfobgimnjaaGreat
