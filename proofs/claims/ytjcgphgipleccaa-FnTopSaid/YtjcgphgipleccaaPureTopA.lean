/- Plain laws: sets of points renumbered, cliques and their numbers. No conditions beyond those that each lemma states. -/
import Derived.Test.YtjcgphgipleccaaPureExt29
set_option linter.unusedVariables false
set_option linter.unusedSimpArgs false
namespace Go.Proofs.Ytjcgphgipleccaa
open Go Go.RowKit Ab

/-! ### Lists without twice the same -/
theorem sub_len {α : Type} [BEq α] [LawfulBEq α] : ∀ (A B : List α), A.Nodup → (∀ a ∈ A, a ∈ B) → A.length ≤ B.length
  | [], B, _, _ => by simp
  | a :: t, B, hn, h => by
    obtain ⟨h1, h2⟩ := List.nodup_cons.1 hn
    have ha := h a (by simp)
    have := sub_len t (B.erase a) h2 fun b hb => (List.mem_erase_of_ne (fun e => h1 (by rw [← e]; exact hb))).2 (h b (by simp [hb]))
    rw [List.length_erase_of_mem ha] at this
    have := List.length_pos_of_mem ha
    simp only [List.length_cons]
    omega
theorem nodup_map_on {α β : Type} (f : α → β) (L : List α) (hn : L.Nodup) (hf : ∀ a ∈ L, ∀ b ∈ L, f a = f b → a = b) : (L.map f).Nodup := by
  unfold List.Nodup
  rw [List.pairwise_map]
  exact List.Pairwise.imp_of_mem (fun ha hb hne e => hne (hf _ ha _ hb e)) hn
theorem cl_nodup {adj : Int → Int → Bool} : ∀ (l : List Int), l.Nodup → ∀ m, (cl adj m l).Nodup := by
  refine len_ind fun l ih hn m => ?_
  cases m with
  | zero => rw [cl_zero]; simp
  | succ m =>
    cases l with
    | nil => rw [cl_nil]; simp
    | cons v t =>
      obtain ⟨h1, h2⟩ := List.nodup_cons.1 hn
      rw [cl_cons, List.nodup_append]
      refine ⟨nodup_map_on _ _ (ih (t.filter (adj v)) (flt_lt (adj := adj) v t) (h2.sublist List.filter_sublist) m) (fun a _ b _ e => by simpa using e), ih t (by simp) h2 (m + 1), fun a ha b hb e => ?_⟩
      subst e
      obtain ⟨q, _, rfl⟩ := List.mem_map.1 ha
      have := ((mem_cl _ _ _ _).1 hb).1.subset (by simp : v ∈ v :: q)
      exact h1 this

/-! ### Sets of points renumbered -/
def fz (l : List Int) (z : Int) : Int := l.getD z.toNat 0
def img (l : List Int) (N : Nat) (Z : List Int) : List Int := (ir 0 N).filter fun q => decide (q ∈ Z.map (fz l))
section
variable {l : List Int} {N : Nat} (ho : isOrd l N)
include ho
theorem fz_range {z : Int} (h0 : 0 ≤ z) (h1 : z < N) : 0 ≤ fz l z ∧ fz l z < N := by
  obtain ⟨a, e, ha⟩ := ord_at ho (i := z.toNat) (by omega)
  unfold fz
  omega
theorem fz_inj {a b : Int} (h0 : 0 ≤ a) (h1 : a < N) (h2 : 0 ≤ b) (h3 : b < N) (e : fz l a = fz l b) : a = b := by
  have := ord_ne ho (i := a.toNat) (j := b.toNat) (by omega) (by omega) e
  omega
theorem fz_nodup {Z : List Int} (hz : ∀ z ∈ Z, 0 ≤ z ∧ z < N) (hn : Z.Nodup) : (Z.map (fz l)).Nodup :=
  nodup_map_on _ _ hn fun a ha b hb e => fz_inj ho (hz a ha).1 (hz a ha).2 (hz b hb).1 (hz b hb).2 e
theorem mem_img {Z : List Int} (hz : ∀ z ∈ Z, 0 ≤ z ∧ z < N) {q : Int} : q ∈ img l N Z ↔ ∃ z ∈ Z, fz l z = q := by
  unfold img
  rw [List.mem_filter, decide_eq_true_eq, List.mem_map]
  constructor
  · exact fun h => h.2
  · rintro ⟨z, h1, rfl⟩
    have := fz_range ho (hz z h1).1 (hz z h1).2
    exact ⟨mem_ir.2 (by omega), z, h1, rfl⟩
theorem img_len {Z : List Int} (hz : ∀ z ∈ Z, 0 ≤ z ∧ z < N) (hn : Z.Nodup) : (img l N Z).length = Z.length := by
  have hp : (img l N Z).Perm (Z.map (fz l)) := (List.perm_ext_iff_of_nodup ((ir_nodup 0 N).sublist List.filter_sublist) (fz_nodup ho hz hn)).2 fun q => by
    rw [List.mem_map]
    exact mem_img ho hz
  rw [hp.length_eq, List.length_map]
theorem img_inj {Z W : List Int} (hz : ∀ z ∈ Z, 0 ≤ z ∧ z < N) (hw : ∀ z ∈ W, 0 ≤ z ∧ z < N) (h1 : Z.Pairwise (· < ·)) (h2 : W.Pairwise (· < ·)) (e : img l N Z = img l N W) : Z = W := by
  refine pw_ext _ _ h1 h2 fun q => ?_
  have key : ∀ A B : List Int, (∀ z ∈ A, 0 ≤ z ∧ z < N) → (∀ z ∈ B, 0 ≤ z ∧ z < N) → img l N A = img l N B → ∀ q ∈ A, q ∈ B := fun A B ha hb e q hq => by
    have : fz l q ∈ img l N A := (mem_img ho ha).2 ⟨q, hq, rfl⟩
    rw [e] at this
    obtain ⟨z, h3, h4⟩ := (mem_img ho hb).1 this
    have := fz_inj ho (hb z h3).1 (hb z h3).2 (ha q hq).1 (ha q hq).2 h4
    rw [← this]; exact h3
  exact ⟨key Z W hz hw e q, key W Z hw hz e.symm q⟩
end
theorem img_sub (l : List Int) (N : Nat) (Z : List Int) : (img l N Z).Sublist (ir 0 N) := List.filter_sublist

theorem pts_in {x : Col} {Z : List Int} (h : Z.Sublist (pts x)) : ∀ z ∈ Z, 0 ≤ z ∧ z < (x.p.toNat : Int) := fun z hz => by
  have := mem_ir.1 (h.subset hz)
  omega
theorem ord_nat {x : Col} (hp : 1 ≤ x.p ∧ x.p ≤ 17) {l : List Int} (ho : isOrd l x.p) : isOrd l (x.p.toNat : Int) := by
  rw [show ((x.p.toNat : Nat) : Int) = x.p by omega]; exact ho
theorem ren_p (x : Col) {l : List Int} (h : x.is) (ho : isOrd l x.p) : (ren x l).p = x.p := (ren_RI h.1 ho).p
theorem ren_k (x : Col) {l : List Int} (h : x.is) (ho : isOrd l x.p) : (ren x l).k = x.k := (ren_RI h.1 ho).k
theorem aB_ren {x : Col} (h : x.is) {l : List Int} (ho : isOrd l x.p) (c : Int) {a b : Int} (ha : 0 ≤ a ∧ a < x.p) (hb : 0 ≤ b ∧ b < x.p) (hab : a ≠ b) : aB (ren x l) c (fz l a) (fz l b) = aB x c a b := by
  have hp := h.1
  have hne : fz l a ≠ fz l b := fun e => hab (fz_inj (ord_nat hp ho) ha.1 (by omega) hb.1 (by omega) e)
  have := ren_cc h ho (a := a.toNat) (b := b.toNat) (by omega) (by omega) (by omega)
  rw [show ((a.toNat : Nat) : Int) = a by omega, show ((b.toNat : Nat) : Int) = b by omega] at this
  unfold aB
  rw [decide_eq_decide]
  unfold fz at hne ⊢
  rw [this]
  exact ⟨fun q => ⟨hab, q.2⟩, fun q => ⟨hne, q.2⟩⟩
theorem cl_img {x : Col} (h : x.is) {l : List Int} (ho : isOrd l x.p) (c : Int) {m : Nat} {Z : List Int} (hZ : Z ∈ cl (aB x c) m (pts x)) : img l x.p.toNat Z ∈ cl (aB (ren x l) c) m (pts (ren x l)) := by
  have hp := h.1
  have on := ord_nat hp ho
  obtain ⟨h1, h2, h3⟩ := (mem_cl _ _ _ _).1 hZ
  have hin := pts_in h1
  have hlt : Z.Pairwise (· < ·) := ir_pair.sublist h1
  have hnd : Z.Nodup := hlt.imp fun h => by omega
  rw [mem_cl]
  refine ⟨?_, ?_, by rw [img_len on hin hnd, h3]⟩
  · unfold pts
    rw [ren_p x h ho]
    exact img_sub _ _ _
  · have hI : (img l x.p.toNat Z).Pairwise (· < ·) := (ir_pw 0 _).sublist (img_sub _ _ _)
    refine List.Pairwise.imp_of_mem (R := fun a b : Int => a < b) (fun {a b} hA hB hab => ?_) hI
    obtain ⟨u, hu, rfl⟩ := (mem_img on hin).1 hA
    obtain ⟨v, hv, rfl⟩ := (mem_img on hin).1 hB
    have hu2 := hin u hu
    have hv2 := hin v hv
    have huv : u ≠ v := fun e => by subst e; omega
    rw [aB_ren h ho c (by omega) (by omega) huv]
    have key : ∀ a b : Int, a ∈ Z → b ∈ Z → a < b → aB x c a b = true := fun a b hA hB hab => by
      obtain ⟨p, hp1, hp2⟩ := List.getElem_of_mem hA
      obtain ⟨q, hq1, hq2⟩ := List.getElem_of_mem hB
      rcases Nat.lt_trichotomy p q with w | w | w
      · have := (List.pairwise_iff_getElem.1 h2) p q hp1 hq1 w
        rw [hp2, hq2] at this
        exact this
      · subst w; rw [hp2] at hq2; omega
      · have := (List.pairwise_iff_getElem.1 hlt) q p hq1 hp1 w
        rw [hp2, hq2] at this
        omega
    rcases Int.lt_or_gt_of_ne huv with w | w
    · exact key u v hu hv w
    · rw [aB_comm]; exact key v u hv hu w
theorem cl_le_ren {x : Col} (h : x.is) {l : List Int} (ho : isOrd l x.p) (c : Int) (m : Nat) : (cl (aB x c) m (pts x)).length ≤ (cl (aB (ren x l) c) m (pts (ren x l))).length := by
  have hp := h.1
  have on := ord_nat hp ho
  have hn : (cl (aB x c) m (pts x)).Nodup := cl_nodup _ (ir_nodup 0 _) m
  have h1 : ((cl (aB x c) m (pts x)).map (img l x.p.toNat)).Nodup := nodup_map_on _ _ hn fun a ha b hb e => by
    have ha1 := ((mem_cl _ _ _ _).1 ha).1
    have hb1 := ((mem_cl _ _ _ _).1 hb).1
    exact img_inj on (pts_in ha1) (pts_in hb1) (ir_pair.sublist ha1) (ir_pair.sublist hb1) e
  have := sub_len _ (cl (aB (ren x l) c) m (pts (ren x l))) h1 fun a ha => by
    obtain ⟨Z, hZ, rfl⟩ := List.mem_map.1 ha
    exact cl_img h ho c hZ
  rw [List.length_map] at this
  exact this

/-! ### The way back -/
def inv (l : List Int) (N q : Nat) : Nat := ((List.range N).find? fun i => decide (l.getD i 0 = (q : Int))).getD 0
theorem inv_ok {l : List Int} {N : Nat} (ho : isOrd l N) {q : Nat} (hq : q < N) : inv l N q < N ∧ l.getD (inv l N q) 0 = (q : Int) := by
  obtain ⟨i, hi, e⟩ := ord_surj ho hq
  unfold inv
  cases hf : (List.range N).find? (fun i => decide (l.getD i 0 = (q : Int))) with
  | none =>
    exact absurd (decide_eq_true e) (List.find?_eq_none.1 hf i (List.mem_range.2 hi))
  | some j =>
    have h1 := List.find?_some hf
    have h2 := List.mem_range.1 (List.mem_of_find?_eq_some hf)
    simp only [Option.getD_some]
    exact ⟨h2, of_decide_eq_true h1⟩
def bkL (l : List Int) (N : Nat) : List Int := mapL N fun q => (inv l N q : Int)
theorem bk_get (l : List Int) {N q : Nat} (hq : q < N) : (bkL l N).getD q 0 = (inv l N q : Int) := mapL_get _ _ _ hq
theorem bk_ord {l : List Int} {N : Nat} (ho : isOrd l N) : isOrd (bkL l N) N := by
  have hl : (bkL l N).length = N := mapL_length _ _
  refine ⟨by rw [hl], fun a ha => ?_, fun i j hij hj e => ?_⟩
  · rw [hl] at ha
    rw [bk_get l ha]
    have := (inv_ok ho ha).1
    omega
  · rw [hl] at hj
    rw [bk_get l (by omega), bk_get l hj] at e
    have h1 := (inv_ok ho (show i < N by omega)).2
    have h2 := (inv_ok ho hj).2
    rw [show inv l N i = inv l N j by omega, h2] at h1
    omega
theorem bk_back {l : List Int} {N : Nat} (ho : isOrd l N) {i : Nat} (hi : i < N) : (bkL l N).getD (l.getD i 0).toNat 0 = i := by
  obtain ⟨a, e, ha⟩ := ord_at ho hi
  rw [e, Int.toNat_natCast, bk_get l ha]
  have h1 := (inv_ok ho ha).2
  have := ord_ne ho (inv_ok ho ha).1 hi (by rw [h1, e])
  omega
theorem ren_ren {x : Col} (h : x.is) {l : List Int} (ho : isOrd l x.p) : isOrd (bkL l x.p.toNat) (ren x l).p ∧ ren (ren x l) (bkL l x.p.toNat) = x := by
  have hp := h.1
  have on := ord_nat hp ho
  have hb : isOrd (bkL l x.p.toNat) x.p := by
    have := bk_ord on
    rwa [show ((x.p.toNat : Nat) : Int) = x.p by omega] at this
  exact ⟨by rw [ren_p x h ho]; exact hb, ren_back h ho hb fun i hi => bk_back on (by omega)⟩
theorem cl_same {x : Col} (h : x.is) {l : List Int} (ho : isOrd l x.p) (c : Int) (m : Nat) : (cl (aB (ren x l) c) m (pts (ren x l))).length = (cl (aB x c) m (pts x)).length := by
  have h1 := cl_le_ren h ho c m
  obtain ⟨h2, h3⟩ := ren_ren h ho
  have h4 := cl_le_ren (ren_is h ho) h2 c m
  rw [h3] at h4
  omega

/-! ### Numbers of cliques -/
theorem grt_mem : ∀ (L : List (List Int)) (s : List Int), grt L s = s ∨ grt L s ∈ L
  | [], s => .inl rfl
  | a :: t, s => by
    show grt t (if s.length < a.length then a else s) = s ∨ grt t (if s.length < a.length then a else s) ∈ a :: t
    rcases grt_mem t (if s.length < a.length then a else s) with h | h
    · rw [h]
      split
      · exact .inr (by simp)
      · exact .inl rfl
    · exact .inr (List.mem_cons_of_mem _ h)
theorem grt_ge : ∀ (L : List (List Int)) (s : List Int), s.length ≤ (grt L s).length ∧ ∀ a ∈ L, a.length ≤ (grt L s).length
  | [], s => ⟨Nat.le_refl _, fun a h => by simp at h⟩
  | b :: t, s => by
    show s.length ≤ (grt t (if s.length < b.length then b else s)).length ∧ ∀ a ∈ b :: t, a.length ≤ (grt t (if s.length < b.length then b else s)).length
    obtain ⟨h1, h2⟩ := grt_ge t (if s.length < b.length then b else s)
    have h3 : s.length ≤ (if s.length < b.length then b else s).length ∧ b.length ≤ (if s.length < b.length then b else s).length := by
      split <;> omega
    refine ⟨by omega, fun a ha => ?_⟩
    rcases List.mem_cons.1 ha with rfl | ha
    · omega
    · exact h2 a ha
def gw (x : Col) (c : Int) : Nat := (grt (acl x c) []).length
/-- The greatest clique has at least m points if there is a clique of m points. -/
theorem gw_cl (x : Col) (c : Int) (m : Nat) : m ≤ gw x c ↔ cl (aB x c) m (pts x) ≠ [] := by
  constructor
  · intro h
    have hmem : grt (acl x c) [] ∈ acl x c := by
      rcases grt_mem (acl x c) [] with e | e
      · rw [e]; exact List.mem_cons_self
      · exact e
    obtain ⟨a, b⟩ := (mem_ac _ _ _).1 hmem
    have hm : grt (acl x c) [] ∈ cl (aB x c) (gw x c) (pts x) := (mem_cl _ _ _ _).2 ⟨a, b, rfl⟩
    have hne : cl (aB x c) (gw x c) (pts x) ≠ [] := List.ne_nil_of_mem hm
    obtain ⟨d, hd⟩ : ∃ d, gw x c = m + d := ⟨gw x c - m, by omega⟩
    rw [hd] at hne
    exact cl_down _ _ _ _ hne
  · intro h
    obtain ⟨Z, hZ⟩ := List.exists_mem_of_ne_nil _ h
    obtain ⟨h1, h2, h3⟩ := (mem_cl _ _ _ _).1 hZ
    have := (grt_ge (acl x c) []).2 Z ((mem_ac _ _ _).2 ⟨h1, h2⟩)
    unfold gw
    omega
theorem gw_same {x : Col} (h : x.is) {l : List Int} (ho : isOrd l x.p) (c : Int) : gw (ren x l) c = gw x c := by
  have key : ∀ m, m ≤ gw (ren x l) c ↔ m ≤ gw x c := fun m => by
    rw [gw_cl, gw_cl, ← List.length_pos_iff, ← List.length_pos_iff, cl_same h ho]
  have h1 := (key (gw (ren x l) c)).1 (Nat.le_refl _)
  have h2 := (key (gw x c)).2 (Nat.le_refl _)
  omega

/-! ### What the program answers -/
theorem cliques_val {k : Nat} (hk : 5000 ≤ k) {x : Col} (h : x.is) : impl_CliqueNumbers k x = some (some (mapL x.k.toNat fun c => (gw x c : Int)), 0) := by
  have hkk := h.2.1
  have ek : ((x.k.toNat : Nat) : Int) = x.k := by omega
  unfold impl_CliqueNumbers impl_always
  rw [((code_cases hk x).1 h).1]
  unfold impl_Colouring_cliqueNumbers
  have := collect (fun k' i s => impl_Colouring_cliqueNumbers_l0 k x k' i s) x.k.toNat (fun c => (gw x c : Int)) (fun k' i s hi hl => by
    have h1 : (i : Int) < x.k := by omega
    have hl' : s.length + ([(impl_size (grt (acl x i) []))]).length ≤ 1099511627776 := by simp; omega
    rw [impl_Colouring_cliqueNumbers_l0, greatest_eq hk x h.1 i, w64_id (by omega)]
    simp only [h1, decide_true, if_true, Option.bind_some, hl']
    rfl) (fun k' s => by rw [ek, impl_Colouring_cliqueNumbers_l0]; simp) k (by omega)
  simp only [Option.bind_some, decide_true, Bool.not_true, Bool.false_eq_true, if_false, this]
theorem triangles_val {k : Nat} (hk : 5000 ≤ k) {x : Col} (h : x.is) : impl_CountTriangles k x = some (some (mapL x.k.toNat fun c => ((cl (aB x c) 3 (pts x)).length : Int)), 0) := by
  have hkk := h.2.1
  have ek : ((x.k.toNat : Nat) : Int) = x.k := by omega
  unfold impl_CountTriangles impl_always
  rw [((code_cases hk x).1 h).1]
  unfold impl_Colouring_triangles
  have := collect (fun k' i s => impl_Colouring_triangles_l0 k x k' i s) x.k.toNat (fun c => ((cl (aB x c) 3 (pts x)).length : Int)) (fun k' i s hi hl => by
    have h1 : (i : Int) < x.k := by omega
    have hc := count_eq hk x h.1 i 3 (fun a0 => some (impl_anyList a0)) (fun _ => true) (fun l _ => rfl)
    have hcc : ((acl x i).countP fun l => decide ((l.length : Int) = 3) && true) = (cl (aB x i) 3 (pts x)).length := by
      rw [← acl_filter, List.countP_eq_length_filter]
      congr 1
      refine List.filter_congr fun l _ => ?_
      by_cases e : l.length = 3
      · simp [e]
      · simp [e]; omega
    rw [hcc] at hc
    have hl' : s.length + ([(((cl (aB x i) 3 (pts x)).length : Nat) : Int)]).length ≤ 1099511627776 := by simp; omega
    rw [impl_Colouring_triangles_l0, hc, w64_id (by omega)]
    simp only [h1, decide_true, if_true, Option.bind_some]
    exact if_pos hl') (fun k' s => by rw [ek, impl_Colouring_triangles_l0]; simp) k (by omega)
  simp only [Option.bind_some, decide_true, Bool.not_true, Bool.false_eq_true, if_false, this]
theorem renum_val {k : Nat} (hk : 5000 ≤ k) {x : Col} (h : x.is) {l : List Int} (ho : isOrd l x.p) : impl_RenumberPoints k x l = some (ren x l, 0) := by
  classical
  have hp := h.1
  have hl := ho.1
  unfold impl_RenumberPoints impl_RenumberPoints_c1
  rw [implOrder_eq k l x.p (by omega) (by omega), decide_eq_true ho]
  simp only [Option.bind_some, ((code_cases hk x).1 h).1, implRen_eq x l hp ho k (by omega)]
  rfl
end Go.Proofs.Ytjcgphgipleccaa
