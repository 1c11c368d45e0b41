/- Plain laws of FnTriangles, part one: triangles, angles, clique numbers. No conditions beyond those that each lemma states. -/
import Derived.Test.YtfoijbdnkkaceaaPureY20
set_option linter.unusedVariables false
set_option linter.unusedSimpArgs false
namespace Go.Proofs.Ytfoijbdnkkaceaa
open Go Go.RowKit Ab

def triN (x : Col) (c : Int) : Nat := (cl (aB x c) 3 (pts x)).length
theorem triN_le {x : Col} (hp : 1 ≤ x.p ∧ x.p ≤ 17) (c : Int) : triN x c ≤ 131072 := by
  unfold triN
  refine Nat.le_trans (cl_le _ _ _) ?_
  exact Nat.le_trans (Nat.pow_le_pow_right (by omega) (pts_len x hp).2) (by decide)
def trs (x : Col) : List Int := mapL x.k.toNat fun c => (triN x c : Int)

theorem triangles_val {k : Nat} (hk : 5000 ≤ k) (x : Col) :
    (¬ x.is ∧ impl_CountTriangles k x = some (none, 1) ∧ spec_CountTriangles k x = some ([], 1)) ∨ (x.is ∧ impl_CountTriangles k x = some (some (trs x), 0) ∧ spec_CountTriangles k x = some (trs x, 0)) := by
  obtain ⟨c1, c2⟩ := code_cases hk x
  unfold impl_CountTriangles spec_CountTriangles impl_always
  rw [specIs_eq k (by omega)]
  by_cases h : x.is
  · right
    have hkk := h.2.1
    refine ⟨h, ?_, ?_⟩
    · rw [(c1 h).1]
      unfold impl_Colouring_triangles
      have := collect (fun k' i s => impl_Colouring_triangles_l0 k x k' i s) x.k.toNat (fun c => (triN x c : Int)) (fun k' i s hi hl => by
        have h1 : (i : Int) < x.k := by omega
        have hc := count_eq hk x h.1 i 3 (fun a0 => some (impl_anyList a0)) (fun _ => true) (fun l _ => rfl)
        have hcc := cl_count x i 3
        rw [show ((3 : Nat) : Int) = 3 from rfl] at hcc
        rw [hcc] at hc
        have hl' : s.length + ([((triN x i : Nat) : Int)]).length ≤ 1099511627776 := by simp; omega
        rw [impl_Colouring_triangles_l0, hc, w64_id (by omega)]
        simp only [h1, decide_true, if_true, Option.bind_some]
        exact if_pos hl') (fun k' s => by
        have : ((x.k.toNat : Nat) : Int) = x.k := by omega
        rw [this, impl_Colouring_triangles_l0]; simp) k (by omega)
      simp only [Option.bind_some, decide_true, Bool.not_true, Bool.false_eq_true, if_false, this]
      rfl
    · obtain ⟨w1, w2, w3⟩ := whole_bits x h.1
      have := collect (fun k' i s => spec_CountTriangles_l0 k x k' i s) x.k.toNat (fun c => (triN x c : Int)) (fun k' i s hi hl => by
        have h1 : (i : Int) < x.k := by omega
        have hs := spec_count x h.1 i 3 (2 ^ x.p.toNat - 1) k w2 (by omega)
        rw [mem_all] at hs
        have hl' : s.length + ([((triN x i : Nat) : Int)]).length ≤ 1099511627776 := by simp; omega
        rw [spec_CountTriangles_l0, rows_val hk x h.1 i, w64_id (n := (i : Int) + 1) (by omega)]
        simp only [h1, decide_true, if_true, Option.bind_some, if_pos w3, w1]
        rw [show (3 : Int) = ((3 : Nat) : Int) from rfl, hs]
        simp only [Option.bind_some]
        exact if_pos hl') (fun k' s => by
        have : ((x.k.toNat : Nat) : Int) = x.k := by omega
        rw [this, spec_CountTriangles_l0]; simp) k (by omega)
      simp only [h, decide_true, Option.bind_some, Bool.not_true, Bool.false_eq_true, if_false, this]
      rfl
  · left
    rw [c2 h]
    refine ⟨h, ?_, ?_⟩ <;> simp [h]

theorem sum_val {k : Nat} (m : Nat) (f : Nat → Int) (hm : m ≤ 1000) (hk : m < k) (hf : ∀ i, i < m → 0 ≤ f i ∧ f i ≤ 1000000) : laws_sum k (mapL m f) = some (sg m f) := by
  unfold laws_sum
  have := accum (fun k' s i => laws_sum_l0 (mapL m f) k' s i) m f 1000000 1000000000 hf (fun k' i s hi h0 h1 => by
    have h2 : (i : Int) < ((mapL m f).length : Int) := by rw [mapL_length]; omega
    have h3 : (0 : Int) ≤ (i : Int) := by omega
    have := hf i hi
    rw [laws_sum_l0, w64_id (n := (i : Int) + 1) (by omega), Int.toNat_natCast, mapL_get m f i hi, w64_id (by omega)]
    simp only [h2, decide_true, if_true, h3, and_self]
    rfl) (fun k' s => by
    rw [laws_sum_l0, mapL_length]; simp) k hk (by omega) 0 (by omega) (by omega)
  rw [this]; simp

/-! ### Angles -/
theorem dprod_le {x : Col} (hp : 1 ≤ x.p ∧ x.p ≤ 17) (c d a : Int) : 0 ≤ (dgN x c a : Int) * dgN x d a ∧ (dgN x c a : Int) * dgN x d a ≤ 289 := by
  have h1 := dgN_le hp c a
  have h2 := dgN_le hp d a
  have : dgN x c a * dgN x d a ≤ 17 * 17 := Nat.mul_le_mul h1 h2
  rw [← Int.natCast_mul]
  omega

def anN (x : Col) : Int := AN x.cc x.p.toNat x.k.toNat
theorem anN_impl (x : Col) : (sg x.k.toNat fun c => sg c fun d => sg x.p.toNat fun a => (dgN x c a : Int) * dgN x d a) = anN x := by
  unfold anN AN pr
  have : ∀ c : Nat, (sg c fun d => sg x.p.toNat fun a => (dgN x c a : Int) * dgN x d a) = sg x.p.toNat fun a => sg c fun d => (dgN x c a : Int) * dgN x d a := fun c => sg_comm c _ _
  rw [sg_congr fun c _ => this c, sg_comm]
  exact sg_congr fun a _ => sg_congr fun c _ => sg_congr fun d _ => by rw [dgN_dg, dgN_dg]
theorem anN_spec (x : Col) : (sg x.p.toNat fun a => sg x.k.toNat fun c => sg c fun d => (dgN x c a : Int) * dgN x d a) = anN x := by
  unfold anN AN pr
  exact sg_congr fun a _ => sg_congr fun c _ => sg_congr fun d _ => by rw [dgN_dg, dgN_dg]

theorem deg_ones {k : Nat} (hk : 5000 ≤ k) (x : Col) (hp : 1 ≤ x.p ∧ x.p ≤ 17) (c : Int) (a : Nat) (ha : (a : Int) < x.p) : ∃ b, spec_l01Around k x a c = some b ∧ spec_l01Ones k b = some (dgN x c a : Int) := by
  refine ⟨_, around_nb k x hp (by omega) c a ha, ?_⟩
  rw [ones_val (k := k) (n := x.p.toNat) (s := nb x c a) (by omega) (by omega) (bitsN_lt _ _)]
  congr 2
  unfold dgN pts
  congr 1
  unfold mem
  apply List.filter_congr
  intro b hb
  rw [mem_ir] at hb
  have h1 : b.toNat < x.p.toNat := by omega
  have h2 : ((b.toNat : Nat) : Int) = b := by omega
  rw [nb_test, h2]; simp [h1]

theorem angles_val {k : Nat} (hk : 5000 ≤ k) (x : Col) :
    (¬ x.is ∧ impl_AngleNumber k x = some (0, 1) ∧ spec_AngleNumber k x = some (0, 1)) ∨ (x.is ∧ impl_AngleNumber k x = some (anN x, 0) ∧ spec_AngleNumber k x = some (anN x, 0)) := by
  obtain ⟨c1, c2⟩ := code_cases hk x
  unfold impl_AngleNumber spec_AngleNumber impl_always
  rw [specIs_eq k (by omega)]
  by_cases h : x.is
  · right
    have hkk := h.2.1
    have hp := h.1
    have ep : ((x.p.toNat : Nat) : Int) = x.p := by omega
    have ek : ((x.k.toNat : Nat) : Int) = x.k := by omega
    have b1 : ∀ c d : Int, 0 ≤ (sg x.p.toNat fun a => (dgN x c a : Int) * dgN x d a) ∧ (sg x.p.toNat fun a => (dgN x c a : Int) * dgN x d a) ≤ 5000 := fun c d => by
      have := sg_range (n := x.p.toNat) (f := fun a => (dgN x c a : Int) * dgN x d a) (b := 289) fun a _ => dprod_le hp c d a
      omega
    have b2 : ∀ c : Nat, c < x.k.toNat → 0 ≤ (sg c fun d => sg x.p.toNat fun a => (dgN x c a : Int) * dgN x d a) ∧ (sg c fun d => sg x.p.toNat fun a => (dgN x c a : Int) * dgN x d a) ≤ 20000 := fun c hc => by
      have := sg_range (n := c) (f := fun d => sg x.p.toNat fun a => (dgN x c a : Int) * dgN x d a) (b := 5000) fun d _ => b1 c d
      omega
    have b3 : ∀ (a : Int) (c : Nat), c < x.k.toNat → 0 ≤ (sg c fun d => (dgN x c a : Int) * dgN x d a) ∧ (sg c fun d => (dgN x c a : Int) * dgN x d a) ≤ 1200 := fun a c hc => by
      have := sg_range (n := c) (f := fun d => (dgN x c a : Int) * dgN x d a) (b := 289) fun d _ => dprod_le hp c d a
      omega
    have b4 : ∀ a : Int, 0 ≤ (sg x.k.toNat fun c => sg c fun d => (dgN x c a : Int) * dgN x d a) ∧ (sg x.k.toNat fun c => sg c fun d => (dgN x c a : Int) * dgN x d a) ≤ 5000 := fun a => by
      have := sg_range (n := x.k.toNat) (f := fun c => sg c fun d => (dgN x c a : Int) * dgN x d a) (b := 1200) fun c hc => b3 a c hc
      omega
    refine ⟨h, ?_, ?_⟩
    · rw [(c1 h).1]
      have l2 : ∀ (c d : Nat) (s : Int), 0 ≤ s → s ≤ 1000000000 → impl_AngleNumber_l2 (mapL x.p.toNat fun a => (dgN x d a : Int)) (mapL x.p.toNat fun a => (dgN x c a : Int)) k s 0 = some (s + sg x.p.toNat fun a => (dgN x c a : Int) * dgN x d a) := fun c d s g0 g1 =>
        accum (fun k' s i => impl_AngleNumber_l2 (mapL x.p.toNat fun a => (dgN x d a : Int)) (mapL x.p.toNat fun a => (dgN x c a : Int)) k' s i) x.p.toNat (fun a => (dgN x c a : Int) * dgN x d a) 289 2000000000 (fun i _ => dprod_le hp c d i) (fun k' i s hi h0 h1 => by
          have h2 : (i : Int) < ((mapL x.p.toNat fun a => (dgN x c a : Int)).length : Int) := by rw [mapL_length]; omega
          have h2' : (i : Int) < ((mapL x.p.toNat fun a => (dgN x d a : Int)).length : Int) := by rw [mapL_length]; omega
          have h3 : (0 : Int) ≤ (i : Int) := by omega
          have := dprod_le hp c d i
          rw [impl_AngleNumber_l2, w64_id (n := (i : Int) + 1) (by omega), Int.toNat_natCast, mapL_get _ _ i hi, mapL_get _ _ i hi, w64_id (n := _ * _) (by omega), w64_id (by omega)]
          simp only [h2, h2', decide_true, if_true, h3, and_self]
          rfl) (fun k' s => by
          rw [impl_AngleNumber_l2, mapL_length, mapL_length]; simp) k (by omega) (by omega) s g0 (by omega)
      have l1 : ∀ (c : Nat) (s : Int), c < x.k.toNat → 0 ≤ s → s ≤ 100000000 → impl_AngleNumber_l1 k x c k s 0 = some (s + sg c fun d => sg x.p.toNat fun a => (dgN x c a : Int) * dgN x d a) := fun c s hc g0 g1 =>
        accum (fun k' s i => impl_AngleNumber_l1 k x c k' s i) c (fun d => sg x.p.toNat fun a => (dgN x c a : Int) * dgN x d a) 5000 1000000000 (fun i _ => b1 c i) (fun k' i s hi h0 h1 => by
          have h2 : (i : Int) < (c : Int) := by omega
          rw [impl_AngleNumber_l1, degrees_val x hp (by omega) i, degrees_val x hp (by omega) c, w64_id (n := (i : Int) + 1) (by omega)]
          simp only [h2, decide_true, if_true, Option.bind_some, l2 c i s h0 (by omega)]
          rfl) (fun k' s => by
          rw [impl_AngleNumber_l1]; simp) k (by omega) (by omega) s g0 (by omega)
      have l0 := accum (fun k' s i => impl_AngleNumber_l0 k x k' s i) x.k.toNat (fun c => sg c fun d => sg x.p.toNat fun a => (dgN x c a : Int) * dgN x d a) 20000 100000000 b2 (fun k' i s hi h0 h1 => by
        have h2 : (i : Int) < x.k := by omega
        rw [impl_AngleNumber_l0, l1 i s hi h0 (by omega), w64_id (n := (i : Int) + 1) (by omega)]
        simp only [h2, decide_true, if_true, Option.bind_some]
        rfl) (fun k' s => by
        rw [ek, impl_AngleNumber_l0]; simp) k (by omega) (by omega) 0 (by omega) (by omega)
      rw [anN_impl, Int.zero_add] at l0
      simp only [Option.bind_some, decide_true, Bool.not_true, Bool.false_eq_true, if_false, l0]
    · have l2 : ∀ (a c : Nat) (s : Int), a < x.p.toNat → c < x.k.toNat → 0 ≤ s → s ≤ 1000000000 → spec_AngleNumber_l2 k x a c k s 0 = some (s + sg c fun d => (dgN x c a : Int) * dgN x d a) := fun a c s ha hc g0 g1 =>
        accum (fun k' s i => spec_AngleNumber_l2 k x a c k' s i) c (fun d => (dgN x c a : Int) * dgN x d a) 289 2000000000 (fun i _ => dprod_le hp c i a) (fun k' i s hi h0 h1 => by
          have h2 : (i : Int) < (c : Int) := by omega
          obtain ⟨u, e1, e2⟩ := deg_ones hk x hp c a (by omega)
          obtain ⟨v, e3, e4⟩ := deg_ones hk x hp i a (by omega)
          have := dprod_le hp c i a
          rw [spec_AngleNumber_l2, e1, e3, w64_id (n := (i : Int) + 1) (by omega)]
          simp only [h2, decide_true, if_true, Option.bind_some, e2, e4]
          rw [w64_id (n := _ * _) (by omega), w64_id (by omega)]
          rfl) (fun k' s => by
          rw [spec_AngleNumber_l2]; simp) k (by omega) (by omega) s g0 (by omega)
      have l1 : ∀ (a : Nat) (s : Int), a < x.p.toNat → 0 ≤ s → s ≤ 100000000 → spec_AngleNumber_l1 k x a k s 0 = some (s + sg x.k.toNat fun c => sg c fun d => (dgN x c a : Int) * dgN x d a) := fun a s ha g0 g1 =>
        accum (fun k' s i => spec_AngleNumber_l1 k x a k' s i) x.k.toNat (fun c => sg c fun d => (dgN x c a : Int) * dgN x d a) 1200 1000000000 (fun i hi => b3 a i hi) (fun k' i s hi h0 h1 => by
          have h2 : (i : Int) < x.k := by omega
          rw [spec_AngleNumber_l1, l2 a i s ha hi h0 (by omega), w64_id (n := (i : Int) + 1) (by omega)]
          simp only [h2, decide_true, if_true, Option.bind_some]
          rfl) (fun k' s => by
          rw [ek, spec_AngleNumber_l1]; simp) k (by omega) (by omega) s g0 (by omega)
      have l0 := accum (fun k' s i => spec_AngleNumber_l0 k x k' s i) x.p.toNat (fun a => sg x.k.toNat fun c => sg c fun d => (dgN x c a : Int) * dgN x d a) 5000 100000000 (fun a _ => b4 a) (fun k' i s hi h0 h1 => by
        have h2 : (i : Int) < x.p := by omega
        rw [spec_AngleNumber_l0, l1 i s hi h0 (by omega), w64_id (n := (i : Int) + 1) (by omega)]
        simp only [h2, decide_true, if_true, Option.bind_some]
        rfl) (fun k' s => by
        rw [ep, spec_AngleNumber_l0]; simp) k (by omega) (by omega) 0 (by omega) (by omega)
      rw [anN_spec, Int.zero_add] at l0
      simp only [h, decide_true, Option.bind_some, Bool.not_true, Bool.false_eq_true, if_false, l0]
  · left
    rw [c2 h]
    refine ⟨h, ?_, ?_⟩ <;> simp [h]

/-! ### Clique numbers -/
def gwN (x : Col) (c : Int) : Nat := (grt (acl x c) []).length
def nums (x : Col) : List Int := mapL x.k.toNat fun c => (gwN x c : Int)
theorem isGrt_gw {x : Col} {c : Int} {w : Nat} {l : List Int} (h : isGrt x c w l) : gwN x c = w := by
  unfold gwN
  rw [grt_is h]
  exact cl_len _ _ _ l (List.mem_of_mem_head? (by rw [h.2.2.1]; rfl))
theorem numbers_val {k : Nat} (hk : 5000 ≤ k) (x : Col) :
    (¬ x.is ∧ impl_CliqueNumbers k x = some (none, 1) ∧ spec_CliqueNumbers k x = some ([], 1)) ∨ (x.is ∧ impl_CliqueNumbers k x = some (some (nums x), 0) ∧ spec_CliqueNumbers k x = some (nums x, 0)) := by
  obtain ⟨c1, c2⟩ := code_cases hk x
  unfold impl_CliqueNumbers spec_CliqueNumbers impl_always
  rw [specIs_eq k (by omega)]
  by_cases h : x.is
  · right
    have hkk := h.2.1
    have ek : ((x.k.toNat : Nat) : Int) = x.k := by omega
    refine ⟨h, ?_, ?_⟩
    · rw [(c1 h).1]
      unfold impl_Colouring_cliqueNumbers
      have := collect (fun k' i s => impl_Colouring_cliqueNumbers_l0 k x k' i s) x.k.toNat (fun c => (gwN x c : Int)) (fun k' i s hi hl => by
        have h1 : (i : Int) < x.k := by omega
        have hl' : s.length + ([(impl_size (grt (acl x i) []))]).length ≤ 1099511627776 := by simp; omega
        rw [impl_Colouring_cliqueNumbers_l0, greatest_eq hk x h.1 i, w64_id (by omega)]
        simp only [h1, decide_true, if_true, Option.bind_some, hl']
        rfl) (fun k' s => by rw [ek, impl_Colouring_cliqueNumbers_l0]; simp) k (by omega)
      simp only [Option.bind_some, decide_true, Bool.not_true, Bool.false_eq_true, if_false, this]
      rfl
    · have := collect (fun k' i s => spec_CliqueNumbers_l0 k x k' i s) x.k.toNat (fun c => (gwN x c : Int)) (fun k' i s hi hl => by
        have h1 : (i : Int) < x.k := by omega
        obtain ⟨w, l, e, hg⟩ := specGreatest_val hk x h.1 i
        have hlen : l.length = gwN x i := by rw [isGrt_gw hg]; exact cl_len _ _ _ l (List.mem_of_mem_head? (by rw [hg.2.2.1]; rfl))
        have hl' : s.length + ([(l.length : Int)]).length ≤ 1099511627776 := by simp; omega
        rw [spec_CliqueNumbers_l0, e, w64_id (by omega)]
        simp only [h1, decide_true, if_true, Option.bind_some, hl']
        rw [hlen]
        rfl) (fun k' s => by rw [ek, spec_CliqueNumbers_l0]; simp) k (by omega)
      simp only [h, decide_true, Option.bind_some, Bool.not_true, Bool.false_eq_true, if_false, this]
      rfl
  · left
    rw [c2 h]
    refine ⟨h, ?_, ?_⟩ <;> simp [h]
end Go.Proofs.Ytfoijbdnkkaceaa
