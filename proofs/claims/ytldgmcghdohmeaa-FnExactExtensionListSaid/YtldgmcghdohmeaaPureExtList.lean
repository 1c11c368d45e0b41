/- The plain law of FnExactExtensionList: the program's list of extensions is the reference's, and marks stay. No conditions. -/
import Derived.Test.YtldgmcghdohmeaaPureMk41
set_option linter.unusedVariables false
set_option linter.unusedSimpArgs false
namespace Go.Proofs.Ytldgmcghdohmeaa
open Go Go.RowKit Ab

/-! ### The prints that keep the sizes are the prints -/
theorem search_l0_o1 (k : Nat) (self : Col → List Int → List Int → List Int → Int → Option (List (List Int))) (p0 : Col) (p1 p2 p3 : List Int) (p4 : Int) : ∀ (k0 : Nat) (a : Int) (b : List (List Int)), spec_l05Search_o1_l0 k self p0 p1 p2 p3 p4 k0 a b = spec_l05Search_l0 k self p0 p1 p2 p3 p4 k0 a b := by
  intro k0
  induction k0 with
  | zero => intro a b; rfl
  | succ k0 ih => intro a b; rw [spec_l05Search_o1_l0, spec_l05Search_l0]; simp only [ih]
theorem search_o1 : ∀ k, spec_l05Search_o1 k = spec_l05Search k := by
  intro k
  induction k with
  | zero => rfl
  | succ k ih =>
    funext p0 p1 p2 p3 p4
    rw [spec_l05Search_o1, spec_l05Search, ih]
    unfold spec_l05Search_o1_body spec_l05Search_body
    simp only [search_l0_o1]
theorem all_l0_o1 (p1 : List Int) : ∀ (k0 : Nat) (a : Int), spec_l05All_o1_l0 p1 k0 a = spec_l05All_l0 p1 k0 a := by
  intro k0
  induction k0 with
  | zero => intro a; rfl
  | succ k0 ih => intro a; rw [spec_l05All_o1_l0, spec_l05All_l0]; simp only [ih]
theorem specList_o1 (k : Nat) (x : Col) (sz : List Int) : spec_ExtensionList_o1 k x sz = spec_ExtensionList k x sz := by
  unfold spec_ExtensionList_o1 spec_ExtensionList spec_l05All_o1 spec_l05All
  simp only [search_o1, all_l0_o1]
theorem ext_l1_o1 (p0 : Col) (p2 : List Int) (p2n : Nat) (x4 : Int) (x5 : List Int) : ∀ (k0 : Nat) (a : Int) (b : List Int), impl_Colouring_extensions_o1_on_ExtensionList_c1_l1 p0 p2 p2n x4 x5 k0 a b = impl_Colouring_extensions_on_ExtensionList_c1_l1 p0 p2 p2n x4 x5 k0 a b := by
  intro k0
  induction k0 with
  | zero => intro a b; rfl
  | succ k0 ih => intro a b; rw [impl_Colouring_extensions_o1_on_ExtensionList_c1_l1, impl_Colouring_extensions_on_ExtensionList_c1_l1]; simp only [ih]
theorem ext_l0_o1 (k : Nat) (self : Col → List Int → List Int → Nat → List (List Int) → Option (Bool × List Int × List (List Int))) (p0 : Col) (p1 p2 : List Int) (p2n : Nat) : ∀ (k0 : Nat) (a : Int) (b : List Int) (c : List (List Int)), impl_Colouring_extensions_o1_on_ExtensionList_c1_l0 k self p0 p1 p2 p2n k0 a b c = impl_Colouring_extensions_on_ExtensionList_c1_l0 k self p0 p1 p2 p2n k0 a b c := by
  intro k0
  induction k0 with
  | zero => intro a b c; rfl
  | succ k0 ih => intro a b c; rw [impl_Colouring_extensions_o1_on_ExtensionList_c1_l0, impl_Colouring_extensions_on_ExtensionList_c1_l0]; simp only [ih, ext_l1_o1]
theorem ext_o1 : ∀ k, impl_Colouring_extensions_o1_on_ExtensionList_c1 k = impl_Colouring_extensions_on_ExtensionList_c1 k := by
  intro k
  induction k with
  | zero => rfl
  | succ k ih =>
    funext p0 p1 p2 p2n p3
    rw [impl_Colouring_extensions_o1_on_ExtensionList_c1, impl_Colouring_extensions_on_ExtensionList_c1, ih]
    unfold impl_Colouring_extensions_o1_on_ExtensionList_c1_body impl_Colouring_extensions_on_ExtensionList_c1_body
    simp only [ext_l0_o1]
theorem implList_o1 (k : Nat) (x : Col) (sz : List Int) : impl_ExtensionList_o1 k x sz = impl_ExtensionList k x sz := by
  unfold impl_ExtensionList_o1 impl_ExtensionList impl_Colouring_extend_o1_on_ExtensionList_c1 impl_Colouring_extend_on_ExtensionList_c1
  simp only [ext_o1]

theorem EX_nodup (x : Col) (sz : List Int) : (EX x sz).Nodup := exts_nodup _ _

theorem markSS_nil (k : Nat) : laws_markInt64SS (k + 1) [] 1 = some 1 := by
  unfold laws_markInt64SS
  rw [laws_markInt64SS_l0]; simp
theorem heldSS_nil (k : Nat) : laws_heldInt64SS (k + 1) [] 1 = some 1 := by
  unfold laws_heldInt64SS
  rw [laws_heldInt64SS_l0]; simp

theorem extList_ac (x : Col) (sz : List Int) : AC Try.prog 3 [.d (.agg (colD x)), .d (.sl none (intsD sz))] [] (fun res H' => res = [bV true] ∧ H' = []) := by
  obtain ⟨k, hk⟩ : ∃ k : Nat, k = 3000000 := ⟨_, rfl⟩
  by_cases hb : 1048576 < sz.length
  · refine laws_FnExactExtensionList_ac 1 x sz true ?_
    unfold laws_FnExactExtensionList
    rw [if_pos (decide_eq_true (by omega))]
  have h0 := toColouring_eq k (by omega) x
  have h1 := toInt64S_eq k sz (by omega) (by omega)
  obtain ⟨o, c, e1, e2, g1, g2, g3, g4, g5⟩ := listExt_val (k := k) (by omega) x sz (by omega)
  rw [← implList_o1] at e1
  rw [← specList_o1] at e2
  have h6 := eqInts_refl k sz (by omega) (by omega)
  have h7 := mark_eq k sz (by omega) (by omega)
  by_cases hc : c = 0
  · subst hc
    have ho := g1 (g5 rfl) rfl
    subst ho
    rw [Option.getD_some] at e2 g2 g3
    have hR : ∀ l ∈ EX x sz, l.length + 1 ≤ k ∧ (l.length : Int) ≤ 1099511627776 := fun l hl => by have := g3 l hl; omega
    have hm := markTo_eq k (EX x sz) 1 (by omega) 100 g3 (by omega) (by omega) (EX x sz).length (Nat.le_refl _)
    rw [List.take_length, List.drop_length, List.append_nil] at hm
    have hend := endR_le 1 100 (EX x sz) g3
    exact law_acE k x x sz sz _ (EX x sz) _ _ _ x.p.toNat (by omega) h0 h1 e2 e1 (eqRows_refl k _ (by omega) (by omega) hR) h6 h7 (by omega) hm (heldRows_eq k _ 1 (by omega) 100 g3 (by omega) (by omega) (by omega) (by omega)) (by omega) (EX_nodup x sz) EX_len
  · have ho := g4 hc
    subst ho
    rw [Option.getD_none] at e2
    refine laws_FnExactExtensionList_ac k x sz true ?_
    have hr := eqRows_refl k [] (by simp; omega) (by simp) (fun l hl => by cases hl)
    obtain ⟨k', rfl⟩ : ∃ k', k = k' + 1 := ⟨k - 1, by omega⟩
    have q1 := markSS_nil k'
    have q2 := heldSS_nil k'
    unfold laws_FnExactExtensionList
    rw [if_neg (by simp only [decide_eq_true_eq]; omega), h0, Option.bind_some, h1, Option.bind_some, e2, Option.bind_some, Option.bind_some, Option.bind_some, e1, Option.bind_some]
    dsimp only
    rw [hr]
    simp only [Option.bind_some, h6, h7, q1, q2, e1, hr, decide_true, Bool.not_true, Bool.false_eq_true, if_false, if_true]
    have hn : ¬ ((1 : Int) + (sz.length : Int) < 0) := by omega
    simp [hn]
end Go.Proofs.Ytldgmcghdohmeaa
