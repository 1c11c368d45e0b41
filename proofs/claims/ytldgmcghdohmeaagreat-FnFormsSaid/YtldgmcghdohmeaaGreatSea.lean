/- Own library: searches for renumberings (two colourings, two lists of types, how many at most, how many, the first) as plain data; their cells. No conditions. -/
import Derived.Test.YtldgmcghdohmeaaGreatCol
import Derived.Test.YtldgmcghdohmeaaGreatMg24
set_option linter.unusedVariables false
set_option linter.unusedSimpArgs false
namespace Go.Proofs.YtldgmcghdohmeaaGreat
open Go Go.RowKit Ab

/-- spec.l06Search. -/
structure Sea where
 x : Col
 y : Col
 one : List Int
 two : List Int
 most : Int
 count : Int
 first : List Int
def seaC (x y : Col) (c : List D) : List D := colD x ++ (colD y ++ c)
def seaD (s : Sea) : List D := seaC s.x s.y [.sl none (intsD s.one), .sl none (intsD s.two), iD s.most, iD s.count, .sl none (intsD s.first)]
/-- One that is just built: no list yet. -/
def seaN (s : Sea) : List D := seaC s.x s.y [.sl none (intsD s.one), .sl none (intsD s.two), iD s.most, iD 0, .sl (some true) []]
def seaZ : List D := seaC Col.zero Col.zero [.sl (some true) [], .sl (some true) [], iD 0, iD 0, .sl (some true) []]
theorem seaC_length (x y : Col) (c : List D) : (seaC x y c).length = 276 + c.length := by
 unfold seaC
 rw [List.length_append, List.length_append, colD_length, colD_length]
 omega
theorem seaD_length (s : Sea) : (seaD s).length = 281 := seaC_length _ _ _
theorem seaC_get (x y : Col) (c : List D) (i : Nat) : (seaC x y c)[276 + i]? = c[i]? := by
 unfold seaC
 rw [List.getElem?_append_right (by rw [colD_length]; omega), colD_length, List.getElem?_append_right (by rw [colD_length]; omega), colD_length, show 276 + i - 138 - 138 = i by omega]
theorem seaC_set (x y : Col) (c : List D) (i : Nat) (d : D) : (seaC x y c).set (276 + i) d = seaC x y (c.set i d) := by
 unfold seaC
 rw [List.set_append_right _ _ (by rw [colD_length]; omega), colD_length, List.set_append_right _ _ (by rw [colD_length]; omega), colD_length, show 276 + i - 138 - 138 = i by omega]
theorem seaD_one (s : Sea) : ∀ c ∈ seaD s, c.one = true := by
 intro c hc
 rcases List.mem_append.1 hc with h | h
 ·exact colD_one _ c h
 ·rcases List.mem_append.1 h with h | h
  ·exact colD_one _ c h
  ·simp only [List.mem_cons, List.not_mem_nil, or_false] at h
   rcases h with rfl | rfl | rfl | rfl | rfl <;> rfl
theorem seaD_a (s : Sea) : (seaD s)[276]? = some (.sl none (intsD s.one)) := seaC_get _ _ _ 0
theorem seaD_b (s : Sea) : (seaD s)[277]? = some (.sl none (intsD s.two)) := seaC_get _ _ _ 1
theorem seaD_m (s : Sea) : (seaD s)[278]? = some (iD s.most) := seaC_get _ _ _ 2
theorem seaD_c (s : Sea) : (seaD s)[279]? = some (iD s.count) := seaC_get _ _ _ 3
theorem seaD_setc (s : Sea) (v : Int) : (seaD s).set 279 (iD v) = seaD ⟨s.x, s.y, s.one, s.two, s.most, v, s.first⟩ := seaC_set _ _ _ 3 _
theorem seaD_setf (s : Sea) (l : List Int) : (seaD s).set 280 (.sl none (intsD l)) = seaD ⟨s.x, s.y, s.one, s.two, s.most, s.count, l⟩ := seaC_set _ _ _ 4 _
theorem seaD_x (s : Sea) : ((seaD s).drop 0).take 138 = colD s.x := by
 rw [List.drop_zero]; unfold seaD seaC
 rw [List.take_append_of_le_length (by rw [colD_length]; omega), colD_take]
theorem seaD_y (s : Sea) : ((seaD s).drop 138).take 138 = colD s.y := by
 unfold seaD seaC
 rw [List.drop_append_of_le_length (by rw [colD_length]; omega), List.drop_of_length_le (by rw [colD_length]; omega), List.nil_append, List.take_append_of_le_length (by rw [colD_length]; omega), colD_take]
theorem seaN_drop (s : Sea) (h : s.count = 0) (h2 : s.first = []) : (seaN s).set 280 (.sl none []) = seaD s := by
 unfold seaD
 rw [h, h2]
 exact seaC_set _ _ _ 4 _
theorem seaN_f (s : Sea) : (seaN s)[280]? = some (.sl (some true) []) := seaC_get _ _ _ 4

theorem spl_left (A B A' : List D) (h : A'.length = A.length) : spl (A ++ B) 0 A' = A' ++ B := by
 unfold spl
 rw [List.take_zero, List.nil_append, Nat.zero_add, h, List.drop_append_of_le_length (Nat.le_refl _), List.drop_length, List.nil_append]
theorem spl_right (A B C : List D) (k : Nat) : spl (A ++ B) (A.length + k) C = A ++ spl B k C := by
 unfold spl
 rw [List.take_append, List.take_of_length_le (by omega), Nat.add_sub_cancel_left, Nat.add_assoc, List.drop_append, List.drop_of_length_le (by omega), List.nil_append, Nat.add_sub_cancel_left]
 simp only [List.append_assoc]
theorem seaC_x (x y a : Col) (c : List D) : spl (seaC x y c) 0 (colD a) = seaC a y c := spl_left _ _ _ (by rw [colD_length, colD_length])
theorem seaC_y (x y a : Col) (c : List D) : spl (seaC x y c) 138 (colD a) = seaC x a c := by
 unfold seaC
 have := spl_right (colD x) (colD y ++ c) (colD a) 0
 rw [colD_length, Nat.add_zero, spl_left _ _ _ (by rw [colD_length, colD_length])] at this
 exact this
theorem seaC_c (x y : Col) (c : List D) (i : Nat) (d : D) : spl (seaC x y c) (276 + i) [d] = seaC x y (spl c i [d]) := by
 have h1 := spl_right (colD x) (colD y ++ c) [d] (138 + i)
 have h2 := spl_right (colD y) c [d] i
 rw [colD_length] at h1 h2
 rw [show 138 + (138 + i) = 276 + i by omega, h2] at h1
 exact h1
theorem sea_fill (s : Sea) : fillD [(0, 138), (138, 138), (276, 1), (277, 1), (278, 1), (279, 1), (280, 1)] seaZ [(0, .agg (colD s.x)), (1, .agg (colD s.y)), (2, .sl none (intsD s.one)), (3, .sl none (intsD s.two)), (4, iD s.most)] = some (seaN s) := by
 have e1 : spl seaZ 0 (colD s.x) = seaC s.x Col.zero [.sl (some true) [], .sl (some true) [], iD 0, iD 0, .sl (some true) []] := seaC_x _ _ _ _
 have e2 := seaC_y s.x Col.zero s.y [.sl (some true) [], .sl (some true) [], iD 0, iD 0, .sl (some true) []]
 have e3 := seaC_c s.x s.y [.sl (some true) [], .sl (some true) [], iD 0, iD 0, .sl (some true) []] 0 (.sl none (intsD s.one))
 have e4 := seaC_c s.x s.y [.sl none (intsD s.one), .sl (some true) [], iD 0, iD 0, .sl (some true) []] 1 (.sl none (intsD s.two))
 have e5 := seaC_c s.x s.y [.sl none (intsD s.one), .sl none (intsD s.two), iD 0, iD 0, .sl (some true) []] 2 (iD s.most)
 have e3 : spl (seaC s.x s.y [.sl (some true) [], .sl (some true) [], iD 0, iD 0, .sl (some true) []]) 276 [.sl none (intsD s.one)] = seaC s.x s.y [.sl none (intsD s.one), .sl (some true) [], iD 0, iD 0, .sl (some true) []] := e3
 have e4 : spl (seaC s.x s.y [.sl none (intsD s.one), .sl (some true) [], iD 0, iD 0, .sl (some true) []]) 277 [.sl none (intsD s.two)] = seaC s.x s.y [.sl none (intsD s.one), .sl none (intsD s.two), iD 0, iD 0, .sl (some true) []] := e4
 have e5 : spl (seaC s.x s.y [.sl none (intsD s.one), .sl none (intsD s.two), iD 0, iD 0, .sl (some true) []]) 278 [iD s.most] = seaN s := e5
 have c1 : (D.agg (colD s.x)).cells = colD s.x := rfl
 have c2 : (D.agg (colD s.y)).cells = colD s.y := rfl
 have c3 : (D.sl none (intsD s.one)).cells = [.sl none (intsD s.one)] := rfl
 have c4 : (D.sl none (intsD s.two)).cells = [.sl none (intsD s.two)] := rfl
 have c5 : (iD s.most).cells = [iD s.most] := rfl
 have l0 : seaZ.length = 281 := seaC_length _ _ _
 have l1 : (Nat.beq 138 138 && Nat.ble (0 + 138) 281) = true := rfl
 have l2 : (Nat.beq 138 138 && Nat.ble (138 + 138) 281) = true := rfl
 have l3 : (Nat.beq 1 1 && Nat.ble (276 + 1) 281) = true := rfl
 have l4 : (Nat.beq 1 1 && Nat.ble (277 + 1) 281) = true := rfl
 have l5 : (Nat.beq 1 1 && Nat.ble (278 + 1) 281) = true := rfl
 simp only [fillD, List.getElem?_cons_zero, List.getElem?_cons_succ, c1, c2, c3, c4, c5, colD_length, l0, l1, l2, l3, l4, l5, e1, e2, e3, e4, e5, cond_true, seaC_length, List.length_cons, List.length_nil]

theorem sea_fillB (x y : Col) (a b : List Int) (m : Int) : fillD [(0, 138), (138, 138), (276, 1), (277, 1), (278, 1), (279, 1), (280, 1)] seaZ [(0, .agg (colD x)), (1, .agg (colD y)), (2, .sl none (intsD a)), (3, .sl none (intsD b)), (4, iD m)] = some (seaN ⟨x, y, a, b, m, 0, []⟩) := sea_fill ⟨x, y, a, b, m, 0, []⟩

namespace Ab
section
variable {n : Nat} {G : Ctx} {E : Env} {H : List AObj}
/-- A list in a struct's value, seen with less knowledge. -/
theorem Weak_aggdrop (t j : Nat) (f : Option Bool) (l cs cs' : List D) (he : E.get t = some (.d (.agg cs))) (hj : cs[j]? = some (.sl f l)) (hc : cs.set j (.sl none l) = cs') : Weak n G E H ((t, .d (.agg cs')) :: E) H := by
 intro r a w hr
 refine ⟨r, hr.size, hr.defers, fun k u hu => ?_, hr.heap, hr.step⟩
 by_cases e : t = k
 ·subst e
  rw [Env.get_cons_self] at hu
  cases hu
  obtain ⟨x, hx, hv⟩ := hr.env t _ he
  refine ⟨x, hx, ?_⟩
  cases hv with
  | d _ _ hd =>
   cases hd with
   | agg _ vs hl h =>
    refine .d _ _ (.agg _ vs (by rw [hl, ← hc, List.length_set]) fun i c v hi hvi => ?_)
    rw [← hc, List.getElem?_set] at hi
    split at hi
    ·rename_i hji
     subst hji
     split at hi
     ·cases hi
      have := h j _ v hj hvi
      cases this with
      | sl _ _ vs A cap hl hn hc hA hr => exact .sl none l vs A cap hl (fun b h => by cases h) hc hA hr
     ·cases hi
    ·exact h i c v hi hvi
 ·rw [Env.get_cons_ne _ E e] at hu
  exact hr.env k u hu
end
section
variable {P : Program} {n : Nat} {G : Ctx} {ops : Array Oper} {f : Nat} {listed : Array Bool} {E : Env} {H : List AObj} {K : Env → List AObj → Prop}
theorem AAny_weak {E0 : Env} {H0 : List AObj} (hw : Weak n G E H E0 H0) (h : AAny P n G ops f listed E0 H0 K) : AAny P n G ops f listed E H K :=
 fun r a w hr => let ⟨r0, hr0⟩ := hw r a w hr; h r0 a w hr0
/-- In a drawn row: an owned slice becomes data. -/
theorem AAny_freeze (t o g : Nat) (cs : List D) (he : E.get t = some (.vec o g)) (hH : H[o]? = some (.vec g cs)) (h : AAny P n G ops f listed ((t, .d (.sl none cs)) :: E) (H.set o .gone) K) : AAny P n G ops f listed E H K :=
 AAny_weak (Weak_frz [t] [] o g cs (fun q hq => by rw [List.mem_singleton.1 hq]; exact he) (fun _ h => nomatch h) hH) h
end
end Ab
end Go.Proofs.YtldgmcghdohmeaaGreat
