/- Own library, part 23: a result that nobody writes any more is data. No conditions. -/
import Derived.Test.YtldgmcghdohmeaaGreatCol
set_option linter.unusedVariables false
set_option linter.unusedSimpArgs false
namespace Go.Proofs.YtldgmcghdohmeaaGreat
open Go Go.RowKit Ab

theorem nil_r {F : Nat → Prop} {w : World} {r : List Nat} (h : HRel F w [] r) : r = [] := List.eq_nil_of_length_eq_zero (by rw [h.len]; rfl)

/-- What lies in an owned slice, when it is owned no more. -/
theorem frz_vec {F : Nat → Prop} {w' : World} {r' : List Nat} {cs : List D} (hh : HRel F w' [.vec 0 cs] r') : ∃ b, r' = [b] ∧ HRel F w' [] [] ∧ (∀ c, imm F w' [.vec 0 cs] [b] c → imm F w' [] [] c) ∧ ∀ x, RepV F w' [.vec 0 cs] [b] (.vec 0 0) x → RepD w' (imm F w' [] []) (.sl none cs) x := by
 have hl := hh.len
 obtain ⟨b, rfl⟩ : ∃ b, r' = [b] := by
  match r', hl with
  | [b], _ => exact ⟨b, rfl⟩
 have himm : ∀ c, imm F w' [.vec 0 cs] [b] c → imm F w' [] [] c := fun c hc => ⟨⟨hc.1.1, fun o x h => by simp at h⟩, hc.2⟩
 refine ⟨b, rfl, ⟨rfl, fun o o' x x' c h => by simp at h, fun o x c h => by simp at h, fun o x c h => by simp at h, hh.fin⟩, himm, fun x hx => ?_⟩
 have hO := hh.obj 0 _ b rfl rfl
 have hF := hh.notF 0 _ b rfl rfl rfl
 cases hx with
 | vec _ _ _ ho hp =>
  obtain ⟨cap, vs, ty, rfl, e2, e3⟩ := (hp 0 _ b rfl rfl).2 rfl
  cases hO with
  | vec _ _ vs' ty' hb hc hm hl =>
   rw [hb] at e2
   cases e2
   refine .sl none cs (vs.toList.take cs.length) (some ⟨b, 0, none⟩) cap hl.1 (fun b h => by cases h) (by rw [e3]; exact hc) (fun _ => ⟨b, 0, rfl, ⟨⟨(Array.getElem?_eq_some_iff.1 hb).1, fun o x h => by simp at h⟩, hF⟩, fun i v hv => ?_⟩) fun i c v h1 h2 => (hl.2 i c v h1 h2).mono fun c hc => ⟨rfl, himm c hc⟩
   rw [World.cell_block hb]
   rw [List.getElem?_take] at hv
   split at hv
   ·simpa using hv
   ·simp at hv

theorem frz_res {F : Nat → Prop} {w' : World} {H' : List AObj} {r' : List Nat} {a b : AV} {rest : List AV} {x : Value} (hr : ∀ v ∈ rest, ∃ d, v = .d d) (himm : ∀ c, imm F w' H' r' c → imm F w' [] [] c) (ha : ∀ y, RepV F w' H' r' a y → RepV F w' [] [] b y)
  (h : RepRes F w' H' r' (a :: rest) x) : RepRes F w' [] [] (b :: rest) x := by
 have hd : ∀ v ∈ rest, ∀ y, RepV F w' H' r' v y → RepV F w' [] [] v y := fun v hv y hy => by
  obtain ⟨d, rfl⟩ := hr v hv
  cases hy with
  | d _ _ hd => exact .d _ _ (hd.mono fun c hc => ⟨rfl, himm c hc⟩)
 match rest, hd, h with
 | [], hd, h => exact ha x h
 | v :: vs, hd, ⟨xs, e, hl, h⟩ =>
  refine ⟨xs, e, hl, fun i c y h1 h2 => ?_⟩
  cases i with
  | zero =>
   simp at h1
   subst h1
   exact ha y (h 0 _ y rfl h2)
  | succ i =>
   have h3 : (v :: vs)[i]? = some c := by simpa using h1
   exact hd c (List.mem_of_getElem? h3) y (h (i + 1) c y h1 h2)

theorem step_drop {w w' : World} {cs : List D} {b : Nat} (h : Step w [] [] w' [.vec 0 cs] [b]) : Step w [] [] w' [] [] :=
 ⟨h.os, h.tape, h.output, h.size, fun c hc => ⟨(h.free c hc).1, (h.free c hc).2.1, fun o x h => by simp at h⟩, Nat.le_refl _, fun o x' b' ho => by simp at ho, fun o g' cs' b' ho => by simp at ho⟩

theorem AC_frzV {P : Program} {f : FuncId} {args : List AV} {cs : List D} {rest : List AV} (hr : ∀ v ∈ rest, ∃ d, v = .d d) (h : AC P f args [] (fun res H' => res = .vec 0 0 :: rest ∧ H' = [.vec 0 cs])) :
  AC P f args [] (fun res H' => res = .d (.sl none cs) :: rest ∧ H' = []) := by
 intro F w r xs hh hxs
 obtain rfl := nil_r hh
 refine (h F w [] xs hh hxs).mono ?_
 rintro e w' ⟨res, H', r', x, rfl, ⟨rfl, rfl⟩, hh', hres, hst⟩
 obtain ⟨b, rfl, h1, h2, h3⟩ := frz_vec hh'
 exact ⟨_, [], [], x, rfl, ⟨rfl, rfl⟩, h1, frz_res hr h2 (fun y hy => .d _ _ (h3 y hy)) hres, step_drop hst⟩

theorem AC_frz {α : Type} {P : Program} {f : FuncId} {args : List AV} {o : Option (List α)} {X : List α → List D} {rest : List AV} (hX : X [] = []) (hr : ∀ v ∈ rest, ∃ d, v = .d d)
  (h : AC P f args [] (fun res H' => res = ownA 0 (o.map X) :: rest ∧ H' = [] ++ ownH (o.map X))) : AC P f args [] (fun res H' => res = .d (.sl none (X (o.getD []))) :: rest ∧ H' = []) := by
 cases o with
 | some l => exact AC_frzV hr h
 | none =>
  intro F w r xs hh hxs
  obtain rfl := nil_r hh
  refine (h F w [] xs hh hxs).mono ?_
  rintro e w' ⟨res, H', r', x, rfl, ⟨rfl, rfl⟩, hh', hres, hst⟩
  obtain rfl : r' = [] := nil_r hh'
  refine ⟨_, [], [], x, rfl, ⟨rfl, rfl⟩, hh', frz_res hr (fun c hc => hc) (fun y hy => ?_) hres, hst⟩
  cases hy with
  | d _ _ hd =>
   refine .d _ _ ?_
   rw [Option.getD_none, hX]
   cases hd with
   | sl _ _ vs A cap hl hn hc hA hr => exact .sl none [] vs A cap hl (fun b h => by cases h) hc hA hr
theorem frz_nil : ∀ v ∈ ([] : List AV), ∃ d, v = .d d := fun _ h => nomatch h
theorem frz_cons {d : D} {rest : List AV} (h : ∀ v ∈ rest, ∃ d, v = .d d) : ∀ v ∈ AV.d d :: rest, ∃ d, v = .d d := by
 intro v hv
 rcases List.mem_cons.1 hv with rfl | hv
 ·exact ⟨d, rfl⟩
 ·exact h v hv
end Go.Proofs.YtldgmcghdohmeaaGreat
