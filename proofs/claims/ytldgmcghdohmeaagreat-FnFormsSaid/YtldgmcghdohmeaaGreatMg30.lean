/- Own library: a table whose rows are the call's own becomes a slice of rows as data. No conditions. -/
import Derived.Test.YtldgmcghdohmeaaGreatMg29
import Derived.Test.YtldgmcghdohmeaaGreatMg24
import Derived.Test.YtldgmcghdohmeaaGreatAb27
set_option linter.unusedSimpArgs false
set_option linter.unusedVariables false
namespace Go.Proofs.YtldgmcghdohmeaaGreat.Ab
open Go Go.RowKit

section
variable {P : Program} {n : Nat} {G : Ctx} {E : Env} {H : List AObj} {M : Rws} {w : World} {r : List Nat} {a : Act} {F : Nat → Prop}

theorem get_setU {o o2 : Nat} {x y : AObj} (h : (H.set o y)[o2]? = some x) : (o2 = o ∧ x = y) ∨ (o2 ≠ o ∧ H[o2]? = some x) := by
 rw [List.getElem?_set] at h
 split at h
 ·rename_i e
  split at h
  ·cases h; exact .inl ⟨e.symm, rfl⟩
  ·cases h
 ·rename_i hne
  exact .inr ⟨fun e => hne e.symm, h⟩

theorem step_revec {k g : Nat} {cs0 cs1 : List D} (hk : H[k]? = some (.vec g cs0)) (hl : cs0.length = cs1.length) : Step w H r w (H.set k (.vec g cs1)) r := by
 refine ⟨rfl, rfl, rfl, Nat.le_refl _, fun b hb => ⟨rfl, hb.1, fun o2 x h1 h2 => ?_⟩, by simp, fun o2 x' b' _ h1 h2 h3 => ?_, fun o2 g' cs' b' _ h1 h2 => ?_⟩
 ·rcases get_setU h1 with ⟨rfl, rfl⟩ | ⟨_, h⟩
  ·exact hb.2 o2 _ hk rfl
  ·exact hb.2 o2 x h h2
 ·rcases get_setU h1 with ⟨rfl, rfl⟩ | ⟨_, h⟩
  ·exact absurd h3 (by simp [AObj.fixed])
  ·exact ⟨x', h, h2, h3⟩
 ·rcases get_setU h1 with ⟨rfl, h⟩ | ⟨_, h⟩
  ·cases h
   exact ⟨g, cs0, b', hk, h2, .inr ⟨rfl, rfl, hl, fun vs ty h => ⟨vs, ty, h, rfl⟩⟩⟩
  ·exact ⟨g', cs', b', h, h2, .inr ⟨rfl, rfl, rfl, fun vs ty h => ⟨vs, ty, h, rfl⟩⟩⟩

theorem hrel_revec {k g : Nat} {cs0 cs1 : List D} (hh : HRel F w H r) (hk : H[k]? = some (.vec g cs0)) (hlen : cs0.length = cs1.length)
  (h1 : ∀ b vs ty, r[k]? = some b → w.heap[b]? = some (.cells vs ty (0, 0)) → RepL w (imm F w H r) cs0 (vs.toList.take cs0.length) → RepL w (imm F w H r) cs1 (vs.toList.take cs1.length)) : HRel F w (H.set k (.vec g cs1)) r := by
 have hst : Step w H r w (H.set k (.vec g cs1)) r := step_revec hk hlen
 refine ⟨by simp [hh.len], fun o1 o2 x x' b k1 l1 k2 l2 e1 e2 => ?_, fun o1 x b k1 k2 => ?_, fun o1 x b k1 k2 k3 => ?_, hh.fin⟩
 ·rcases get_setU k1 with ⟨q1, q1'⟩ | ⟨n1, q1⟩ <;> rcases get_setU k2 with ⟨q2, q2'⟩ | ⟨n2, q2⟩
  ·rw [q1, q2]
  ·subst q1
   exact hh.inj _ _ _ _ b hk rfl q2 l2 e1 e2
  ·subst q2
   exact hh.inj _ _ _ _ b q1 l1 hk rfl e1 e2
  ·exact hh.inj _ _ _ _ b q1 l1 q2 l2 e1 e2
 ·rcases get_setU k1 with ⟨rfl, rfl⟩ | ⟨n1, k1⟩
  ·have hO := hh.obj _ _ b hk k2
   cases hO with
   | vec _ _ vs ty hb hc hm hl => exact .vec g cs1 vs ty hb (by omega) hm ((h1 b vs ty k2 hb hl).mono hst.imm)
  ·have hO := hh.obj _ _ b k1 k2
   cases hO with
   | gone => exact .gone
   | mp v I c hv hb hI0 => exact .mp v I c hv hb hI0
   | box cs vs ty hb hl => exact .box cs vs ty hb (hl.mono hst.imm)
   | ref v z ty hb hl => exact .ref v z ty hb (hl.step hst)
   | vec g cs vs ty hb hc hm hl => exact .vec g cs vs ty hb hc hm (hl.mono hst.imm)
 ·rcases get_setU k1 with ⟨rfl, rfl⟩ | ⟨n1, k1⟩
  ·exact hh.notF _ _ b hk rfl k3
  ·exact hh.notF _ _ b k1 k2 k3

theorem rep_rowU {p : Nat × Nat × Nat} {l : List Int} (hG : ∀ b, F b → b < G.w.heap.size) (hr : MRel n G M E H r a w) (hF : G.F = F) (h : RowOK M p l) : RepD w (imm F w H r) (.sl none (intsD l)) (.slice (some ⟨p.1, 0, none⟩) p.2.1 p.2.2) := by
 obtain ⟨vs, h1, h2, h3, h4, h5, h6⟩ := h
 obtain ⟨ty, hb⟩ := hr.here _ h1
 have hfree := hr.free p.1 (.inr (List.mem_map.2 ⟨_, h1, rfl⟩))
 have hnF : ¬ F p.1 := fun hf => Nat.lt_irrefl _ (Nat.lt_of_lt_of_le (hG _ hf) (hr.new _ h1))
 have hL := RepL.ofInts (w := w) (I := imm F w H r) l
 have := RepD.sl (w := w) (I := imm F w H r) none (intsD l) (l.map (Value.int .i64)) (some ⟨p.1, 0, none⟩) p.2.2 hL.1 (fun b hb => by cases hb) (by rw [intsD_length, h3]; exact h4)
  (fun _ => ⟨p.1, 0, rfl, ⟨hfree, hnF⟩, fun i v hv => by
   rw [World.cell_block hb]
   have h7 : (vs.toList.take l.length)[i]? = some v := by rw [h6]; exact hv
   rw [List.getElem?_take] at h7
   split at h7
   ·simpa using h7
   ·simp at h7⟩) hL.2
 rw [intsD_length, ← h2] at this
 exact this

theorem MRel.untab {o g : Nat} {hd : List (Nat × Nat × Nat)} {T : List (List Int)} (hF : ∀ b, G.F b → b < G.w.heap.size) (hr : MRel n G M E H r a w) (hH : H[o]? = some (.vec g (hdD hd))) (hT : TabF T hd M) : Rel n G E (H.set o (.vec g (rowsD T))) r a w := by
 have h0 := hr.toRel
 have hlen : (hdD hd).length = (rowsD T).length := by rw [hdD_length, rowsD_length, hT.1]
 refine ⟨h0.size, h0.defers, fun t u hu => ?_, hrel_revec h0.heap hH hlen fun b vs ty _ hb hl => ?_, h0.step.trans (step_revec hH hlen)⟩
 ·obtain ⟨x, hx, hv⟩ := h0.env t u hu
  exact ⟨x, hx, hv.step (step_revec hH hlen)⟩
 ·rw [← hlen]
  refine ⟨by rw [hl.1, hlen], fun i c v hc hv => ?_⟩
  have hi : i < hd.length := by
   have := (List.getElem?_eq_some_iff.1 hc).1
   rw [← hlen, hdD_length] at this
   exact this
  have h1 := hl.2 i _ v (hdD_get hd i (0, 0, 0) hi) hv
  rw [rowsD_get T i [] (by have := hT.1; omega)] at hc
  cases hc
  cases h1 with
  | s v => exact rep_rowU hF hr rfl (hT.2 i hi)

/-- A table whose rows are the call's own becomes a slice of rows as data; what follows knows no rows. -/
theorem MC_untab {c : Code} {Q : Exit → Env → List AObj → Prop} {o g : Nat} {hd : List (Nat × Nat × Nat)} {T : List (List Int)} (hF : ∀ b, G.F b → b < G.w.heap.size) (hH : H[o]? = some (.vec g (hdD hd))) (hT : TabF T hd M)
  (h : ACode P n G c E (H.set o (.vec g (rowsD T))) Q) : MC P n G c E H M (fun x E' H' _ => Q x E' H') := by
 intro r a w hr
 have h1 := h r a w (hr.untab hF hH hT)
 exact wp_mono h1 fun x a' w' ⟨E', H', r', q, hr'⟩ => ⟨E', H', [], r', q, hr'.toM⟩
end
end Go.Proofs.YtldgmcghdohmeaaGreat.Ab

namespace Go.Proofs.YtldgmcghdohmeaaGreat.Ab
open Go Go.RowKit

section
variable {P : Program} {n : Nat} {G : Ctx} {ops : Array Oper} {o' : Oper} {rest l : List Oper} {E : Env} {H : List AObj} {K : Env → List AObj → Prop} {w : World} {r : List Nat} {a : Act} {F : Nat → Prop}

/-- A slice's header as a plain value. -/
@[reducible] def hdr (b m cap : Nat) : D := .s (.slice (some ⟨b, 0, none⟩) m cap)

structure Named (G : Ctx) (o g b cap m : Nat) : Prop where
 obj : ∃ cs, G.H[o]? = some (.vec g cs) ∧ cs.length = m
 blk : G.r[o]? = some b
 cells : ∃ vs ty, G.w.heap[b]? = some (.cells vs ty (0, 0)) ∧ vs.size = cap

theorem Named.val {o g b cap m : Nat} (hn : Named G o g b cap m) (hr : Rel n G E H r a w) : RepV G.F w H r (.vec o g) (.slice (some ⟨b, 0, none⟩) m cap) := by
 obtain ⟨⟨cs, h1, h2⟩, h3, vs, ty, h4, h5⟩ := hn
 have hlt := (List.getElem?_eq_some_iff.1 h1).1
 refine .vec o g _ (Nat.lt_of_lt_of_le hlt hr.step.len) fun g' cs' b' k1 k2 => ?_
 obtain ⟨g1, cs1, b1, a1, a2, a3⟩ := hr.step.vec o g' cs' b' hlt k1 k2
 rw [h1] at a1
 cases a1
 rw [h3] at a2
 cases a2
 rcases a3 with a3 | ⟨rfl, rfl, hl, hc⟩
 ·exact ⟨by omega, fun e => by omega⟩
 ·obtain ⟨vs', ty', e4, e5⟩ := hc vs ty h4
  exact ⟨Nat.le_refl _, fun _ => ⟨cap, vs', ty', by rw [← h2, hl], e4, by rw [e5, h5]⟩⟩

theorem Rel.name {t o g : Nat} {cs : List D} (hr : Rel n G E H r a w) (he : E.get t = some (.vec o g)) (hH : H[o]? = some (.vec g cs)) :
  ∃ b cap, Named ⟨G.F, w, H, r⟩ o g b cap cs.length ∧ Rel n ⟨G.F, w, H, r⟩ ((t, .d (hdr b cs.length cap)) :: E) H r a w := by
 obtain ⟨b, hb⟩ := hr.heap.blk hH
 obtain ⟨x, hx, hv⟩ := hr.env t _ he
 cases hv with
 | vec _ _ _ ho hp =>
  obtain ⟨cap, vs, ty, e1, e2, e3⟩ := (hp g cs b hH hb).2 rfl
  refine ⟨b, cap, ⟨⟨cs, hH, rfl⟩, hb, vs, ty, e2, e3.symm⟩, hr.size, hr.defers, fun k u hu => ?_, hr.heap, Step.refl _ _ _⟩
  by_cases e : t = k
  ·subst e
   rw [Env.get_cons_self] at hu
   cases hu
   exact ⟨x, hx, by rw [e1]; exact .d _ _ (.s _)⟩
  ·rw [Env.get_cons_ne _ E e] at hu
   exact hr.env k u hu

/-- The header is the owned slice again. -/
theorem Weak_unname {o g b cap m : Nat} (hn : Named G o g b cap m) (t : Nat) (he : E.get t = some (.d (hdr b m cap))) : Weak n G E H ((t, .vec o g) :: E) H := by
 intro r a w hr
 refine ⟨r, hr.size, hr.defers, fun k u hu => ?_, hr.heap, hr.step⟩
 by_cases e : t = k
 ·subst e
  rw [Env.get_cons_self] at hu
  cases hu
  obtain ⟨x, hx, hv⟩ := hr.env t _ he
  cases hv with
  | d _ _ hd =>
   cases hd with
   | s v => exact ⟨_, hx, hn.val hr⟩
 ·rw [Env.get_cons_ne _ E e] at hu
  exact hr.env k u hu

theorem get_set {o o2 : Nat} {x y : AObj} (h : (H.set o y)[o2]? = some x) : (o2 = o ∧ x = y) ∨ (o2 ≠ o ∧ H[o2]? = some x) := by
 rw [List.getElem?_set] at h
 split at h
 ·rename_i e
  split at h
  ·cases h; exact .inl ⟨e.symm, rfl⟩
  ·cases h
 ·rename_i hne
  exact .inr ⟨fun e => hne e.symm, h⟩

/-! ### Drawn rows in which a slice is named -/
section
variable {f : Nat} {listed : Array Bool} {Φ : Act → World → Prop} {o : Oper}
end

end
end Go.Proofs.YtldgmcghdohmeaaGreat.Ab
