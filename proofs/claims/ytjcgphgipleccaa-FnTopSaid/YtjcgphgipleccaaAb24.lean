/- Own library, part 24: states told anew at joins: owned slices that become data, slices named anew. No conditions. -/
import Derived.Test.YtjcgphgipleccaaAb17
set_option linter.unusedVariables false
set_option linter.unusedSimpArgs false
namespace Go.Proofs.Ytjcgphgipleccaa.Ab
open Go Go.RowKit

section
variable {P : Program} {n : Nat} {G : Ctx} {E : Env} {H : List AObj} {w : World} {r : List Nat} {a : Act}

/-- A box that nobody writes any more is data. -/
def frz0 (o : Nat) (cs : List D) : AV → AV
  | .ptr k off => bif Nat.beq k o then .d (.pv cs off) else .ptr k off
  | v => v
def frzV (o : Nat) (cs : List D) : AV → AV
  | .clo f cap => .clo f (cap.map (frz0 o cs))
  | v => frz0 o cs v

theorem frz0_rep {F : Nat → Prop} {o : Nat} {cs : List D} (hh : HRel F w H r) (hH : H[o]? = some (.box cs)) {v : AV} {x : Value} (hv : RepV F w H r v x) : RepV F w (H.set o .gone) r (frz0 o cs v) x := by
  have hst : Step w H r w (H.set o .gone) r := step_gone o
  cases v with
  | ptr k off =>
    simp only [frz0]
    by_cases e : k = o
    · subst e
      rw [Nat.beq_refl, cond_true]
      cases hv with
      | ptr _ _ _ ho hp =>
        obtain ⟨b, hb⟩ := hh.blk hH
        have hx := hp _ b hH hb rfl
        subst hx
        have hO := hh.obj k _ b hH hb
        have hF := hh.notF k _ b hH rfl hb
        cases hO with
        | box _ vs ty hw hl =>
          have hI : imm F w (H.set k .gone) r b := by
            refine ⟨⟨(Array.getElem?_eq_some_iff.1 hw).1, fun o' x h1 h2 h3 => ?_⟩, hF⟩
            rcases get_gone h1 with rfl | ⟨hne, k1⟩
            · simp [AObj.live] at h2
            · exact hne (hh.inj k o' _ x b hH rfl k1 h2 hb h3)
          have hL := hl.mono hst.imm
          have := RepD.pv (w := w) (I := imm F w (H.set k .gone) r) cs off vs.toList b 0 hL.1 hI (fun i v hv => by rw [World.cell_block hw]; simpa using hv) hL.2
          rw [Nat.zero_add] at this
          exact .d _ _ this
    · have : Nat.beq k o = false := Bool.eq_false_iff.2 fun h' => e (Nat.eq_of_beq_eq_true h')
      rw [this, cond_false]
      exact hv.step hst
  | _ => exact hv.step hst

theorem frzV_rep {F : Nat → Prop} {o : Nat} {cs : List D} (hh : HRel F w H r) (hH : H[o]? = some (.box cs)) {v : AV} {x : Value} (hv : RepV F w H r v x) : RepV F w (H.set o .gone) r (frzV o cs v) x := by
  cases v with
  | clo f cap =>
    cases hv with
    | clo _ _ vs hl h =>
      refine .clo f _ vs (by simpa using hl) fun i c v h1 h2 => ?_
      rw [List.getElem?_map] at h1
      obtain ⟨u, hu, rfl⟩ := Option.map_eq_some_iff.1 h1
      exact frz0_rep hh hH (h i u v hu h2)
  | _ => exact frz0_rep hh hH hv

theorem get_new (ts : List (Nat × AV)) (E : Env) (k : Nat) (u : AV) (h : Env.get (ts ++ E) k = some u) : (∃ p ∈ ts, p.1 = k ∧ p.2 = u) ∨ Env.get E k = some u := by
  induction ts with
  | nil => exact .inr h
  | cons t ts ih =>
    obtain ⟨a, b⟩ := t
    rw [List.cons_append] at h
    by_cases e : a = k
    · subst e
      rw [Env.get_cons_self] at h
      cases h
      exact .inl ⟨_, List.mem_cons_self .., rfl, rfl⟩
    · rw [Env.get_cons_ne _ _ e] at h
      rcases ih h with ⟨p, h1, h2⟩ | h
      · exact .inl ⟨p, List.mem_cons_of_mem _ h1, h2⟩
      · exact .inr h

theorem Weak_frzB (o : Nat) (ts : List (Nat × AV)) (cs : List D) (hH : H[o]? = some (.box cs)) (he : ∀ p ∈ ts, ∃ v, E.get p.1 = some v ∧ frzV o cs v = p.2) : Weak n G E H (ts ++ E) (H.set o .gone) := by
  intro r a w hr
  have hst : Step w H r w (H.set o .gone) r := step_gone o
  refine ⟨r, hr.size, hr.defers, fun k u hu => ?_, hrel_gone o hr.heap, hr.step.trans hst⟩
  rcases get_new ts _ k u hu with ⟨p, h1, rfl, rfl⟩ | hu
  · obtain ⟨v, h2, h3⟩ := he p h1
    obtain ⟨x, hx, hv⟩ := hr.env _ _ h2
    rw [← h3]
    exact ⟨x, hx, frzV_rep hr.heap hH hv⟩
  · obtain ⟨x, hx, hv⟩ := hr.env k u hu
    exact ⟨x, hx, hv.step hst⟩

end
end Go.Proofs.Ytjcgphgipleccaa.Ab
