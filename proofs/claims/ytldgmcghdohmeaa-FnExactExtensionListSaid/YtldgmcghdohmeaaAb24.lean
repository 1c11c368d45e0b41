/- Own library, part 24: states told anew at joins: owned slices that become data, slices named anew. No conditions. -/
import Derived.Test.YtldgmcghdohmeaaAb17
set_option linter.unusedVariables false
set_option linter.unusedSimpArgs false
namespace Go.Proofs.Ytldgmcghdohmeaa.Ab
open Go Go.RowKit

section
variable {P : Program} {n : Nat} {G : Ctx} {E : Env} {H : List AObj} {w : World} {r : List Nat} {a : Act}

theorem freeze_part {F : Nat → Prop} {w : World} {r : List Nat} {o g lo m : Nat} {cs : List D} {x : Value} (hh : HRel F w H r) (hH : H[o]? = some (.vec g cs)) (hv : RepV F w H r (.part o g lo m) x) : RepV F w (H.set o .gone) r (.d (.sl none ((cs.drop lo).take m))) x := by
  have hst : Step w H r w (H.set o .gone) r := step_gone o
  obtain ⟨b, hb⟩ := hh.blk hH
  cases hv with
  | part _ _ _ _ _ ho hp =>
    obtain ⟨e0, vs, ty, l, c0, e1, e2, e3⟩ := (hp g cs b hH hb).2 rfl
    have hO := hh.obj o _ b hH hb
    cases hO with
    | vec _ _ vs' ty' hb' hc hm hl =>
      have : vs' = vs := by rw [hb'] at e2; cases e2; rfl
      subst this
      subst e1
      have hI : imm F w (H.set o .gone) r b := by
        refine ⟨⟨(Array.getElem?_eq_some_iff.1 hb').1, fun o' x h1 h2 h3 => ?_⟩, hh.notF o _ b hH rfl hb⟩
        rcases get_gone h1 with rfl | ⟨hne, k1⟩
        · simp [AObj.live] at h2
        · exact hne (hh.inj o o' _ x b hH rfl k1 h2 hb h3)
      have hL : RepL w (imm F w (H.set o .gone) r) ((cs.drop lo).take m) (((vs'.toList.take cs.length).drop lo).take m) := ((hl.mono hst.imm).drop lo).take m
      have hlen : ((cs.drop lo).take m).length = m := by simp; omega
      have := RepD.sl (w := w) (I := imm F w (H.set o .gone) r) none ((cs.drop lo).take m) (((vs'.toList.take cs.length).drop lo).take m) (some ⟨b, l, none⟩) c0 hL.1 (fun b h => by cases h) (by
          rw [hlen]
          by_cases e : lo = vs'.size
          · omega
          · have := e3 e; omega) (fun hne => ⟨b, l, rfl, hI, fun i v hv => by
          have hn0 : m ≠ 0 := fun e => by subst e; simp at hne
          obtain ⟨rfl, _⟩ := e3 (by omega)
          rw [World.cell_block hb']
          rw [List.getElem?_take] at hv
          split at hv
          · rw [List.getElem?_drop, List.getElem?_take] at hv
            split at hv
            · simpa using hv
            · simp at hv
          · simp at hv⟩)
        (fun i c v hc hv => hL.2 i c v hc hv)
      rw [hlen] at this
      exact .d _ _ this

theorem get_allP (ps : List (Nat × Nat × Nat × List D)) (E : Env) (k : Nat) (u : AV) (h : Env.get (ps.map (fun p => (p.1, AV.d (.sl none p.2.2.2))) ++ E) k = some u) : (∃ p ∈ ps, p.1 = k ∧ u = .d (.sl none p.2.2.2)) ∨ Env.get E k = some u := by
  induction ps with
  | nil => exact .inr h
  | cons t ts ih =>
    rw [List.map_cons, List.cons_append] at h
    by_cases e : t.1 = k
    · subst e
      rw [Env.get_cons_self] at h
      cases h
      exact .inl ⟨t, List.mem_cons_self .., rfl, rfl⟩
    · rw [Env.get_cons_ne _ _ e] at h
      rcases ih h with ⟨p, h1, h2⟩ | h
      · exact .inl ⟨p, List.mem_cons_of_mem _ h1, h2⟩
      · exact .inr h

/-- An owned slice becomes data, in all slots that hold it or a part of it. -/
theorem Weak_frz (ts : List Nat) (ps : List (Nat × Nat × Nat × List D)) (o g : Nat) (cs : List D) (he : ∀ t ∈ ts, E.get t = some (.vec o g)) (hp : ∀ p ∈ ps, E.get p.1 = some (.part o g p.2.1 p.2.2.1) ∧ p.2.2.2 = (cs.drop p.2.1).take p.2.2.1) (hH : H[o]? = some (.vec g cs)) :
    Weak n G E H (ts.map (fun t => (t, .d (.sl none cs))) ++ (ps.map (fun p => (p.1, AV.d (.sl none p.2.2.2))) ++ E)) (H.set o .gone) := by
  intro r a w hr
  have hst : Step w H r w (H.set o .gone) r := step_gone o
  refine ⟨r, hr.size, hr.defers, fun k u hu => ?_, hrel_gone o hr.heap, hr.step.trans hst⟩
  rcases get_all ts _ _ k u hu with ⟨h1, rfl⟩ | hu
  · obtain ⟨x, hx, hv⟩ := hr.env k _ (he k h1)
    exact ⟨x, hx, freeze_rep hr.heap hH hv⟩
  · rcases get_allP ps _ k u hu with ⟨p, h1, rfl, rfl⟩ | hu
    · obtain ⟨x, hx, hv⟩ := hr.env _ _ (hp p h1).1
      rw [(hp p h1).2]
      exact ⟨x, hx, freeze_part hr.heap hH hv⟩
    · obtain ⟨x, hx, hv⟩ := hr.env k u hu
      exact ⟨x, hx, hv.step hst⟩

end
end Go.Proofs.Ytldgmcghdohmeaa.Ab
