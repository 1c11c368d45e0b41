/- Own library, part 18: texts out of bytes, bytes of texts. No conditions. -/
import Derived.Test.YtldgmcghdohmeaaGreatAb17
import Derived.Laws.BytesArg
set_option linter.unusedSimpArgs false
set_option linter.unusedVariables false
namespace Go.Proofs.YtldgmcghdohmeaaGreat.Ab
open Go Go.RowKit

section
variable {P : Program} {n : Nat} {G : Ctx} {E : Env} {H : List AObj} {ops : Array Oper} {rest : List Oper} {o : Oper} {K : Env → List AObj → Prop}

theorem RepL.bytes {w : World} {I : Nat → Prop} {l : List UInt8} {vs : List Value} (h : RepL w I (bysD l) vs) : vs = l.map fun b => Value.int .u8 (b.toNat : Int) := by
 refine List.ext_getElem? fun i => ?_
 rw [List.getElem?_map]
 cases hc : l[i]? with
 | none =>
  have h1 : l.length ≤ i := List.getElem?_eq_none_iff.1 hc
  rw [Option.map_none, List.getElem?_eq_none_iff, h.1, bysD_length]
  exact h1
 | some b =>
  have hd : (bysD l)[i]? = some (uD b) := by unfold bysD; rw [List.getElem?_map, hc]; rfl
  obtain ⟨v, hv, hr⟩ := h.get hd
  rw [hv]
  cases hr
  rfl

end
end Go.Proofs.YtldgmcghdohmeaaGreat.Ab

namespace Go.Proofs.YtldgmcghdohmeaaGreat.Ab
open Go Go.RowKit

section
variable {P : Program} {n : Nat} {G : Ctx} {E : Env} {H : List AObj} {w : World} {r : List Nat} {a : Act}

theorem freeze_part {F : Nat → Prop} {w : World} {r : List Nat} {o g lo m : Nat} {cs : List D} {x : Value} (hh : HRel F w H r) (hH : H[o]? = some (.vec g cs)) (hv : RepV F w H r (.part o g lo m) x) : RepV F w (H.set o .gone) r (.d (.sl none ((cs.drop lo).take m))) x := by
 have hst : Step w H r w (H.set o .gone) r := step_gone o
 obtain ⟨b, hb⟩ := hh.blk hH
 cases hv with
 | part _ _ _ _ _ ho hp =>
  obtain ⟨e0, vs, ty, l, c0, e1, e2, e3⟩ := (hp g cs b hH hb).2 rfl
  have hO := hh.obj o _ b hH hb
  cases hO with
  | vec _ _ vs' ty' hb' hc hm hl =>
   have : vs' = vs := by rw [hb'] at e2; cases e2; rfl
   subst this
   subst e1
   have hI : imm F w (H.set o .gone) r b := by
    refine ⟨⟨(Array.getElem?_eq_some_iff.1 hb').1, fun o' x h1 h2 h3 => ?_⟩, hh.notF o _ b hH rfl hb⟩
    rcases get_gone h1 with rfl | ⟨hne, k1⟩
    ·simp [AObj.live] at h2
    ·exact hne (hh.inj o o' _ x b hH rfl k1 h2 hb h3)
   have hL : RepL w (imm F w (H.set o .gone) r) ((cs.drop lo).take m) (((vs'.toList.take cs.length).drop lo).take m) := ((hl.mono hst.imm).drop lo).take m
   have hlen : ((cs.drop lo).take m).length = m := by simp; omega
   have := RepD.sl (w := w) (I := imm F w (H.set o .gone) r) none ((cs.drop lo).take m) (((vs'.toList.take cs.length).drop lo).take m) (some ⟨b, l, none⟩) c0 hL.1 (fun b h => by cases h) (by
     rw [hlen]
     by_cases e : lo = vs'.size
     ·omega
     ·have := e3 e; omega) (fun hne => ⟨b, l, rfl, hI, fun i v hv => by
     have hn0 : m ≠ 0 := fun e => by subst e; simp at hne
     obtain ⟨rfl, _⟩ := e3 (by omega)
     rw [World.cell_block hb']
     rw [List.getElem?_take] at hv
     split at hv
     ·rw [List.getElem?_drop, List.getElem?_take] at hv
      split at hv
      ·simpa using hv
      ·simp at hv
     ·simp at hv⟩)
    (fun i c v hc hv => hL.2 i c v hc hv)
   rw [hlen] at this
   exact .d _ _ this

theorem get_allP (ps : List (Nat × Nat × Nat × List D)) (E : Env) (k : Nat) (u : AV) (h : Env.get (ps.map (fun p => (p.1, AV.d (.sl none p.2.2.2))) ++ E) k = some u) : (∃ p ∈ ps, p.1 = k ∧ u = .d (.sl none p.2.2.2)) ∨ Env.get E k = some u := by
 induction ps with
 | nil => exact .inr h
 | cons t ts ih =>
  rw [List.map_cons, List.cons_append] at h
  by_cases e : t.1 = k
  ·subst e
   rw [Env.get_cons_self] at h
   cases h
   exact .inl ⟨t, List.mem_cons_self .., rfl, rfl⟩
  ·rw [Env.get_cons_ne _ _ e] at h
   rcases ih h with ⟨p, h1, h2⟩ | h
   ·exact .inl ⟨p, List.mem_cons_of_mem _ h1, h2⟩
   ·exact .inr h

/-- An owned slice becomes data, in all slots that hold it or a part of it. -/
theorem Weak_frz (ts : List Nat) (ps : List (Nat × Nat × Nat × List D)) (o g : Nat) (cs : List D) (he : ∀ t ∈ ts, E.get t = some (.vec o g)) (hp : ∀ p ∈ ps, E.get p.1 = some (.part o g p.2.1 p.2.2.1) ∧ p.2.2.2 = (cs.drop p.2.1).take p.2.2.1) (hH : H[o]? = some (.vec g cs)) :
  Weak n G E H (ts.map (fun t => (t, .d (.sl none cs))) ++ (ps.map (fun p => (p.1, AV.d (.sl none p.2.2.2))) ++ E)) (H.set o .gone) := by
 intro r a w hr
 have hst : Step w H r w (H.set o .gone) r := step_gone o
 refine ⟨r, hr.size, hr.defers, fun k u hu => ?_, hrel_gone o hr.heap, hr.step.trans hst⟩
 rcases get_all ts _ _ k u hu with ⟨h1, rfl⟩ | hu
 ·obtain ⟨x, hx, hv⟩ := hr.env k _ (he k h1)
  exact ⟨x, hx, freeze_rep hr.heap hH hv⟩
 ·rcases get_allP ps _ k u hu with ⟨p, h1, rfl, rfl⟩ | hu
  ·obtain ⟨x, hx, hv⟩ := hr.env _ _ (hp p h1).1
   rw [(hp p h1).2]
   exact ⟨x, hx, freeze_part hr.heap hH hv⟩
  ·obtain ⟨x, hx, hv⟩ := hr.env k u hu
   exact ⟨x, hx, hv.step hst⟩

/-- Whether a slice is nil is no longer told. -/
theorem Weak_dropF (t : Nat) (f : Option Bool) (cs : List D) (he : E.get t = some (.d (.sl f cs))) : Weak n G E H ((t, .d (.sl none cs)) :: E) H := by
 intro r a w hr
 refine ⟨r, hr.size, hr.defers, fun k u hu => ?_, hr.heap, hr.step⟩
 by_cases e : t = k
 ·subst e
  rw [Env.get_cons_self] at hu
  cases hu
  obtain ⟨x, hx, hv⟩ := hr.env t _ he
  refine ⟨x, hx, ?_⟩
  cases hv with
  | d _ _ hd =>
   cases hd with
   | sl _ _ vs A cap hl hn hc hA hr => exact .d _ _ (.sl none cs vs A cap hl (fun b h => by cases h) hc hA hr)
 ·rw [Env.get_cons_ne _ E e] at hu
  exact hr.env k u hu

/-- A box that nobody writes any more is data. -/
def frz0 (o : Nat) (cs : List D) : AV → AV
 | .ptr k off => bif Nat.beq k o then .d (.pv cs off) else .ptr k off
 | v => v
def frzV (o : Nat) (cs : List D) : AV → AV
 | .clo f cap => .clo f (cap.map (frz0 o cs))
 | v => frz0 o cs v

theorem frz0_rep {F : Nat → Prop} {o : Nat} {cs : List D} (hh : HRel F w H r) (hH : H[o]? = some (.box cs)) {v : AV} {x : Value} (hv : RepV F w H r v x) : RepV F w (H.set o .gone) r (frz0 o cs v) x := by
 have hst : Step w H r w (H.set o .gone) r := step_gone o
 cases v with
 | ptr k off =>
  simp only [frz0]
  by_cases e : k = o
  ·subst e
   rw [Nat.beq_refl, cond_true]
   cases hv with
   | ptr _ _ _ ho hp =>
    obtain ⟨b, hb⟩ := hh.blk hH
    have hx := hp _ b hH hb rfl
    subst hx
    have hO := hh.obj k _ b hH hb
    have hF := hh.notF k _ b hH rfl hb
    cases hO with
    | box _ vs ty hw hl =>
     have hI : imm F w (H.set k .gone) r b := by
      refine ⟨⟨(Array.getElem?_eq_some_iff.1 hw).1, fun o' x h1 h2 h3 => ?_⟩, hF⟩
      rcases get_gone h1 with rfl | ⟨hne, k1⟩
      ·simp [AObj.live] at h2
      ·exact hne (hh.inj k o' _ x b hH rfl k1 h2 hb h3)
     have hL := hl.mono hst.imm
     have := RepD.pv (w := w) (I := imm F w (H.set k .gone) r) cs off vs.toList b 0 hL.1 hI (fun i v hv => by rw [World.cell_block hw]; simpa using hv) hL.2
     rw [Nat.zero_add] at this
     exact .d _ _ this
  ·have : Nat.beq k o = false := Bool.eq_false_iff.2 fun h' => e (Nat.eq_of_beq_eq_true h')
   rw [this, cond_false]
   exact hv.step hst
 | _ => exact hv.step hst

theorem frzV_rep {F : Nat → Prop} {o : Nat} {cs : List D} (hh : HRel F w H r) (hH : H[o]? = some (.box cs)) {v : AV} {x : Value} (hv : RepV F w H r v x) : RepV F w (H.set o .gone) r (frzV o cs v) x := by
 cases v with
 | clo f cap =>
  cases hv with
  | clo _ _ vs hl h =>
   refine .clo f _ vs (by simpa using hl) fun i c v h1 h2 => ?_
   rw [List.getElem?_map] at h1
   obtain ⟨u, hu, rfl⟩ := Option.map_eq_some_iff.1 h1
   exact frz0_rep hh hH (h i u v hu h2)
 | _ => exact frz0_rep hh hH hv

theorem get_new (ts : List (Nat × AV)) (E : Env) (k : Nat) (u : AV) (h : Env.get (ts ++ E) k = some u) : (∃ p ∈ ts, p.1 = k ∧ p.2 = u) ∨ Env.get E k = some u := by
 induction ts with
 | nil => exact .inr h
 | cons t ts ih =>
  obtain ⟨a, b⟩ := t
  rw [List.cons_append] at h
  by_cases e : a = k
  ·subst e
   rw [Env.get_cons_self] at h
   cases h
   exact .inl ⟨_, List.mem_cons_self .., rfl, rfl⟩
  ·rw [Env.get_cons_ne _ _ e] at h
   rcases ih h with ⟨p, h1, h2⟩ | h
   ·exact .inl ⟨p, List.mem_cons_of_mem _ h1, h2⟩
   ·exact .inr h

theorem Weak_frzB (o : Nat) (ts : List (Nat × AV)) (cs : List D) (hH : H[o]? = some (.box cs)) (he : ∀ p ∈ ts, ∃ v, E.get p.1 = some v ∧ frzV o cs v = p.2) : Weak n G E H (ts ++ E) (H.set o .gone) := by
 intro r a w hr
 have hst : Step w H r w (H.set o .gone) r := step_gone o
 refine ⟨r, hr.size, hr.defers, fun k u hu => ?_, hrel_gone o hr.heap, hr.step.trans hst⟩
 rcases get_new ts _ k u hu with ⟨p, h1, rfl, rfl⟩ | hu
 ·obtain ⟨v, h2, h3⟩ := he p h1
  obtain ⟨x, hx, hv⟩ := hr.env _ _ h2
  rw [← h3]
  exact ⟨x, hx, frzV_rep hr.heap hH hv⟩
 ·obtain ⟨x, hx, hv⟩ := hr.env k u hu
  exact ⟨x, hx, hv.step hst⟩

theorem AOps_weakF {rest : List Oper} {ops : Array Oper} {K : Env → List AObj → Prop} {E0 : Env} {H0 : List AObj} (hw : Weak n G E H E0 H0) (h : AOps P n G ops rest E0 H0 K) : AOps P n G ops rest E H K := AOps_weak hw h
end
end Go.Proofs.YtldgmcghdohmeaaGreat.Ab
