/- Own library, part 17: variables that hold an owned slice: handed in, stored to. No conditions. -/
import Derived.Test.YtldgmcghdohmeaaGreatAb16
set_option linter.unusedVariables false
set_option linter.unusedSimpArgs false
namespace Go.Proofs.YtldgmcghdohmeaaGreat.Ab
open Go Go.RowKit

section
variable {P : Program} {n : Nat} {G : Ctx} {E : Env} {H : List AObj}

/-- An object seen anew: what references to it still say. -/
theorem RepV.transport {F : Nat → Prop} {w : World} {H H2 : List AObj} {r r2 : List Nat} (hlen : H.length = H2.length) (himm : ∀ b, imm F w H r b → imm F w H2 r2 b)
  (hf : ∀ (o : Nat) (x : AObj) (b : Nat), H2[o]? = some x → r2[o]? = some b → x.fixed = true → ∃ y, H[o]? = some y ∧ r[o]? = some b ∧ y.fixed = true)
  (hv : ∀ (o g : Nat) (cs : List D) (b : Nat), H2[o]? = some (.vec g cs) → r2[o]? = some b → ∃ g0 cs0 b0, H[o]? = some (.vec g0 cs0) ∧ r[o]? = some b0 ∧ (g0 < g ∨ (g0 = g ∧ b0 = b ∧ cs0 = cs)))
  {v : AV} {x : Value} (h : RepV F w H r v x) : RepV F w H2 r2 v x := by
 induction h with
 | d y v h => exact .d y v (h.mono fun b hb => ⟨rfl, himm b hb⟩)
 | ptr o off v ho h =>
  refine .ptr o off v (by omega) fun x b h1 h2 h3 => ?_
  obtain ⟨y, a1, a2, a3⟩ := hf o x b h1 h2 h3
  exact h y b a1 a2 a3
 | vec o g v ho h =>
  refine .vec o g v (by omega) fun g' cs b h1 h2 => ?_
  obtain ⟨g0, cs0, b0, a1, a2, a3⟩ := hv o g' cs b h1 h2
  obtain ⟨k1, k2⟩ := h g0 cs0 b0 a1 a2
  rcases a3 with a3 | ⟨rfl, rfl, rfl⟩
  ·exact ⟨by omega, fun e => by omega⟩
  ·exact ⟨k1, k2⟩
 | eptr o g i v ho h =>
  refine .eptr o g i v (by omega) fun g' cs b h1 h2 => ?_
  obtain ⟨g0, cs0, b0, a1, a2, a3⟩ := hv o g' cs b h1 h2
  obtain ⟨k1, k2⟩ := h g0 cs0 b0 a1 a2
  rcases a3 with a3 | ⟨rfl, rfl, rfl⟩
  ·exact ⟨by omega, fun e => by omega⟩
  ·exact ⟨k1, k2⟩
 | part o g lo n v ho h =>
  refine .part o g lo n v (by omega) fun g' cs b h1 h2 => ?_
  obtain ⟨g0, cs0, b0, a1, a2, a3⟩ := hv o g' cs b h1 h2
  obtain ⟨k1, k2⟩ := h g0 cs0 b0 a1 a2
  rcases a3 with a3 | ⟨rfl, rfl, rfl⟩
  ·exact ⟨by omega, fun e => by omega⟩
  ·exact ⟨k1, k2⟩
 | clo f cap vs hl _ ih => exact .clo f cap vs hl ih
 | tup cs vs hl _ ih => exact .tup cs vs hl ih

/-- A variable (object k) that holds a slice (object j) takes it over under the name kv, by which the slice goes that it held before. -/
theorem Weak_move (k kv j g0 gj : Nat) (cs0 cs : List D) (hk : H[k]? = some (.ref (.vec j gj))) (hkv : H[kv]? = some (.vec g0 cs0)) (hj : H[j]? = some (.vec gj cs)) (hne : Nat.beq kv j = false) (H2 : List AObj)
  (hH : ((H.set k (.ref (.vec kv (g0 + 1)))).set kv (.vec (g0 + 1) cs)).set j .gone = H2) : Weak n G E H E H2 := by
 subst hH
 have hne : kv ≠ j := fun e => by subst e; simp at hne
 intro r a w hr
 have hkl := (List.getElem?_eq_some_iff.1 hk).1
 have hkvl := (List.getElem?_eq_some_iff.1 hkv).1
 have hjl := (List.getElem?_eq_some_iff.1 hj).1
 have hkkv : k ≠ kv := fun e => by subst e; rw [hk] at hkv; cases hkv
 have hkj : k ≠ j := fun e => by subst e; rw [hk] at hj; cases hj
 obtain ⟨bj, hbj⟩ := hr.heap.blk hj
 have hrl := hr.heap.len
 obtain ⟨H2, hH2⟩ : ∃ H2, ((H.set k (.ref (.vec kv (g0 + 1)))).set kv (.vec (g0 + 1) cs)).set j .gone = H2 := ⟨_, rfl⟩
 rw [hH2]
 have hl2 : H.length = H2.length := by rw [← hH2]; simp
 have at_ : ∀ (o : Nat) (y : AObj) (b : Nat), H2[o]? = some y → (r.set kv bj)[o]? = some b → (o = j ∧ y = .gone) ∨ (o = kv ∧ y = .vec (g0 + 1) cs ∧ b = bj) ∨ (o = k ∧ y = .ref (.vec kv (g0 + 1)) ∧ r[o]? = some b) ∨ (o ≠ j ∧ o ≠ kv ∧ o ≠ k ∧ H[o]? = some y ∧ r[o]? = some b) := by
  intro o y b h1 h2
  rw [← hH2, List.getElem?_set] at h1
  rw [List.getElem?_set] at h2
  by_cases e1 : j = o
  ·subst e1
   rw [if_pos rfl, if_pos (by simp; omega)] at h1
   cases h1; exact .inl ⟨rfl, rfl⟩
  ·rw [if_neg e1, List.getElem?_set] at h1
   by_cases e2 : kv = o
   ·subst e2
    rw [if_pos rfl, if_pos (by simp; omega)] at h1
    rw [if_pos rfl, if_pos (by omega)] at h2
    cases h1; cases h2
    exact .inr (.inl ⟨rfl, rfl, rfl⟩)
   ·rw [if_neg e2, List.getElem?_set] at h1
    rw [if_neg e2] at h2
    by_cases e3 : k = o
    ·subst e3
     rw [if_pos rfl, if_pos hkl] at h1
     cases h1
     exact .inr (.inr (.inl ⟨rfl, rfl, h2⟩))
    ·rw [if_neg e3] at h1
     exact .inr (.inr (.inr ⟨fun e => e1 e.symm, fun e => e2 e.symm, fun e => e3 e.symm, h1, h2⟩))
 have hfree : ∀ b, free w H r b → free w H2 (r.set kv bj) b := fun b hb => ⟨hb.1, fun o y h1 hl h2 => by
  rcases at_ o y b h1 h2 with ⟨_, rfl⟩ | ⟨_, rfl, rfl⟩ | ⟨rfl, rfl, h3⟩ | ⟨_, _, _, h3, h4⟩
  ·cases hl
  ·exact hb.2 j _ hj rfl hbj
  ·exact hb.2 o _ hk rfl h3
  ·exact hb.2 o y h3 hl h4⟩
 have himm : ∀ b, imm G.F w H r b → imm G.F w H2 (r.set kv bj) b := fun b hb => ⟨hfree b hb.1, hb.2⟩
 have tr : ∀ {v : AV} {x : Value}, RepV G.F w H r v x → RepV G.F w H2 (r.set kv bj) v x := fun h => by
  refine h.transport hl2 himm (fun o x b h1 h2 h3 => ?_) (fun o g cs1 b h1 h2 => ?_)
  ·rcases at_ o x b h1 h2 with ⟨_, rfl⟩ | ⟨_, rfl, _⟩ | ⟨rfl, rfl, h4⟩ | ⟨_, _, _, h4, h5⟩
   ·cases h3
   ·cases h3
   ·exact ⟨_, hk, h4, rfl⟩
   ·exact ⟨x, h4, h5, h3⟩
  ·rcases at_ o _ b h1 h2 with ⟨_, e⟩ | ⟨rfl, e, rfl⟩ | ⟨rfl, e, _⟩ | ⟨_, _, _, h4, h5⟩
   ·cases e
   ·cases e
    obtain ⟨b0, hb0⟩ := hr.heap.blk hkv
    exact ⟨g0, cs0, b0, hkv, hb0, .inl (by omega)⟩
   ·cases e
   ·exact ⟨g, cs1, b, h4, h5, .inr ⟨rfl, rfl, rfl⟩⟩
 refine ⟨r.set kv bj, hr.size, hr.defers, fun t v hv => ?_, ?_, ?_⟩
 ·obtain ⟨x, hx, hrx⟩ := hr.env t v hv
  exact ⟨x, hx, tr hrx⟩
 ·refine ⟨by simp [hrl, hl2], fun o o' y y' b h1 l1 h2 l2 h3 h4 => ?_, fun o y b h1 h2 => ?_, fun o y b h1 l1 h2 => ?_, hr.heap.fin⟩
  ·rcases at_ o y b h1 h3 with ⟨_, rfl⟩ | ⟨rfl, rfl, rfl⟩ | ⟨rfl, rfl, a3⟩ | ⟨a1, a2, a4, a3, a5⟩
   ·cases l1
   ·rcases at_ o' y' b h2 h4 with ⟨_, rfl⟩ | ⟨rfl, rfl, c1⟩ | ⟨rfl, rfl, c3⟩ | ⟨c1, c2, c4, c3, c5⟩
    ·cases l2
    ·rfl
    ·exact absurd (hr.heap.inj j o' _ _ b hj rfl hk rfl hbj c3) (fun e => hkj e.symm)
    ·exact absurd (hr.heap.inj j o' _ _ b hj rfl c3 l2 hbj c5) (fun e => c1 e.symm)
   ·rcases at_ o' y' b h2 h4 with ⟨_, rfl⟩ | ⟨rfl, rfl, rfl⟩ | ⟨rfl, rfl, c3⟩ | ⟨c1, c2, c4, c3, c5⟩
    ·cases l2
    ·exact absurd (hr.heap.inj o j _ _ b hk rfl hj rfl a3 hbj) hkj
    ·rfl
    ·exact hr.heap.inj o o' _ _ b hk rfl c3 l2 a3 c5
   ·rcases at_ o' y' b h2 h4 with ⟨_, rfl⟩ | ⟨rfl, rfl, rfl⟩ | ⟨rfl, rfl, c3⟩ | ⟨c1, c2, c4, c3, c5⟩
    ·cases l2
    ·exact absurd (hr.heap.inj o j _ _ b a3 l1 hj rfl a5 hbj) a1
    ·exact hr.heap.inj o o' _ _ b a3 l1 hk rfl a5 c3
    ·exact hr.heap.inj o o' _ _ b a3 l1 c3 l2 a5 c5
  ·rcases at_ o y b h1 h2 with ⟨_, rfl⟩ | ⟨rfl, rfl, rfl⟩ | ⟨rfl, rfl, a3⟩ | ⟨a1, a2, a4, a3, a5⟩
   ·exact .gone
   ·have hO := hr.heap.obj j _ b hj hbj
    cases hO with
    | vec _ _ vs ty hb hc hm hl => exact .vec _ cs vs ty hb hc hm (hl.mono fun b hb => ⟨rfl, himm b hb⟩)
   ·have hO := hr.heap.obj o _ b hk a3
    cases hO with
    | ref v z ty hb hx =>
     refine .ref _ z ty hb ?_
     cases hx with
     | vec _ _ _ ho hp =>
      obtain ⟨_, hp2⟩ := hp gj cs bj hj hbj
      refine .vec kv (g0 + 1) z (by omega) fun g' cs' b' h1 h2 => ?_
      rcases at_ kv _ b' h1 h2 with ⟨e, _⟩ | ⟨_, e, rfl⟩ | ⟨e, _⟩ | ⟨_, e, _⟩
      ·exact absurd e hne
      ·cases e; exact ⟨Nat.le_refl _, fun _ => hp2 rfl⟩
      ·exact absurd e.symm hkkv
      ·exact absurd rfl e
   ·have hO := hr.heap.obj o y b a3 a5
    cases hO with
    | gone => exact .gone
    | mp v I c hv hb hI0 => exact .mp v I c hv hb hI0
    | box cs vs ty hb hl => exact .box cs vs ty hb (hl.mono fun b hb => ⟨rfl, himm b hb⟩)
    | ref v z ty hb hx => exact .ref v z ty hb (tr hx)
    | vec g cs vs ty hb hc hm hl => exact .vec g cs vs ty hb hc hm (hl.mono fun b hb => ⟨rfl, himm b hb⟩)
  ·rcases at_ o y b h1 h2 with ⟨_, rfl⟩ | ⟨rfl, rfl, rfl⟩ | ⟨rfl, rfl, a3⟩ | ⟨a1, a2, a4, a3, a5⟩
   ·cases l1
   ·exact hr.heap.notF j _ b hj rfl hbj
   ·exact hr.heap.notF o _ b hk rfl a3
   ·exact hr.heap.notF o y b a3 l1 a5
 ·have hst := hr.step
  refine ⟨hst.os, hst.tape, hst.output, hst.size, fun b hb => ⟨(hst.free b hb).1, hfree b (hst.free b hb).2⟩, by rw [← hl2]; exact hst.len, fun o y b ho h1 h2 h3 => ?_, fun o g' cs' b ho h1 h2 => ?_⟩
  ·rcases at_ o y b h1 h2 with ⟨_, rfl⟩ | ⟨_, rfl, _⟩ | ⟨rfl, rfl, a3⟩ | ⟨_, _, _, a3, a5⟩
   ·cases h3
   ·cases h3
   ·exact hst.fixed o _ b ho hk a3 rfl
   ·exact hst.fixed o y b ho a3 a5 h3
  ·rcases at_ o _ b h1 h2 with ⟨_, e⟩ | ⟨rfl, e, rfl⟩ | ⟨rfl, e, _⟩ | ⟨_, _, _, a3, a5⟩
   ·cases e
   ·cases e
    obtain ⟨b0, hb0⟩ := hr.heap.blk hkv
    obtain ⟨g1, cs1, b1, c1, c2, c3⟩ := hst.vec o g0 cs0 b0 ho hkv hb0
    refine ⟨g1, cs1, b1, c1, c2, .inl ?_⟩
    rcases c3 with c3 | ⟨c3, _⟩ <;> omega
   ·cases e
   ·exact hst.vec o g' cs' b ho a3 a5

/-- What was handed in may move: a variable (object k) and its slice (object kv) are taken at the age 1. -/
theorem Weak_bump (k kv : Nat) (cs : List D) (hk : H[k]? = some (.ref (.vec kv 0))) (hkv : H[kv]? = some (.vec 0 cs)) (H2 : List AObj) (hH : (H.set k (.ref (.vec kv 1))).set kv (.vec 1 cs) = H2) : Weak n G E H E H2 := by
 subst hH
 intro r a w hr
 have hkl := (List.getElem?_eq_some_iff.1 hk).1
 have hkvl := (List.getElem?_eq_some_iff.1 hkv).1
 have hkkv : k ≠ kv := fun e => by subst e; rw [hk] at hkv; cases hkv
 obtain ⟨H2, hH2⟩ : ∃ H2, (H.set k (.ref (.vec kv 1))).set kv (.vec 1 cs) = H2 := ⟨_, rfl⟩
 rw [hH2]
 have hl2 : H.length = H2.length := by rw [← hH2]; simp
 have at_ : ∀ (o : Nat) (y : AObj), H2[o]? = some y → (o = kv ∧ y = .vec 1 cs) ∨ (o = k ∧ y = .ref (.vec kv 1)) ∨ (o ≠ kv ∧ o ≠ k ∧ H[o]? = some y) := by
  intro o y h1
  rw [← hH2, List.getElem?_set] at h1
  by_cases e2 : kv = o
  ·subst e2
   rw [if_pos rfl, if_pos (by simp; omega)] at h1
   cases h1
   exact .inl ⟨rfl, rfl⟩
  ·rw [if_neg e2, List.getElem?_set] at h1
   by_cases e3 : k = o
   ·subst e3
    rw [if_pos rfl, if_pos hkl] at h1
    cases h1
    exact .inr (.inl ⟨rfl, rfl⟩)
   ·rw [if_neg e3] at h1
    exact .inr (.inr ⟨fun e => e2 e.symm, fun e => e3 e.symm, h1⟩)
 have old : ∀ (o : Nat) (y : AObj), H2[o]? = some y → y.live = true → ∃ z, H[o]? = some z ∧ z.live = true := fun o y h hl => by
  rcases at_ o y h with ⟨rfl, rfl⟩ | ⟨rfl, rfl⟩ | ⟨_, _, h⟩
  ·exact ⟨_, hkv, rfl⟩
  ·exact ⟨_, hk, rfl⟩
  ·exact ⟨y, h, hl⟩
 have hfree : ∀ b, free w H r b → free w H2 r b := fun b hb => ⟨hb.1, fun o y h1 hl h2 => by
  obtain ⟨z, hz, hlz⟩ := old o y h1 hl
  exact hb.2 o z hz hlz h2⟩
 have himm : ∀ b, imm G.F w H r b → imm G.F w H2 r b := fun b hb => ⟨hfree b hb.1, hb.2⟩
 have tr : ∀ {v : AV} {x : Value}, RepV G.F w H r v x → RepV G.F w H2 r v x := fun h => by
  refine h.transport hl2 himm (fun o x b h1 h2 h3 => ?_) (fun o g cs1 b h1 h2 => ?_)
  ·rcases at_ o x h1 with ⟨_, rfl⟩ | ⟨rfl, rfl⟩ | ⟨_, _, h4⟩
   ·cases h3
   ·exact ⟨_, hk, h2, rfl⟩
   ·exact ⟨x, h4, h2, h3⟩
  ·rcases at_ o _ h1 with ⟨rfl, e⟩ | ⟨_, e⟩ | ⟨_, _, h4⟩
   ·cases e
    exact ⟨0, cs, b, hkv, h2, .inl (by omega)⟩
   ·cases e
   ·exact ⟨g, cs1, b, h4, h2, .inr ⟨rfl, rfl, rfl⟩⟩
 refine ⟨r, hr.size, hr.defers, fun t v hv => ?_, ?_, ?_⟩
 ·obtain ⟨x, hx, hrx⟩ := hr.env t v hv
  exact ⟨x, hx, tr hrx⟩
 ·refine ⟨by rw [← hl2]; exact hr.heap.len, fun o o' y y' b h1 l1 h2 l2 h3 h4 => ?_, fun o y b h1 h2 => ?_, fun o y b h1 l1 h2 => ?_, hr.heap.fin⟩
  ·obtain ⟨z, hz, hlz⟩ := old o y h1 l1
   obtain ⟨z', hz', hlz'⟩ := old o' y' h2 l2
   exact hr.heap.inj o o' z z' b hz hlz hz' hlz' h3 h4
  ·rcases at_ o y h1 with ⟨rfl, rfl⟩ | ⟨rfl, rfl⟩ | ⟨_, _, h4⟩
   ·have hO := hr.heap.obj o _ b hkv h2
    cases hO with
    | vec _ _ vs ty hb hc hm hl => exact .vec _ cs vs ty hb hc hm (hl.mono fun b hb => ⟨rfl, himm b hb⟩)
   ·have hO := hr.heap.obj o _ b hk h2
    cases hO with
    | ref v z ty hb hx =>
     refine .ref _ z ty hb ?_
     cases hx with
     | vec _ _ _ ho hp =>
      refine .vec kv 1 z (by omega) fun g' cs' b' h1 h2 => ?_
      rcases at_ kv _ h1 with ⟨_, e⟩ | ⟨e, _⟩ | ⟨e, _⟩
      ·cases e; exact ⟨Nat.le_refl _, fun _ => (hp 0 cs b' hkv h2).2 rfl⟩
      ·exact absurd e.symm hkkv
      ·exact absurd rfl e
   ·have hO := hr.heap.obj o y b h4 h2
    cases hO with
    | gone => exact .gone
    | mp v I c hv hb hI0 => exact .mp v I c hv hb hI0
    | box cs vs ty hb hl => exact .box cs vs ty hb (hl.mono fun b hb => ⟨rfl, himm b hb⟩)
    | ref v z ty hb hx => exact .ref v z ty hb (tr hx)
    | vec g cs vs ty hb hc hm hl => exact .vec g cs vs ty hb hc hm (hl.mono fun b hb => ⟨rfl, himm b hb⟩)
  ·obtain ⟨z, hz, hlz⟩ := old o y h1 l1
   exact hr.heap.notF o z b hz hlz h2
 ·have hst := hr.step
  refine ⟨hst.os, hst.tape, hst.output, hst.size, fun b hb => ⟨(hst.free b hb).1, hfree b (hst.free b hb).2⟩, by rw [← hl2]; exact hst.len, fun o y b ho h1 h2 h3 => ?_, fun o g' cs' b ho h1 h2 => ?_⟩
  ·rcases at_ o y h1 with ⟨_, rfl⟩ | ⟨rfl, rfl⟩ | ⟨_, _, a3⟩
   ·cases h3
   ·exact hst.fixed o _ b ho hk h2 rfl
   ·exact hst.fixed o y b ho a3 h2 h3
  ·rcases at_ o _ h1 with ⟨rfl, e⟩ | ⟨_, e⟩ | ⟨_, _, a3⟩
   ·cases e
    obtain ⟨g1, cs1, b1, c1, c2, c3⟩ := hst.vec o 0 cs b ho hkv h2
    refine ⟨g1, cs1, b1, c1, c2, .inl ?_⟩
    rcases c3 with c3 | ⟨c3, _⟩ <;> omega
   ·cases e
   ·exact hst.vec o g' cs' b ho a3 h2

theorem vec_one {r : List Nat} {a : Act} {w : World} {x : Operand} {k g : Nat} {cs : List D} (hr : Rel n G E H r a w) (he : evalO E x = some (.vec k g)) (hk : H[k]? = some (.vec g cs)) (h : True = True) : (a.eval x).oneCell' = true := by
 have hev := evalO_sound hr he
 cases hev with
 | vec _ _ _ ho hp =>
  obtain ⟨b, hb⟩ := hr.heap.blk hk
  obtain ⟨cap, vs, ty, e1, _⟩ := (hp g cs b hk hb).2 rfl
  rw [e1]; rfl

variable {ops : Array Oper} {rest : List Oper} {o : Oper} {K : Env → List AObj → Prop}

theorem run_append_0 (w : World) (t ty e : TypeId) (i : TypeInfo) (z : Value) (ht : P.underlying t = some (.slice e)) (hi : P.info? e = some i) (hz : i.zero = some z) (A : Option Addr)
  (a : Addr) (m c : Nat) (news : List Value) (hl : news.length = m * i.size) (hnews : ∀ j v, news[j]? = some v → w.cell? (a.add j) = some v)
  (hg : 0 < m) (h63 : ((m : Nat) : Int) ≤ 9223372036854775807) (hfit : Builtin.nextslicecap m 0 * i.bytes ≤ 281474976710656) :
  (Builtin.append_ #[t, t] ty #[.slice A 0 0, .slice (some a) m c]).run P w =
   .ok (.slice (some ⟨w.heap.size, 0, none⟩) m (grownCap w m 0 e)) (w.drew.alloc (.cells (news.toArray ++ Builtin.zeroCells z.cells (grownCap w m 0 e - m)) e)) := by
 have hn : ¬ (m ≤ 0) := by omega
 have h63' : ¬ (9223372036854775807 < (m : Int)) := by omega
 have h48' : ¬ (281474976710656 < Builtin.nextslicecap m 0 * i.bytes) := by omega
 have hf := run_firstCells_some (P := P) w.drew i.size m a m c news hl (by simpa using hnews)
 have hfo : ∀ w', (Builtin.firstCells i.size 0 (.slice A 0 0)).run P w' = .ok #[] w' := by
  intro w'
  cases A <;> simp [Builtin.firstCells, loadCells, loadCellsFrom]
 have hm0 : ¬ m = 0 := by omega
 simp [Builtin.append_, run_underlying ht, sizeOf, typeInfo, zeroValue, hi, hz, Builtin.lenOf, hn, h63', h48', Question.forced, hf, hfo, newRow, grownCap, hm0]

/-- append to an empty slice without room. -/
theorem AOps_append0 (d : Nat) (c : Call) (t e : TypeId) (x y : Operand) (f : Option Bool) (v : AV) (ds : List D) (i : TypeInfo) (z : Value) (hw : wantedE ops E o = some true) (hd : o.dst = some d) (hlt : Nat.ble (d + 1) n = true) (hop : o.op = .call c) (hc : c.callee = .builtin .append)
  (ha : c.args = #[x, y]) (ht : c.argTypes = #[t, t]) (hu : P.underlying t = some (.slice e)) (hi : P.info? e = some i) (hz : i.zero = some z) (hz1 : z.oneCell' = true) (hsz : i.size = 1) (hby : i.bytes ≤ 64)
  (hx : evalO E x = some (.d (.se f))) (hy : evalO E y = some v) (hv : sliceOf H v = some ds) (hone : ∀ c ∈ ds, c.one = true) (hlen : ds.length ≤ 1099511627776) (hne : ds.length ≠ 0)
  (h : AOps P n G ops rest ((d, .vec H.length 0) :: E) (H ++ [.vec 0 ds]) K) : AOps P n G ops (o :: rest) E H K := by
 intro r a w hr
 unfold wpList
 rw [wantedE_sound hr hw, if_pos rfl]
 left
 have hev := evalO_sound hr hx
 obtain ⟨A, cap2, vs2, ey, hL2, hA2⟩ := sliceOf_sound hr.heap hv (evalO_sound hr hy)
 generalize hxv : a.eval x = xv at hev
 cases hev with
 | d _ _ hd' =>
 cases hd' with
 | se _ B hn =>
 have hl2 : vs2.length = ds.length := hL2.1
 have hones := hL2.oneCells hone
 obtain ⟨ad, rfl, hcell⟩ := hA2.resolve_left (fun e => hne (by rw [e]; rfl))
 have hblen : ds.length * i.bytes ≤ 140737488355328 := by
  have : ds.length * i.bytes ≤ 1099511627776 * 64 := Nat.mul_le_mul hlen hby
  omega
 have hfit := growslice_fits (need := ds.length) (old := 0) (bytes := i.bytes) (by omega) hblen
 have hrun := run_append_0 (P := P) w t o.type e i z hu hi hz B ad ds.length cap2 vs2 (by rw [hsz]; omega) hcell (by omega) (by omega) hfit
 have hgc := grownCap_ge w ds.length 0 e
 have hgm := grownCap_le_maxLen w ds.length 0 e (by simp only [maxLen]; omega)
 generalize hcapv : grownCap w ds.length 0 e = nc at hrun hgc hgm
 generalize hus : (vs2.toArray ++ Builtin.zeroCells z.cells (nc - ds.length)) = us at hrun
 have hussz : us.size = nc := by
  rw [← hus]; simp only [Array.size_append, List.size_toArray, zero_one (i := i) hz1, hl2]; omega
 have htake : us.toList.take ds.length = vs2 := by
  rw [← hus, Array.toList_append]
  exact List.take_left' hl2
 have ex : (execOp a.eval o).run P w = .ok (.value (.slice (some ⟨w.heap.size, 0, none⟩) ds.length us.size)) (w.drew.alloc (.cells us e)) := by
  rw [run_builtin hop hc, ha, ht]
  have : (#[x, y] : Array Operand).map a.eval = #[a.eval x, a.eval y] := by simp
  simp only [builtin, this, hxv, ey, Sem.run_bind, hrun, Result.andThen_ok, Sem.run_pure, hussz]
 unfold Oper.wp
 rw [ex, Oper.upon_value]
 have hb : Below w.heap.size w (w.drew.alloc (.cells us e)) := Below.alloc (⟨rfl, rfl, rfl, Nat.le_refl _, fun _ _ => rfl⟩ : Below w.heap.size w w.drew) (Nat.le_refl _) _
 have hlt1 : w.heap.size < (w.drew.alloc (.cells us e)).heap.size := size_alloc' w.drew _
 have hget : (w.drew.alloc (.cells us e)).heap[w.heap.size]? = some (.cells us e (0, 0)) := get_alloc' w.drew _
 have hst := step_new hr.heap (.vec 0 ds) hb hlt1
 have hx : RepO G.F (w.drew.alloc (.cells us e)) (H ++ [.vec 0 ds]) (r ++ [w.heap.size]) w.heap.size (.vec 0 ds) :=
  .vec 0 ds us e hget (by omega) (by rw [hussz]; exact hgm) (by rw [htake]; exact hL2.mono hst.imm)
 refine h _ _ _ (hr.put hst (hrel_new hr.heap _ hb hlt1 hx) o.dst _ _ d hd (Nat.le_of_ble_eq_true hlt) (.vec H.length 0 _ (by simp) fun g' cs' b h1 h2 => ?_))
 simp [← hr.heap.len] at h1 h2
 obtain ⟨rfl, rfl⟩ := h1
 subst h2
 exact ⟨Nat.le_refl _, fun _ => ⟨_, us, e, rfl, hget, rfl⟩⟩

theorem bsplit {p : Prop} (b : Bool) (ht : b = true → p) (hf : b = false → p) : p := by
 cases b with
 | false => exact hf rfl
 | true => exact ht rfl

theorem freeze_rep {F : Nat → Prop} {w : World} {r : List Nat} {o g : Nat} {cs : List D} {x : Value} (hh : HRel F w H r) (hH : H[o]? = some (.vec g cs)) (hv : RepV F w H r (.vec o g) x) : RepV F w (H.set o .gone) r (.d (.sl none cs)) x := by
 have hst : Step w H r w (H.set o .gone) r := step_gone o
 obtain ⟨b, hb⟩ := hh.blk hH
 cases hv with
 | vec _ _ _ ho hp =>
  obtain ⟨cap, vs, ty, e1, e2, e3⟩ := (hp g cs b hH hb).2 rfl
  have hO := hh.obj o _ b hH hb
  cases hO with
  | vec _ _ vs' ty' hb' hc hm hl =>
   have : vs' = vs := by rw [hb'] at e2; cases e2; rfl
   subst this
   subst e1
   have hlen : (vs'.toList.take cs.length).length = cs.length := by simp; omega
   have hI : imm F w (H.set o .gone) r b := by
    refine ⟨⟨(Array.getElem?_eq_some_iff.1 hb').1, fun o' x h1 h2 h3 => ?_⟩, hh.notF o _ b hH rfl hb⟩
    rcases get_gone h1 with rfl | ⟨hne, k1⟩
    ·simp [AObj.live] at h2
    ·exact hne (hh.inj o o' _ x b hH rfl k1 h2 hb h3)
   refine .d _ _ (.sl none cs (vs'.toList.take cs.length) (some ⟨b, 0, none⟩) cap hlen (fun b hb => by cases hb) (by rw [e3]; exact hc) (fun _ => ⟨b, 0, rfl, hI, fun i v hv => ?_⟩) (fun i c v hc' hv' => ?_))
   ·rw [World.cell_block hb']
    rw [List.getElem?_take] at hv
    split at hv
    ·simpa using hv
    ·cases hv
   ·obtain ⟨v2, g1, g2⟩ := (hl.mono hst.imm).get hc'
    rw [g1] at hv'
    cases hv'
    exact g2

theorem get_all (ts : List Nat) (v : AV) (E : Env) (k : Nat) (u : AV) (h : Env.get (ts.map (fun t => (t, v)) ++ E) k = some u) : (k ∈ ts ∧ u = v) ∨ Env.get E k = some u := by
 induction ts with
 | nil => exact .inr h
 | cons t ts ih =>
  rw [List.map_cons, List.cons_append] at h
  by_cases e : t = k
  ·subst e
   rw [Env.get_cons_self] at h
   cases h
   exact .inl ⟨List.mem_cons_self .., rfl⟩
  ·rw [Env.get_cons_ne _ _ e] at h
   rcases ih h with ⟨h1, h2⟩ | h
   ·exact .inl ⟨List.mem_cons_of_mem _ h1, h2⟩
   ·exact .inr h

/-- An owned slice becomes data, in all slots that hold it. -/
theorem AOps_freezeL (ts : List Nat) (o g : Nat) (cs : List D) (he : ∀ t ∈ ts, E.get t = some (.vec o g)) (hH : H[o]? = some (.vec g cs)) (h : AOps P n G ops rest (ts.map (fun t => (t, .d (.sl none cs))) ++ E) (H.set o .gone) K) : AOps P n G ops rest E H K := by
 intro r a w hr
 have hst : Step w H r w (H.set o .gone) r := step_gone o
 refine h r a w ⟨hr.size, hr.defers, fun k u hu => ?_, hrel_gone o hr.heap, hr.step.trans hst⟩
 rcases get_all ts _ E k u hu with ⟨h1, rfl⟩ | hu
 ·obtain ⟨x, hx, hv⟩ := hr.env k _ (he k h1)
  exact ⟨x, hx, freeze_rep hr.heap hH hv⟩
 ·obtain ⟨x, hx, hv⟩ := hr.env k u hu
  exact ⟨x, hx, hv.step hst⟩

/-- A call to which nothing is lent, in a drawn row. -/
theorem AStep_callN {f : Nat} {listed : Array Bool} (i d : Nat) (c : Call) (fop : Operand) (fv : AV) (g : FuncId) (cap avs us cs : List AV) (Q : List AV → List AObj → Prop) (hi : ops[i]? = some o)
  (hw : wantedE ops E o = some true) (hd : o.dst = some d) (hlt : Nat.ble (d + 1) n = true) (hop : o.op = .call c) (hc : c.callee = .value fop) (hf : evalO E fop = some fv) (hcl : calleeOf fv = some (g, cap))
  (hcall : ∀ args w, (callFunc g args).run P w = .ok (.enter g args) w) (ha : evalL E c.args.toList = some avs) (hv : viewA .own H [] avs = some us) (hvc : viewA .own H [] cap = some cs)
  (hac : AC P g (us.map dropA ++ cs) [] Q) (hk : ∀ res H', Q res H' → (∀ x ∈ H', okO (fun _ => True) x) ∧ (∀ v ∈ res, okV (fun _ => True) v) ∧ AAny P n G ops f (listed.setIfInBounds i true) ((d, resAV (res.map (back H []))) :: E) (backHeap H [] H') K) :
  AStep P n G ops f listed E H K i := by
 intro r a w hr
 unfold wpOp
 simp only [hi]
 rw [wantedE_sound hr hw, if_pos rfl]
 left
 unfold Oper.wp
 obtain ⟨vs, hx, hvs⟩ := calleeOf_sound hcl (evalO_sound hr hf)
 rw [run_call hop hc hx hcall, Oper.upon_enter]
 have hargs : RepVs G.F w H r avs (c.args.map a.eval) := by rw [map_eq]; exact evalL_sound hr ha
 have hn : ([] : List Nat).Nodup := by simp
 have hs : selHeap .own H [] [] = some [] := rfl
 have hseen := seen_own hr.heap hn hs
 refine (hac (ownF G.F H r []) w (selBlocks r []) _ (hrel_own hr.heap hn hs) ((hseen.viewA hargs hv).drop.append (hseen.viewA hvs hvc))).mono ?_
 rintro e w' ⟨res, H', r', x, rfl, q, hh', hres, hst⟩
 obtain ⟨q1, q2, q3⟩ := hk res H' q
 have hleft := left_own hr.heap hn hs hst hh' q1
 exact ⟨⟨hst.os, hst.tape, hst.output, hst.size, fun b hb => (hst.free b ⟨hb, fun o x h => by simp at h⟩).1⟩,
  q3 _ _ w' (hr.put hleft.toStep hleft.toHRel o.dst x _ d hd (Nat.le_of_ble_eq_true hlt) (backRes hleft q2 hres).toAV)⟩

end

end Go.Proofs.YtldgmcghdohmeaaGreat.Ab

namespace Go.Proofs.YtldgmcghdohmeaaGreat
open Go Go.RowKit Ab

/-- A number and a list of numbers. -/
structure Pos where
 n : Int
 l : List Int

end Go.Proofs.YtldgmcghdohmeaaGreat

