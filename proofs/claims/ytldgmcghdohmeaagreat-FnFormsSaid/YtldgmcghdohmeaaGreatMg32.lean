/- Own library, part 21: contracts whose results lead to rows that are the caller's from then on. No conditions. -/
import Derived.Test.YtldgmcghdohmeaaGreatMg29
import Derived.Test.YtldgmcghdohmeaaGreatMg13
set_option linter.unusedSimpArgs false
set_option linter.unusedVariables false
namespace Go.Proofs.YtldgmcghdohmeaaGreat
open Go Go.RowKit Ab
namespace Ab

section
variable {P : Program} {n : Nat} {G : Ctx} {E : Env} {H : List AObj} {w : World} {r : List Nat} {a : Act}

end
end Ab
end Go.Proofs.YtldgmcghdohmeaaGreat

namespace Go.Proofs.YtldgmcghdohmeaaGreat
open Go Go.RowKit Ab
namespace Ab

/-- What a call leaves that touches only rows. -/
structure Keep (w : World) (M : Rws) (w' : World) (M' : Rws) : Prop where
 os : w'.os = w.os
 tape : w'.tape = w.tape
 output : w'.output = w.output
 size : w.heap.size ≤ w'.heap.size
 same : ∀ b, b < w.heap.size → b ∉ M.map (·.1) → w'.heap[b]? = w.heap[b]?
 nd : (M'.map (·.1)).Nodup
 old : ∀ p ∈ M', p.1 ∈ M.map (·.1) ∨ w.heap.size ≤ p.1
 here : ∀ p ∈ M', ∃ ty, w'.heap[p.1]? = some (.cells p.2 ty (0, 0))

section
variable {P : Program} {n : Nat} {G : Ctx} {ops : Array Oper} {o : Oper} {rest : List Oper} {E : Env} {H : List AObj} {w w' : World} {r : List Nat} {a : Act} {M M' : Rws} {KM : Env → List AObj → Rws → Prop}

/-- What leads nowhere stands for itself everywhere. -/
theorem RepV.flat {F : Nat → Prop} {v : AV} {x : Value} (h : RepV (fun _ => True) w [] [] v x) : RepV F w H r v x := by
 induction h with
 | d y v h => exact .d y v (h.mono fun b hb => (hb.2 trivial).elim)
 | ptr o off v ho h => simp at ho
 | vec o g v ho h => simp at ho
 | eptr o g i v ho h => simp at ho
 | part o g lo n v ho h => simp at ho
 | clo f cap vs hl _ ih => exact .clo f cap vs hl ih
 | tup cs vs hl _ ih => exact .tup cs vs hl ih

theorem RepV.keep {F F' : Nat → Prop} (himm : ∀ b, imm F w H r b → w'.heap[b]? = w.heap[b]? ∧ imm F' w' H r b) (hs : ∀ (o : Nat) (x : AObj) (b : Nat), H[o]? = some x → x.live = true → r[o]? = some b → w'.heap[b]? = w.heap[b]?)
  {v : AV} {x : Value} (h : RepV F w H r v x) : RepV F' w' H r v x := by
 induction h with
 | d y v h => exact .d y v (h.mono himm)
 | ptr o off v ho h => exact .ptr o off v ho h
 | vec o g v ho h =>
  refine .vec o g v ho fun g' cs b h1 h2 => ?_
  obtain ⟨k1, k2⟩ := h g' cs b h1 h2
  refine ⟨k1, fun e => ?_⟩
  obtain ⟨cap, vs, ty, e1, e2, e3⟩ := k2 e
  exact ⟨cap, vs, ty, e1, by rw [hs o _ b h1 rfl h2]; exact e2, e3⟩
 | eptr o g i v ho h => exact .eptr o g i v ho h
 | part o g lo n v ho h =>
  refine .part o g lo n v ho fun g' cs b h1 h2 => ?_
  obtain ⟨k1, k2⟩ := h g' cs b h1 h2
  refine ⟨k1, fun e => ?_⟩
  obtain ⟨q1, vs, ty, l, c, e1, e2, e3⟩ := k2 e
  exact ⟨q1, vs, ty, l, c, e1, by rw [hs o _ b h1 rfl h2]; exact e2, e3⟩
 | clo f cap vs hl _ ih => exact .clo f cap vs hl ih
 | tup cs vs hl _ ih => exact .tup cs vs hl ih

theorem RepO.keep {F F' : Nat → Prop} (himm : ∀ b, imm F w H r b → w'.heap[b]? = w.heap[b]? ∧ imm F' w' H r b) (hs : ∀ (o : Nat) (x : AObj) (b : Nat), H[o]? = some x → x.live = true → r[o]? = some b → w'.heap[b]? = w.heap[b]?)
  {b : Nat} {x : AObj} (hb : x.live = true → w'.heap[b]? = w.heap[b]?) (h : RepO F w H r b x) : RepO F' w' H r b x := by
 cases h with
 | gone => exact .gone
 | mp v I c hv h1 hI0 => exact .mp v I c hv (by rw [hb rfl]; exact h1) hI0
 | box cs vs ty h1 hl => exact .box cs vs ty (by rw [hb rfl]; exact h1) (hl.mono himm)
 | ref v z ty h1 hl => exact .ref v z ty (by rw [hb rfl]; exact h1) (hl.keep himm hs)
 | vec g cs vs ty h1 hc hm hl => exact .vec g cs vs ty (by rw [hb rfl]; exact h1) hc hm (hl.mono himm)

theorem MRel.keep (hG : G.H = []) (hF : ∀ b, G.F b → b < G.w.heap.size) (hr : MRel n G M E H r a w) (hk : Keep w M w' M') : MRel n G M' E H r a w' := by
 have himm : ∀ b, imm (MF G.F M) w H r b → w'.heap[b]? = w.heap[b]? ∧ imm (MF G.F M') w' H r b := fun b hb => by
  have hbM : b ∉ M.map (·.1) := fun h => hb.2 (.inr h)
  refine ⟨hk.same b hb.1.1 hbM, ⟨Nat.lt_of_lt_of_le hb.1.1 hk.size, hb.1.2⟩, ?_⟩
  rintro (h | h)
  ·exact hb.2 (.inl h)
  ·obtain ⟨p, hp, rfl⟩ := List.mem_map.1 h
   rcases hk.old p hp with h | h
   ·exact hbM h
   ·exact Nat.lt_irrefl _ (Nat.lt_of_lt_of_le hb.1.1 h)
 have hs : ∀ (o : Nat) (x : AObj) (b : Nat), H[o]? = some x → x.live = true → r[o]? = some b → w'.heap[b]? = w.heap[b]? := fun o x b h1 h2 h3 =>
  hk.same b ((hr.rel.heap.obj o x b h1 h3).lt h2) fun h => hr.rel.heap.notF o x b h1 h2 h3 (.inr h)
 have hnew : ∀ p ∈ M', G.w.heap.size ≤ p.1 := fun p hp => by
  rcases hk.old p hp with h | h
  ·obtain ⟨q, hq, e⟩ := List.mem_map.1 h
   rw [← e]; exact hr.new q hq
  ·exact Nat.le_trans hr.rel.step.size h
 have hMG : ∀ b, b < G.w.heap.size → b ∉ M.map (·.1) := fun b hb h => by
  obtain ⟨q, hq, rfl⟩ := List.mem_map.1 h
  exact Nat.lt_irrefl _ (Nat.lt_of_lt_of_le hb (hr.new q hq))
 refine ⟨⟨hr.rel.size, hr.rel.defers, fun t v hv => let ⟨x, hx, h⟩ := hr.rel.env t v hv; ⟨x, hx, h.keep himm hs⟩, ?_, ?_⟩, hk.nd, hnew, hk.here⟩
 ·refine ⟨hr.rel.heap.len, hr.rel.heap.inj, fun o x b h1 h2 => (hr.rel.heap.obj o x b h1 h2).keep himm hs (fun hl => hs o x b h1 hl h2), fun o x b h1 h2 h3 => ?_, fun b hb => ?_⟩
  ·rintro (h | h)
   ·exact hr.rel.heap.notF o x b h1 h2 h3 (.inl h)
   ·obtain ⟨p, hp, rfl⟩ := List.mem_map.1 h
    rcases hk.old p hp with h | h
    ·exact hr.rel.heap.notF o x _ h1 h2 h3 (.inr h)
    ·exact Nat.lt_irrefl _ (Nat.lt_of_lt_of_le ((hr.rel.heap.obj o x _ h1 h3).lt h2) h)
  ·rcases hb with h | h
   ·exact Nat.lt_of_lt_of_le (hr.rel.heap.fin b (.inl h)) hk.size
   ·obtain ⟨p, hp, rfl⟩ := List.mem_map.1 h
    obtain ⟨ty, e⟩ := hk.here p hp
    exact (Array.getElem?_eq_some_iff.1 e).1
 ·have st := hr.rel.step
  refine ⟨hk.os.trans st.os, hk.tape.trans st.tape, hk.output.trans st.output, Nat.le_trans st.size hk.size, fun b hb => ?_, ?_, ?_, ?_⟩
  ·obtain ⟨e, hb'⟩ := st.free b hb
   exact ⟨(hk.same b hb'.1 (hMG b hb.1)).trans e, Nat.lt_of_lt_of_le hb'.1 hk.size, hb'.2⟩
  ·simp [GM, hG]
  ·intro o x' b' ho; simp [GM, hG] at ho
  ·intro o g' cs' b' ho; simp [GM, hG] at ho

theorem imm0 {w : World} {b : Nat} (h : b < w.heap.size) : imm (fun _ => False) w [] [] b := ⟨⟨h, fun _ _ hx => by simp at hx⟩, id⟩

def Here (M : Rws) (w : World) : Prop := ∀ p ∈ M, ∃ ty, w.heap[p.1]? = some (.cells p.2 ty (0, 0))

end
end Ab
end Go.Proofs.YtldgmcghdohmeaaGreat
