/- Own library, part 34: a row of a table that becomes an owned slice for good, in a row whose order Go leaves open. No conditions. -/
import Derived.Test.YtldgmcghdohmeaaGreatMg29
import Derived.Test.YtldgmcghdohmeaaGreatMg30
set_option linter.unusedVariables false
set_option linter.unusedSimpArgs false
namespace Go.Proofs.YtldgmcghdohmeaaGreat.Ab
open Go Go.RowKit

section
variable {P : Program} {n : Nat} {G : Ctx} {ops : Array Oper} {o : Oper} {rest l : List Oper} {E : Env} {H : List AObj} {w : World} {r : List Nat} {a : Act} {KM : Env → List AObj → Rws → Prop} {M : Rws}

theorem MRel.unrow (hG : G.H = []) (hF : ∀ b, G.F b → b < G.w.heap.size) (b : Nat) (M1 M2 : Rws) (vs : Array Value) (zs : List Value) (hr : MRel n G (M1 ++ (b, vs) :: M2) E H r a w)
  (h1 : zs.length ≤ vs.size) (h2 : vs.size ≤ maxLen) (h3 : vs.toList.take zs.length = zs) :
  MRel n G (M1 ++ M2) E (H ++ [.vec 0 (zs.map D.s)]) (r ++ [b]) a w ∧ Named ⟨MF G.F (M1 ++ M2), w, H ++ [.vec 0 (zs.map D.s)], r ++ [b]⟩ H.length 0 b vs.size zs.length := by
 have hlen := hr.rel.heap.len
 have hbm : b ∈ (M1 ++ (b, vs) :: M2).map (·.1) := by simp
 have hbnew : G.w.heap.size ≤ b := hr.new (b, vs) (by simp)
 have hbF : ¬ G.F b := fun h => Nat.lt_irrefl _ (Nat.lt_of_lt_of_le (hF b h) hbnew)
 have hnd := hr.nd
 rw [List.map_append, List.map_cons] at hnd
 have hb12 : b ∉ (M1 ++ M2).map (·.1) := by
  rw [List.map_append]
  intro hm
  have := List.nodup_append.1 hnd
  rcases List.mem_append.1 hm with hm | hm
  ·exact this.2.2 b hm b (by simp) rfl
  ·exact (List.nodup_cons.1 this.2.1).1 hm
 have hbF' : ¬ MF G.F (M1 ++ M2) b := fun h => h.elim hbF hb12
 have hsub : ∀ c, MF G.F (M1 ++ M2) c → MF G.F (M1 ++ (b, vs) :: M2) c := fun c h => h.imp id fun h => by
  rw [List.map_append] at h ⊢
  rcases List.mem_append.1 h with h | h
  ·exact List.mem_append.2 (.inl h)
  ·exact List.mem_append.2 (.inr (List.mem_cons_of_mem _ h))
 have hnot : ∀ (o : Nat) (x : AObj), H[o]? = some x → x.live = true → r[o]? ≠ some b := fun o x k1 k2 k3 => hr.rel.heap.notF o x b k1 k2 k3 (.inr hbm)
 obtain ⟨ty, hbh⟩ := hr.here (b, vs) (by simp)
 obtain ⟨H1, hH1⟩ : ∃ H1, H1 = H ++ [.vec 0 (zs.map D.s)] := ⟨_, rfl⟩
 obtain ⟨r1, hr1⟩ : ∃ r1, r1 = r ++ [b] := ⟨_, rfl⟩
 have getH : ∀ (o : Nat) (x : AObj), H1[o]? = some x → (o < H.length ∧ H[o]? = some x) ∨ (o = H.length ∧ x = .vec 0 (zs.map D.s)) := fun o x k => by
  rw [hH1, List.getElem?_append] at k
  split at k
  ·rename_i hlt; exact .inl ⟨hlt, k⟩
  ·rename_i hge
   have : o - H.length = 0 := by
    rcases Nat.eq_zero_or_pos (o - H.length) with h | h
    ·exact h
    ·rw [List.getElem?_eq_none (by simp; omega)] at k; cases k
   rw [this] at k
   exact .inr ⟨by omega, by simpa using k.symm⟩
 have getr : ∀ (o c : Nat), r1[o]? = some c → (o < H.length ∧ r[o]? = some c) ∨ (o = H.length ∧ c = b) := fun o c k => by
  rw [hr1, List.getElem?_append, hlen] at k
  split at k
  ·rename_i hlt; exact .inl ⟨hlt, k⟩
  ·rename_i hge
   have : o - H.length = 0 := by
    rcases Nat.eq_zero_or_pos (o - H.length) with h | h
    ·exact h
    ·rw [List.getElem?_eq_none (by simp; omega)] at k; cases k
   rw [this] at k
   exact .inr ⟨by omega, by simpa using k.symm⟩
 have hlen1 : H.length ≤ H1.length := by rw [hH1]; simp
 have himm : ∀ c, imm (MF G.F (M1 ++ (b, vs) :: M2)) w H r c → imm (MF G.F (M1 ++ M2)) w H1 r1 c := fun c hc => by
  refine ⟨⟨hc.1.1, fun o x k1 k2 k3 => ?_⟩, fun h => hc.2 (hsub c h)⟩
  rcases getH o x k1 with ⟨hlt, k1⟩ | ⟨rfl, rfl⟩
  ·rcases getr o c k3 with ⟨_, k3⟩ | ⟨rfl, _⟩
   ·exact hc.1.2 o x k1 k2 k3
   ·omega
  ·rcases getr _ c k3 with ⟨hlt, _⟩ | ⟨_, rfl⟩
   ·omega
   ·exact hc.2 (.inr hbm)
 have hf : ∀ (o1 : Nat) (x : AObj) (c : Nat), o1 < H.length → H1[o1]? = some x → r1[o1]? = some c → x.fixed = true → ∃ y, H[o1]? = some y ∧ r[o1]? = some c ∧ y.fixed = true := fun o1 x c hlt k1 k2 k3 => by
  rcases getH o1 x k1 with ⟨_, k1⟩ | ⟨rfl, _⟩
  ·rcases getr o1 c k2 with ⟨_, k2⟩ | ⟨rfl, _⟩
   ·exact ⟨x, k1, k2, k3⟩
   ·omega
  ·omega
 have hvv : ∀ (o1 g1 : Nat) (cs1 : List D) (c : Nat), o1 < H.length → H1[o1]? = some (.vec g1 cs1) → r1[o1]? = some c → H[o1]? = some (.vec g1 cs1) ∧ r[o1]? = some c := fun o1 g1 cs1 c hlt k1 k2 => by
  rcases getH o1 _ k1 with ⟨_, k1⟩ | ⟨rfl, _⟩
  ·rcases getr o1 c k2 with ⟨_, k2⟩ | ⟨rfl, _⟩
   ·exact ⟨k1, k2⟩
   ·omega
  ·omega
 have hheap1 : HRel (MF G.F (M1 ++ M2)) w H1 r1 := by
  refine ⟨by rw [hH1, hr1]; simp [hlen], fun o1 o2 x x' c k1 l1 k2 l2 e1 e2 => ?_, fun o1 x c k1 k2 => ?_, fun o1 x c k1 k2 k3 h => ?_, fun c hc => hr.rel.heap.fin c (hsub c hc)⟩
  ·rcases getH o1 x k1 with ⟨lt1, k1⟩ | ⟨rfl, rfl⟩ <;> rcases getH o2 x' k2 with ⟨lt2, k2⟩ | ⟨rfl, rfl⟩
   ·rcases getr o1 c e1 with ⟨_, e1⟩ | ⟨rfl, _⟩
    ·rcases getr o2 c e2 with ⟨_, e2⟩ | ⟨rfl, _⟩
     ·exact hr.rel.heap.inj o1 o2 x x' c k1 l1 k2 l2 e1 e2
     ·omega
    ·omega
   ·rcases getr o1 c e1 with ⟨_, e1⟩ | ⟨rfl, _⟩
    ·rcases getr _ c e2 with ⟨lt, _⟩ | ⟨_, rfl⟩
     ·omega
     ·exact absurd e1 (hnot o1 x k1 l1)
    ·omega
   ·rcases getr o2 c e2 with ⟨_, e2⟩ | ⟨rfl, _⟩
    ·rcases getr _ c e1 with ⟨lt, _⟩ | ⟨_, rfl⟩
     ·omega
     ·exact absurd e2 (hnot o2 x' k2 l2)
    ·omega
   ·rfl
  ·rcases getH o1 x k1 with ⟨lt1, k1⟩ | ⟨rfl, rfl⟩
   ·rcases getr o1 c k2 with ⟨_, k2⟩ | ⟨rfl, _⟩
    ·exact (hr.rel.heap.obj o1 x c k1 k2).moveF hlen1 himm hf hvv
    ·omega
   ·rcases getr _ c k2 with ⟨lt, _⟩ | ⟨_, rfl⟩
    ·omega
    ·refine .vec 0 _ vs ty hbh (by simpa using h1) h2 ?_
     rw [List.length_map, h3]
     exact RepL.map_s zs
  ·rcases getH o1 x k1 with ⟨lt1, k1⟩ | ⟨rfl, rfl⟩
   ·rcases getr o1 c k3 with ⟨_, k3⟩ | ⟨rfl, _⟩
    ·exact hr.rel.heap.notF o1 x c k1 k2 k3 (hsub c h)
    ·omega
   ·rcases getr _ c k3 with ⟨lt, _⟩ | ⟨_, rfl⟩
    ·omega
    ·exact hbF' h
 have hst : Step G.w G.H G.r w H1 r1 := by
  have st := hr.rel.step
  refine ⟨st.os, st.tape, st.output, st.size, fun c hc => ?_, by rw [hG]; simp, ?_, ?_⟩
  ·obtain ⟨e, hc'⟩ := st.free c hc
   refine ⟨e, hc'.1, fun o x k1 k2 k3 => ?_⟩
   rcases getH o x k1 with ⟨lt, k1⟩ | ⟨rfl, rfl⟩
   ·rcases getr o c k3 with ⟨_, k3⟩ | ⟨rfl, _⟩
    ·exact hc'.2 o x k1 k2 k3
    ·omega
   ·rcases getr _ c k3 with ⟨lt, _⟩ | ⟨_, rfl⟩
    ·omega
    ·exact Nat.lt_irrefl _ (Nat.lt_of_lt_of_le hc.1 hbnew)
  ·intro o x' b' ho; rw [hG] at ho; simp at ho
  ·intro o g' cs' b' ho; rw [hG] at ho; simp at ho
 have hgb : r1[H.length]? = some b := by rw [hr1, List.getElem?_append_right (by omega)]; simp [hlen]
 have hgH : H1[H.length]? = some (.vec 0 (zs.map D.s)) := by rw [hH1, List.getElem?_append_right (Nat.le_refl _)]; simp
 have hrel1 : Rel n (GM G (M1 ++ M2)) E H1 r1 a w :=
  ⟨hr.rel.size, hr.rel.defers, fun k u hu => let ⟨y, hy, hv'⟩ := hr.rel.env k u hu; ⟨y, hy, hv'.moveF hlen1 himm hf hvv⟩, hheap1, hst⟩
 rw [← hH1, ← hr1]
 refine ⟨⟨hrel1, ?_, fun p hp => hr.new p ?_, fun p hp => hr.here p ?_⟩, ⟨⟨_, hgH, by simp⟩, hgb, vs, ty, hbh, rfl⟩⟩
 ·rw [List.map_append]
  have := List.nodup_append.1 hnd
  refine List.nodup_append.2 ⟨this.1, (List.nodup_cons.1 this.2.1).2, fun x hx y hy => this.2.2 x hx y (List.mem_cons_of_mem _ hy)⟩
 ·rcases List.mem_append.1 hp with h | h
  ·exact List.mem_append.2 (.inl h)
  ·exact List.mem_append.2 (.inr (List.mem_cons_of_mem _ h))
 ·rcases List.mem_append.1 hp with h | h
  ·exact List.mem_append.2 (.inl h)
  ·exact List.mem_append.2 (.inr (List.mem_cons_of_mem _ h))

theorem MRel.drawn (hr : MRel n G M E H r a w) : MRel n G M E H r a { w with drawn := w.drawn + 1 } :=
 ⟨hr.rel.below ⟨rfl, rfl, rfl, Nat.le_refl _, fun _ _ => rfl⟩, hr.nd, hr.new, hr.here⟩

/-- A row whose order Go leaves open, with one table row as an owned slice for good; its last operation is taken with the rows in sight. -/
theorem MC_lastU {id : Nat} {l : List Oper} {Q : Exit → Env → List AObj → Rws → Prop} (hm : P.follows .mixedOrders = true) (hB : lastB l o = true) (hG : G.H = []) (hF : ∀ b, G.F b → b < G.w.heap.size) (b : Nat) (M1 M2 : Rws) (vs : Array Value) (zs : List Value) (hM : M = M1 ++ (b, vs) :: M2)
  (h1 : zs.length ≤ vs.size) (h2 : vs.size ≤ maxLen) (h3 : vs.toList.take zs.length = zs)
  (h : ∀ G', G'.H = H ++ [.vec 0 (zs.map D.s)] → Named G' H.length 0 b vs.size zs.length → AU P n G' l.toArray l.length (Array.replicate l.length false) E (H ++ [.vec 0 (zs.map D.s)]) (fun E' H' => MOps P n G (l ++ [o]).toArray [o] E' H' (M1 ++ M2) (fun E'' H'' M'' => Q .normal E'' H'' M''))) :
  MC P n G (.region id (l ++ [o]).toArray true) E H M Q := by
 subst hM
 intro r a w hr
 obtain ⟨hr1, hn⟩ := MRel.unrow hG hF b M1 M2 vs zs hr.drawn h1 h2 h3
 have h4 := h _ rfl hn _ a _ hr1.now.2
 obtain ⟨Post2, hP2⟩ : ∃ Post2 : Exit → Act → World → Prop, Post2 = fun x a' w' => x = .normal ∧ ∃ E' H' M' r', Q .normal E' H' M' ∧ MRel n G M' E' H' r' a' w' := ⟨_, rfl⟩
 refine wp_mono (Q := Post2) (wp_region_any hm ?_) ?_
 ·have hK : ∀ x a' w', postQ n ⟨MF G.F (M1 ++ M2), { w with drawn := w.drawn + 1 }, H ++ [.vec 0 (zs.map D.s)], r ++ [b]⟩ (fun E' H' => MOps P n G (l ++ [o]).toArray [o] E' H' (M1 ++ M2) (fun E'' H'' M'' => Q .normal E'' H'' M'')) x a' w' → Exit.then (wpOp P (l ++ [o]).toArray Post2 l.length (fun a' w' => Post2 .normal a' w')) Post2 x a' w' := by
   rintro x a' w' ⟨rfl, E', H', r', k, hr2⟩
   have h5 := k r' a' w' (hr1.later hr2)
   have e : (l ++ [o]).toArray[l.length]? = some o := by simp
   have goal1 : wpOp P (l ++ [o]).toArray (fun x a w => x = Exit.normal ∧ ∃ E'' H'' M'' r'', Q .normal E'' H'' M'' ∧ MRel n G M'' E'' H'' r'' a w) l.length (fun a' w' => Exit.normal = Exit.normal ∧ ∃ E'' H'' M'' r'', Q .normal E'' H'' M'' ∧ MRel n G M'' E'' H'' r'' a' w') a' w' := by
    unfold wpOp
    rw [e]
    exact h5
   rw [hP2]
   exact goal1
  have h6 := any_push (P := P) (Q := Post2) hB l.length (Array.replicate l.length false) a { w with drawn := w.drawn + 1 } (by simp) (fun i x _ ht => by
   simp [Array.getD_eq_getD_getElem?, Array.getElem?_replicate] at ht
   split at ht <;> simp_all) (wpAny_imp hK _ _ _ _ h4)
  have e : (Array.replicate l.length false).push false = Array.replicate (l ++ [o]).toArray.size false := by simp [← Array.replicate_succ]
  rw [e] at h6
  simpa using h6
 ·rw [hP2]
  rintro x a' w' ⟨rfl, E', H', M', r', q, hr'⟩
  exact ⟨E', H', M', r', q, hr'⟩
end
end Go.Proofs.YtldgmcghdohmeaaGreat.Ab
