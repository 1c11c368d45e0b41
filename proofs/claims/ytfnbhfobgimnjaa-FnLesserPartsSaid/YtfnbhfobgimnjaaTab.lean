/- Own library: tables of whole numbers whose rows are a call's own. No conditions. -/
import Derived.Test.YtfnbhfobgimnjaaAb20
import Derived.Test.YtfnbhfobgimnjaaColEq
set_option linter.unusedVariables false
set_option linter.unusedSimpArgs false
namespace Go.Proofs.Ytfnbhfobgimnjaa
open Go Go.RowKit Ab

/-- A row's header: its block, its length, its capacity. -/
def hX (p : Nat × Nat × Nat) : D := .s (.slice (some ⟨p.1, 0, none⟩) p.2.1 p.2.2)
def hdD (l : List (Nat × Nat × Nat)) : List D := l.map hX
theorem hdD_length (l : List (Nat × Nat × Nat)) : (hdD l).length = l.length := by simp [hdD]
theorem hdD_get (l : List (Nat × Nat × Nat)) (i : Nat) (d : Nat × Nat × Nat) (h : i < l.length) : (hdD l)[i]? = some (hX (l.getD i d)) := by simp [hdD, h]
theorem hdD_one (l : List (Nat × Nat × Nat)) : ∀ c ∈ hdD l, c.one = true := by
  intro c hc
  obtain ⟨p, _, rfl⟩ := List.mem_map.1 hc
  rfl
theorem hdD_app (l m : List (Nat × Nat × Nat)) : hdD l ++ hdD m = hdD (l ++ m) := by simp [hdD]
theorem intsD_s (l : List Int) : intsD l = (l.map (Value.int .i64)).map D.s := by simp [intsD, iD]

/-- What stands behind a header. -/
def RowOK (M : Rws) (p : Nat × Nat × Nat) (l : List Int) : Prop := ∃ vs, (p.1, vs) ∈ M ∧ p.2.1 = l.length ∧ p.2.2 = vs.size ∧ l.length ≤ vs.size ∧ vs.size ≤ maxLen ∧ vs.toList.take l.length = l.map (Value.int .i64)
/-- .. behind all but the j-th. -/
def TabX (T : List (List Int)) (hd : List (Nat × Nat × Nat)) (M : Rws) (j : Int) : Prop := T.length = hd.length ∧ ∀ i : Nat, i < hd.length → (i : Int) ≠ j → RowOK M (hd.getD i (0, 0, 0)) (T.getD i [])

section
variable {P : Program} {n : Nat} {G G' : Ctx} {E : Env} {H H0 : List AObj} {ops : Array Oper} {rest l : List Oper} {o : Oper} {M : Rws} {T : List (List Int)} {hd : List (Nat × Nat × Nat)} {j : Int}

theorem QOp_index_tab (hn : Now G M G' H0) (hT : TabX T hd M j) (t e : TypeId) (x y : Operand) (kd : IntKind) (i h : Int) (hop : o.op = .indexAddr t x y) (hu : P.underlying t = some (.slice e)) (hsz : ∀ w, (sizeOf e).run P w = .ok 1 w)
    (hi : 0 ≤ i ∧ i < (T.length : Int)) (hij : i ≠ j) (hh : 0 ≤ h ∧ h < ((T.getD i.toNat []).length : Int)) (hx : evalO E x = some (.d (hX (hd.getD i.toNat (0, 0, 0))))) (hy : evalO E y = some (.d (.s (.int kd h)))) :
    QOp P n G' o E H (.d (.s (.pointer (some ⟨(hd.getD i.toNat (0, 0, 0)).1, h.toNat, none⟩)))) := by
  intro r a w hr
  have hlen := hT.1
  obtain ⟨vs, _, h2, _⟩ := hT.2 i.toNat (by omega) (by rw [Int.toNat_of_nonneg hi.1]; exact hij)
  have hb : h < (((hd.getD i.toNat (0, 0, 0)).2.1 : Nat) : Int) := by rw [h2]; exact hh.2
  refine ⟨_, .d _ _ (.s _), fun w' _ => ?_⟩
  have e1 := evalO_s hr hx
  generalize hd.getD i.toNat (0, 0, 0) = p at e1 hb
  simp [execOp, hop, Instr.indexAt, run_underlying hu, e1, evalO_s hr hy, asIntOf, hsz, Addr.add_lit, hh.1, hb]

theorem QOp_load_tab (hn : Now G M G' H0) (hT : TabX T hd M j) (t : TypeId) (x : Operand) (i h : Int) (hop : o.op = .load t x) (ht : ∀ w, (isAgg t).run P w = .ok false w)
    (he : evalO E x = some (.d (.s (.pointer (some ⟨(hd.getD i.toNat (0, 0, 0)).1, h.toNat, none⟩))))) (hi : 0 ≤ i ∧ i < (T.length : Int)) (hij : i ≠ j) (hh : 0 ≤ h ∧ h < ((T.getD i.toNat []).length : Int)) :
    QOp P n G' o E H (.d (iD ((T.getD i.toNat []).getD h.toNat 0))) := by
  intro r a w hr
  have hlen := hT.1
  obtain ⟨vs, hm, h2, h3, h4, h5, h6⟩ := hT.2 i.toNat (by omega) (by rw [Int.toNat_of_nonneg hi.1]; exact hij)
  obtain ⟨_, hfr, ty, hbl⟩ := hn.2.2 _ hm
  have hw := (hr.step.free _ hfr).1
  have hlt : h.toNat < (T.getD i.toNat []).length := by omega
  have hcell : vs.toList[h.toNat]? = some (.int .i64 ((T.getD i.toNat []).getD h.toNat 0)) := by
    have h7 : (vs.toList.take (T.getD i.toNat []).length)[h.toNat]? = some (.int .i64 ((T.getD i.toNat []).getD h.toNat 0)) := by
      rw [h6]
      generalize T.getD i.toNat [] = row at hlt
      simp [hlt]
    rw [List.getElem?_take, if_pos hlt] at h7
    exact h7
  refine ⟨_, .d _ _ (.s _), fun w' hb => ?_⟩
  have hlt2 : (hd.getD i.toNat (0, 0, 0)).1 < w.heap.size := (hr.step.free _ hfr).2.1
  have e1 := evalO_s hr he
  generalize hd.getD i.toNat (0, 0, 0) = p at e1 hbl hw hlt2
  have hc : w'.cell? ⟨p.1, h.toNat, none⟩ = some (.int .i64 ((T.getD i.toNat []).getD h.toNat 0)) := by
    rw [World.cell?_of_block (w := w) (a := ⟨p.1, h.toNat, none⟩) (hb.block p.1 hlt2), World.cell_block (by rw [hw]; exact hbl)]
    simpa using hcell
  simp [execOp, hop, Instr.loadAt, e1, Instr.sureAddr, loadVar, ht, hc]

theorem MOps_abandonI {KM : Env → List AObj → Rws → Prop} (hG : G.H = []) (t k g : Nat) (zs : List Int) (he : E.get t = some (.vec k g)) (hH : H[k]? = some (.vec g (intsD zs)))
    (h : ∀ b vs, b ∉ M.map (·.1) → RowOK ((b, vs) :: M) (b, zs.length, vs.size) zs → MOps P n G ops l ((t, .d (hX (b, zs.length, vs.size))) :: E) (H.set k .gone) ((b, vs) :: M) KM) : MOps P n G ops l E H M KM := by
  refine MOps_abandon hG t k g (zs.map (Value.int .i64)) he (by rw [hH, intsD_s]) fun b vs h1 h2 h3 h4 => ?_
  rw [List.length_map] at h2 h4 ⊢
  exact h b vs h1 ⟨vs, by simp, rfl, rfl, h2, h3, h4⟩

theorem MC_rowI {Q : Exit → Env → List AObj → Rws → Prop} (hG : G.H = []) (hF : ∀ b, G.F b → b < G.w.heap.size) {c : Code} (t : Nat) (p : Nat × Nat × Nat) (vs : Array Value) (zs : List Int) (M1 M2 : Rws) (hM : M = M1 ++ (p.1, vs) :: M2)
    (he : E.get t = some (.d (hX p))) (hp1 : p.2.1 = zs.length) (hp2 : p.2.2 = vs.size) (h1 : zs.length ≤ vs.size) (h2 : vs.size ≤ maxLen) (h3 : vs.toList.take zs.length = zs.map (Value.int .i64)) (J : Env → List AObj → List Int → Prop)
    (h : ∀ G', Now G (M1 ++ M2) G' (H ++ [.vec 0 (intsD zs)]) → ACode P n G' c ((t, .vec H.length 0) :: E) (H ++ [.vec 0 (intsD zs)]) (fun x E' H' => x = .normal ∧ ∃ Hk zs', H' = Hk ++ [.vec 0 (intsD zs')] ∧ Hk.length = H.length ∧ zs'.length = zs.length ∧ J E' Hk zs'))
    (hq : ∀ E' Hk zs' vs', J E' Hk zs' → zs'.length = zs.length → vs'.size = vs.size → vs'.toList.take zs'.length = zs'.map (Value.int .i64) → Q .normal E' (Hk ++ [.gone]) (M1 ++ (p.1, vs') :: M2)) : MC P n G c E H M Q := by
  refine MC_row hG hF t p.1 M1 M2 vs (zs.map (Value.int .i64)) hM (by rw [he, List.length_map, ← hp1, ← hp2]; rfl) (by rw [List.length_map]; exact h1) h2 (by rw [List.length_map]; exact h3) (fun E' Hk us => ∃ zs', us = zs'.map (Value.int .i64) ∧ J E' Hk zs') (fun G' hn => ?_) (fun E' Hk us vs' hJ hl hs ht => ?_)
  · rw [← intsD_s] at hn ⊢
    refine ACode_mono (h G' hn) ?_
    rintro x E' H' ⟨rfl, Hk, zs', rfl, e1, e2, e3⟩
    exact ⟨rfl, Hk, zs'.map (Value.int .i64), by rw [← intsD_s], e1, by simp [e2], zs', rfl, e3⟩
  · obtain ⟨zs', rfl, hJ⟩ := hJ
    rw [List.length_map, List.length_map] at hl
    rw [List.length_map] at ht
    exact hq E' Hk zs' vs' hJ hl hs ht

/-- What holds behind a code is told anew. -/
theorem ACode_post {c : Code} {Q Q' : Exit → Env → List AObj → Prop} (h : ACode P n G c E H Q') (hq : ∀ x E H, Q' x E H → ∃ E0 H0, Weak n G E H E0 H0 ∧ Q x E0 H0) : ACode P n G c E H Q :=
  fun r a w hr => wp_mono (h r a w hr) fun x a' w' ⟨E', H', r', q, hr'⟩ => by
    obtain ⟨E0, H0, hw, q'⟩ := hq x E' H' q
    obtain ⟨r0, hr0⟩ := hw r' a' w' hr'
    exact ⟨E0, H0, r0, q', hr0⟩

theorem MC_ofA {c : Code} {Q : Exit → Env → List AObj → Prop} (h : ACode P n G c E H Q) : MC P n G c E H M (fun x E' H' _ => Q x E' H') := fun r a w hr =>
  wp_mono (h r a w hr.toRel) fun x a' w' ⟨E', H', r', q, hr'⟩ => ⟨E', H', [], r', q, hr'.toM⟩

def TabF (T : List (List Int)) (hd : List (Nat × Nat × Nat)) (M : Rws) : Prop := T.length = hd.length ∧ ∀ i : Nat, i < hd.length → RowOK M (hd.getD i (0, 0, 0)) (T.getD i [])

theorem RowOK.mono {M M' : Rws} {p : Nat × Nat × Nat} {l : List Int} (h : RowOK M p l) (hm : ∀ vs, (p.1, vs) ∈ M → (p.1, vs) ∈ M') : RowOK M' p l := by
  obtain ⟨vs, h1, h2⟩ := h
  exact ⟨vs, hm vs h1, h2⟩

theorem hd_ne {hd : List (Nat × Nat × Nat)} (hnd : (hd.map (·.1)).Nodup) {i j : Nat} (hi : i < hd.length) (hj : j < hd.length) (h : i ≠ j) : (hd.getD i (0, 0, 0)).1 ≠ (hd.getD j (0, 0, 0)).1 := by
  intro e
  have hi' : i < (hd.map (·.1)).length := by simpa using hi
  have hj' : j < (hd.map (·.1)).length := by simpa using hj
  have e1 : (hd.getD i (0, 0, 0)).1 = (hd.map (·.1))[i] := by simp [hi]
  have e2 : (hd.getD j (0, 0, 0)).1 = (hd.map (·.1))[j] := by simp [hj]
  rw [e1, e2] at e
  exact h ((List.getElem_inj hnd).1 e)

theorem tab_rest {M1 M2 : Rws} {vs : Array Value} {j : Nat} (hnd : (hd.map (·.1)).Nodup) (hj : j < hd.length) (hT : TabF T hd (M1 ++ ((hd.getD j (0, 0, 0)).1, vs) :: M2)) : TabX T hd (M1 ++ M2) (j : Int) := by
  refine ⟨hT.1, fun i hi hij => (hT.2 i hi).mono fun us hm => ?_⟩
  have hne := hd_ne hnd hi hj (by omega)
  rcases List.mem_append.1 hm with h | h
  · exact List.mem_append.2 (.inl h)
  · rcases List.mem_cons.1 h with h | h
    · exact absurd (congrArg Prod.fst h) hne
    · exact List.mem_append.2 (.inr h)

theorem tab_set {M1 M2 : Rws} {vs vs' : Array Value} {j : Nat} {zs : List Int} (hnd : (hd.map (·.1)).Nodup) (hj : j < hd.length) (hT : TabF T hd (M1 ++ ((hd.getD j (0, 0, 0)).1, vs) :: M2))
    (h1 : (hd.getD j (0, 0, 0)).2.1 = zs.length) (h2 : (hd.getD j (0, 0, 0)).2.2 = vs'.size) (h3 : zs.length ≤ vs'.size) (h4 : vs'.size ≤ maxLen) (h5 : vs'.toList.take zs.length = zs.map (Value.int .i64)) :
    TabF (T.set j zs) hd (M1 ++ ((hd.getD j (0, 0, 0)).1, vs') :: M2) := by
  refine ⟨by simp [hT.1], fun i hi => ?_⟩
  by_cases e : i = j
  · subst e
    have : (T.set i zs).getD i [] = zs := by have := hT.1; simp [List.getD, show i < T.length by omega]
    rw [this]
    exact ⟨vs', by simp, h1, h2, h3, h4, h5⟩
  · have : (T.set j zs).getD i [] = T.getD i [] := by simp [List.getD, List.getElem?_set, Ne.symm e]
    rw [this]
    refine (hT.2 i hi).mono fun us hm => ?_
    have hne := hd_ne hnd hi hj e
    rcases List.mem_append.1 hm with h | h
    · exact List.mem_append.2 (.inl h)
    · rcases List.mem_cons.1 h with h | h
      · exact absurd (congrArg Prod.fst h) hne
      · exact List.mem_append.2 (.inr (List.mem_cons_of_mem _ h))

theorem tab_nodup {b : Nat} {q : Nat × Nat} (hnd : (hd.map (·.1)).Nodup) (hT : TabF T hd M) (hb : b ∉ M.map (·.1)) : ((hd ++ [(b, q)]).map (·.1)).Nodup := by
  rw [List.map_append, List.nodup_append]
  refine ⟨hnd, by simp, ?_⟩
  intro x hx c hc
  obtain ⟨p, hp, rfl⟩ := List.mem_map.1 hx
  obtain ⟨i, hi, rfl⟩ := List.getElem_of_mem hp
  obtain ⟨us, hus, _⟩ := hT.2 i hi
  have e : hd.getD i (0, 0, 0) = hd[i] := by simp [hi]
  rw [e] at hus
  simp at hc
  subst hc
  intro e'
  exact hb (List.mem_map.2 ⟨_, hus, e'⟩)

theorem tab_snoc {b : Nat} {vs : Array Value} {q : Nat × Nat} {l : List Int} (hT : TabF T hd M) (hr : RowOK ((b, vs) :: M) (b, q) l) : TabF (T ++ [l]) (hd ++ [(b, q)]) ((b, vs) :: M) := by
  refine ⟨by simp [hT.1], fun i hi => ?_⟩
  have hlen := hT.1
  by_cases e : i < hd.length
  · have e1 : (hd ++ [(b, q)]).getD i (0, 0, 0) = hd.getD i (0, 0, 0) := by simp [List.getD, List.getElem?_append, e]
    have e2 : (T ++ [l]).getD i [] = T.getD i [] := by simp [List.getD, List.getElem?_append, show i < T.length by omega]
    rw [e1, e2]
    exact (hT.2 i e).mono fun us hm => List.mem_cons_of_mem _ hm
  · have e0 : i = hd.length := by simp at hi; omega
    subst e0
    have e1 : (hd ++ [(b, q)]).getD hd.length (0, 0, 0) = (b, q) := by simp [List.getD]
    have e2 : (T ++ [l]).getD hd.length [] = l := by simp [List.getD, ← hlen]
    rw [e1, e2]
    exact hr
end
end Go.Proofs.Ytfnbhfobgimnjaa
