/- A slice of slices of whole numbers that comes in, as data. No conditions. -/
import Derived.Test.YtfpcopidcagdaaaRow
set_option linter.unusedVariables false
set_option linter.unusedSimpArgs false
namespace Go.Proofs.Ytfpcopidcagdaaa
open Go Go.RowKit Ab Go.ChangeShapes Go.WideShapes

section
variable {H : Type} {enc : TypeId × Value → H} {P : Program} {W : World} {base : Nat}

theorem immW {b : Nat} (h : b < W.heap.size) : imm (fun _ => False) W [] [] b := ⟨⟨h, fun _ _ hx => by simp at hx⟩, id⟩

theorem add_plain {a : Addr} {v : Value} (h : W.cell? (a.add 0) = some v) (i : Nat) : a.add i = ⟨a.block, a.off + i, none⟩ ∧ a = ⟨a.block, a.off, none⟩ := by
  have h0 : a.spot = none := by
    unfold Addr.add at h
    rw [if_pos rfl] at h
    unfold World.cell? at h
    split at h
    · cases hs : a.spot with
      | none => rfl
      | some s => rw [hs] at h; simp at h
    · cases h
  have e : a = ⟨a.block, a.off, none⟩ := by cases a; simp at h0; subst h0; rfl
  refine ⟨?_, e⟩
  unfold Addr.add
  split
  · next h => subst h; rw [Nat.add_zero]; exact e
  · rfl

theorem row_mem {a : Addr} {n i : Nat} (h : i < n) : ∃ y ∈ MemPlace.row a n, y.block = a.block := by
  refine ⟨.cell a.block (a.off + i), ?_, rfl⟩
  unfold MemPlace.row
  exact List.mem_map.2 ⟨i, by simpa using h, rfl⟩

theorem repD_ints {t e : TypeId} {v : Value} {x : DataW H × List MemPlace} {fuel : Nat} (ht : P.underlying t = some (.slice e)) (he : P.underlying e = some (.int .i64)) (hc : P.cellsOf e = 1)
    (h : DataW.trod enc P W 0 (fun _ => true) true fuel t [v] = some x) (hlt : ∀ y ∈ x.2, y.block < W.heap.size) :
    ∃ l : List Int, (∀ n ∈ l, (Lit.int .i64 n).wf = true) ∧ l.length ≤ maxLen ∧ RepD W (imm (fun _ => False) W [] []) (.sl none (intsD l)) v := by
  rcases open_ints ht he hc h with ⟨h0, _⟩ | ⟨a, len, cap, zs, h0, hb, hl, hm, hz, hx, hcell, hw⟩
  · simp at h0
    subst h0
    exact ⟨[], by simp, by simp, .sl none [] [] none 0 rfl (fun b hb => by cases hb) (Nat.zero_le _) (fun h => (h rfl).elim) (fun i c v h => by simp at h)⟩
  · simp at h0
    subst h0
    simp only [if_true] at hz
    have hlen : (zs.take len).length = len := by simp; omega
    refine ⟨zs.take len, fun n hn => hw n (List.mem_of_mem_take hn), by omega, ?_⟩
    have hlen' : (intsD (zs.take len)).length = len := by rw [intsD_length, hlen]
    have hr := RepD.sl (w := W) (I := imm (fun _ => False) W [] []) none (intsD (zs.take len)) ((zs.take len).map (Value.int .i64)) (some a) cap (by rw [hlen']; simpa using hlen) (fun b hb => by cases hb) (by omega)
      (fun hne => by
        have hpos : 0 < len := by
          rcases Nat.eq_zero_or_pos len with h0 | h0
          · exact (hne (List.eq_nil_of_length_eq_zero (by omega))).elim
          · exact h0
        have hp := fun i => add_plain (hcell 0 (by omega)) i
        obtain ⟨y, hy, hyb⟩ := row_mem (a := a) (n := zs.length) (i := 0) (by omega)
        refine ⟨a.block, a.off, by rw [← (hp 0).2], immW (by rw [← hyb]; exact hlt y (by rw [hx]; exact hy)), fun i v hv => ?_⟩
        have hi : i < len := by
          have := (List.getElem?_eq_some_iff.1 hv).1
          simp at this; omega
        have h1 := hcell i (by omega)
        rw [(hp i).1] at h1
        rw [h1]
        rw [List.getElem?_map, List.getElem?_take, if_pos hi] at hv
        have : zs[i]? = some zs[i] := List.getElem?_eq_getElem (by omega)
        rw [this] at hv
        simp at hv
        simp [← hv, List.getD, this])
      (fun i c v h1 h2 => by
        unfold intsD at h1
        rw [List.getElem?_map] at h1 h2
        cases hh : (zs.take len)[i]? with
        | none => rw [hh] at h1; simp at h1
        | some n => rw [hh] at h1 h2; simp at h1 h2; subst h1 h2; exact .s _)
    rw [hlen'] at hr
    exact hr

/-- A slice of slices of whole numbers. -/
theorem rep_rows {t s e : TypeId} {v : Value} {d : DataW H} {ps : List MemPlace} {r : Reach} (ht : P.underlying t = some (.slice s)) (hs : P.underlying s = some (.slice e)) (he : P.underlying e = some (.int .i64)) (hcs : P.cellsOf s = 1) (hc : P.cellsOf e = 1)
    (hval : Value.okWide P W r base t v) (h : DataW.Trod enc P W 0 (fun _ => true) true t v d ps) (hlt : ∀ x ∈ ps, x.block < W.heap.size) :
    ∃ l : List (List Int), (∀ q ∈ l, (∀ n ∈ q, (Lit.int .i64 n).wf = true) ∧ q.length ≤ maxLen) ∧ l.length ≤ maxLen ∧ RepV (fun _ => False) W [] [] (.d (.sl none (rowsD l))) v := by
  obtain ⟨a0, len0, cap0, rfl⟩ := okWide_slice ht hval
  obtain ⟨fuel, h⟩ := h
  have h' : DataW.trod enc P W 0 (fun _ => true) true fuel t [.slice a0 len0 cap0] = some (d, ps) := h
  rcases DataW.trod_slice ht h' with ⟨h0, _⟩ | ⟨a, len, cap, elems, rest, n, _, h0, hx, hb, hl, hm, hlen, hel, hsp, hns⟩
  · simp at h0
    obtain ⟨rfl, rfl, rfl⟩ := h0
    exact ⟨[], by simp, by simp, .d _ _ (.sl none [] [] none 0 rfl (fun b hb => by cases hb) (Nat.zero_le _) (fun h => (h rfl).elim) (fun i c v h => by simp at h))⟩
  · simp at h0
    obtain ⟨rfl, rfl, rfl⟩ := h0
    have hps : ps = MemPlace.row a ((elems.length + rest.length) * P.cellsOf s) ++ (elems ++ rest).flatMap (·.2) := congrArg Prod.snd hx
    rw [hcs, Nat.mul_one] at hps
    have each : ∀ i, i < len0 → ∃ u l, W.cell? (a.add i) = some u ∧ (∀ n ∈ l, (Lit.int .i64 n).wf = true) ∧ l.length ≤ maxLen ∧ RepD W (imm (fun _ => False) W [] []) (.sl none (intsD l)) u := fun i hi => by
      have h1 := hel i hi
      have hei : elems[i]? = some elems[i] := List.getElem?_eq_getElem (by omega)
      rw [hcs, Nat.mul_one, hei, Option.bind_eq_some_iff] at h1
      obtain ⟨us, h2, h3⟩ := h1
      have h4 : ∃ u, us = [u] ∧ W.cell? (a.add i) = some u := by
        unfold World.cells? at h2
        rw [if_pos (Nat.zero_le _)] at h2
        simp only [List.range_one, List.mapM_cons, List.mapM_nil] at h2
        cases hcell : W.cell? ((a.add i).add 0) with
        | none => rw [hcell] at h2; simp at h2
        | some u =>
          rw [hcell] at h2
          simp at h2
          refine ⟨u, h2.symm, ?_⟩
          have : (a.add i).add 0 = a.add i := by unfold Addr.add; simp
          rw [← this]; exact hcell
      obtain ⟨u, rfl, hu⟩ := h4
      obtain ⟨l, l1, l2, l3⟩ := repD_ints hs he hc h3 (fun y hy => hlt y (by
        rw [hps]
        refine List.mem_append.2 (.inr (List.mem_flatMap.2 ⟨elems[i], List.mem_append.2 (.inl (List.getElem_mem _)), hy⟩))))
      exact ⟨u, l, hu, l1, l2, l3⟩
    have key : ∀ m, m ≤ len0 → ∃ (L : List (List Int)) (us : List Value), L.length = m ∧ us.length = m ∧ (∀ q ∈ L, (∀ n ∈ q, (Lit.int .i64 n).wf = true) ∧ q.length ≤ maxLen) ∧
        (∀ (i : Nat) (u : Value), us[i]? = some u → W.cell? (a.add i) = some u) ∧ RepL W (imm (fun _ => False) W [] []) (rowsD L) us := by
      intro m
      induction m with
      | zero => intro _; exact ⟨[], [], rfl, rfl, by simp, by simp, RepL.nil⟩
      | succ m ih =>
        intro hm'
        obtain ⟨L, us, e1, e2, e3, e4, e5⟩ := ih (by omega)
        obtain ⟨u, l, f1, f2, f3, f4⟩ := each m (by omega)
        refine ⟨L ++ [l], us ++ [u], by simp [e1], by simp [e2], fun q hq => ?_, fun i u' hu' => ?_, ?_⟩
        · rcases List.mem_append.1 hq with hq | hq
          · exact e3 q hq
          · simp at hq; subst hq; exact ⟨f2, f3⟩
        · rw [List.getElem?_append] at hu'
          split at hu'
          · exact e4 i u' hu'
          · rename_i hge
            have : i = m := by
              have := (List.getElem?_eq_some_iff.1 hu').1
              simp at this; omega
            subst this
            rw [show i - us.length = 0 by omega] at hu'
            simp at hu'; subst hu'; exact f1
        · rw [← rowsD_app]
          exact e5.append (RepL.cons f4 RepL.nil)
    obtain ⟨L, us, e1, e2, e3, e4, e5⟩ := key len0 (Nat.le_refl _)
    refine ⟨L, e3, by omega, ?_⟩
    have hr := RepD.sl (w := W) (I := imm (fun _ => False) W [] []) none (rowsD L) us (some a) cap0 e5.1 (fun b hb => by cases hb) (by rw [rowsD_length]; omega)
      (fun hne => by
        have hpos : 0 < len0 := by
          rcases Nat.eq_zero_or_pos len0 with h0 | h0
          · exact (hne (List.eq_nil_of_length_eq_zero (by rw [rowsD_length]; omega))).elim
          · exact h0
        have hu0 : us[0]? = some us[0] := List.getElem?_eq_getElem (by omega)
        have hp := fun i => add_plain (e4 0 _ hu0) i
        obtain ⟨y, hy, hyb⟩ := row_mem (a := a) (n := elems.length + rest.length) (i := 0) (by omega)
        refine ⟨a.block, a.off, by rw [← (hp 0).2], immW (by rw [← hyb]; exact hlt y (by rw [hps]; exact List.mem_append.2 (.inl hy))), fun i u hu => ?_⟩
        have := e4 i u hu
        rwa [(hp i).1] at this) e5.2
    rw [rowsD_length, e1] at hr
    exact .d _ _ hr
end
end Go.Proofs.Ytfpcopidcagdaaa
