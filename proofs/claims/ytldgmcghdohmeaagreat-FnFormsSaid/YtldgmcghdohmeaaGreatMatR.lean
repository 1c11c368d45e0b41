/- Own library: a whole table among the rows: what it stands for, and calls that read it. No conditions. -/
import Derived.Test.YtldgmcghdohmeaaGreatMg32
import Derived.Test.YtldgmcghdohmeaaGreatMg29
set_option linter.unusedVariables false
set_option linter.unusedSimpArgs false
namespace Go.Proofs.YtldgmcghdohmeaaGreat
open Go Go.RowKit Ab

def hdV (p : Nat × Nat × Nat) : Value := .slice (some ⟨p.1, 0, none⟩) p.2.1 p.2.2
/-- A slice of rows, header and rows among M. -/
def MatM (M : Rws) (v : Value) (T : List (List Int)) : Prop :=
 ∃ (b0 : Nat) (hs : Array Value) (hd : List (Nat × Nat × Nat)), v = .slice (some ⟨b0, 0, none⟩) T.length hs.size ∧ (b0, hs) ∈ M ∧ T.length ≤ hs.size ∧ hs.size ≤ maxLen ∧ hs.toList.take T.length = hd.map hdV ∧ (hd.map (·.1)).Nodup ∧ b0 ∉ hd.map (·.1) ∧ TabF T hd M

theorem rep_row {w : World} {p : Nat × Nat × Nat} {l : List Int} {M : Rws} (h : RowOK M p l) (hh : Here M w) : RepD w (imm (fun _ => False) w [] []) (.sl none (intsD l)) (hdV p) := by
 obtain ⟨vs, h1, h2, h3, h4, h5, h6⟩ := h
 obtain ⟨ty, hb⟩ := hh _ h1
 have hL := RepL.ofInts (w := w) (I := imm (fun _ => False) w [] []) l
 have := RepD.sl (w := w) (I := imm (fun _ => False) w [] []) none (intsD l) (l.map (Value.int .i64)) (some ⟨p.1, 0, none⟩) p.2.2 hL.1 (fun b hb => by cases hb) (by rw [intsD_length, h3]; exact h4)
  (fun _ => ⟨p.1, 0, rfl, imm0 (Array.getElem?_eq_some_iff.1 hb).1, fun i v hv => by
   rw [World.cell_block hb]
   have h7 : (vs.toList.take l.length)[i]? = some v := by rw [h6]; exact hv
   rw [List.getElem?_take] at h7
   split at h7
   ·simpa using h7
   ·simp at h7⟩) hL.2
 rw [intsD_length, ← h2] at this
 exact this

theorem MatM.rep {M : Rws} {v : Value} {T : List (List Int)} {w : World} (h : MatM M v T) (hh : Here M w) : RepD w (imm (fun _ => False) w [] []) (.sl none (rowsD T)) v := by
 obtain ⟨b0, hs, hd, rfl, h1, h2, h2', h3, h4, h5, h6⟩ := h
 obtain ⟨ty, hb⟩ := hh _ h1
 have hlen := h6.1
 have := RepD.sl (w := w) (I := imm (fun _ => False) w [] []) none (rowsD T) (hd.map hdV) (some ⟨b0, 0, none⟩) hs.size (by rw [rowsD_length, List.length_map, hlen]) (fun b hb => by cases hb) (by rw [rowsD_length]; exact h2)
  (fun _ => ⟨b0, 0, rfl, imm0 (Array.getElem?_eq_some_iff.1 hb).1, fun i v hv => by
   rw [World.cell_block hb]
   have h7 : (hs.toList.take T.length)[i]? = some v := by rw [h3]; exact hv
   rw [List.getElem?_take] at h7
   split at h7
   ·simpa using h7
   ·simp at h7⟩) (fun i c v h7 h8 => by
   rw [List.getElem?_map] at h8
   cases hi : hd[i]? with
   | none => rw [hi] at h8; cases h8
   | some p =>
    rw [hi] at h8
    cases h8
    have hlt : i < hd.length := (List.getElem?_eq_some_iff.1 hi).1
    have e1 : hd.getD i (0, 0, 0) = p := by simp [List.getD, hi]
    rw [rowsD_get T i [] (by omega)] at h7
    cases h7
    rw [← e1]
    exact rep_row (h6.2 i hlt) hh)
 rw [rowsD_length] at this
 exact this

theorem keep_below {w w' : World} {M : Rws} (hb : Below w.heap.size w w') (hnd : (M.map (·.1)).Nodup) (hh : Here M w) : Keep w M w' M :=
 ⟨hb.os, hb.tape, hb.output, hb.size, fun b h _ => hb.block b h, hnd, fun p hp => .inl (List.mem_map.2 ⟨p, hp, rfl⟩), fun p hp => by
  obtain ⟨ty, e⟩ := hh p hp
  exact ⟨ty, by rw [hb.block _ (Array.getElem?_eq_some_iff.1 e).1]; exact e⟩⟩

theorem Keep.trans {w w1 w2 : World} {M M1 M2 : Rws} (h : Keep w M w1 M1) (k : Keep w1 M1 w2 M2) (hs : ∀ p ∈ M1, p.1 ∈ M.map (·.1) ∨ w.heap.size ≤ p.1) : Keep w M w2 M2 := by
 refine ⟨k.os.trans h.os, k.tape.trans h.tape, k.output.trans h.output, Nat.le_trans h.size k.size, fun b hb hm => ?_, k.nd, fun p hp => ?_, k.here⟩
 ·rw [k.same b (Nat.lt_of_lt_of_le hb h.size) fun hc => ?_, h.same b hb hm]
  obtain ⟨q, hq, rfl⟩ := List.mem_map.1 hc
  rcases hs q hq with hc | hc
  ·exact hm hc
  ·omega
 ·rcases k.old p hp with hc | hc
  ·obtain ⟨q, hq, e⟩ := List.mem_map.1 hc
   rw [← e]
   exact hs q hq
  ·exact .inr (Nat.le_trans h.size hc)

/-- Flat contracts at the world's level. -/
theorem calls_flat {P : Program} {f : FuncId} {args : List AV} {xs : Array Value} {w : World} {y : Value} (h : AC P f args [] (fun res H' => res = [.d (.s y)] ∧ H' = [])) (ha : RepVs (fun _ => False) w [] [] args xs) :
  Calls P f xs w fun e w' => e = .returned y ∧ Below w.heap.size w w' := by
 refine (h (fun _ => False) w [] xs (hrel_nil w) ha).mono ?_
 rintro e w' ⟨res, H', r', x, rfl, ⟨rfl, rfl⟩, hh, hr, hs⟩
 refine ⟨?_, below_of_step hs⟩
 cases hr with
 | d _ _ hd => cases hd; rfl

theorem Keep.add {w w' : World} {M M' : Rws} (h : Keep w [] w' M') (hnd : (M.map (·.1)).Nodup) (hh : Here M w) : Keep w M w' (M' ++ M) := by
 have hlt : ∀ p ∈ M, p.1 < w.heap.size := fun p hp => by obtain ⟨ty, e⟩ := hh p hp; exact (Array.getElem?_eq_some_iff.1 e).1
 have hnew : ∀ p ∈ M', w.heap.size ≤ p.1 := fun p hp => (h.old p hp).elim (fun h => by simp at h) id
 refine ⟨h.os, h.tape, h.output, h.size, fun b hb _ => h.same b hb (by simp), ?_, fun p hp => ?_, fun p hp => ?_⟩
 ·rw [List.map_append, List.nodup_append]
  refine ⟨h.nd, hnd, ?_⟩
  rintro x hx y hy rfl
  obtain ⟨p, hp, rfl⟩ := List.mem_map.1 hx
  obtain ⟨q, hq, e⟩ := List.mem_map.1 hy
  have := hlt q hq
  have := hnew p hp
  omega
 ·rcases List.mem_append.1 hp with hp | hp
  ·exact .inr (hnew p hp)
  ·exact .inl (List.mem_map.2 ⟨p, hp, rfl⟩)
 ·rcases List.mem_append.1 hp with hp | hp
  ·exact h.here p hp
  ·obtain ⟨ty, e⟩ := hh p hp
   exact ⟨ty, by rw [h.same _ (hlt p hp) (by simp)]; exact e⟩

theorem MatM.mono {M M' : Rws} {v : Value} {T : List (List Int)} (h : MatM M v T) (hs : ∀ p ∈ M, p ∈ M') : MatM M' v T := by
 obtain ⟨b0, hs', hd, e, m1, m2, m2', m3, m4, m5, m6⟩ := h
 exact ⟨b0, hs', hd, e, hs _ m1, m2, m2', m3, m4, m5, m6.1, fun i hi => (m6.2 i hi).mono fun vs hv => hs _ hv⟩

end Go.Proofs.YtldgmcghdohmeaaGreat
