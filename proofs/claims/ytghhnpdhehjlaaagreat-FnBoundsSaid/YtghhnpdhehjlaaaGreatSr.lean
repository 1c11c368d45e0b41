/- Own library: slices.Sort and slices.Sorted over whole numbers as contracts over data. No conditions. -/
import Derived.Test.YtghhnpdhehjlaaaGreatColEq
import Derived.Test.YtghhnpdhehjlaaaGreatAb14
import Derived.Sort.OwnSortedInts
import Derived.Shelf.SortG.SortNone
import Derived.Shelf.SortG.Plain
import Derived.Shelf.SlIterI.Sorted
set_option linter.unusedVariables false
set_option linter.unusedSimpArgs false
namespace Go.Proofs.YtghhnpdhehjlaaaGreat.Ab
open Go Go.RowKit Go.Sort

theorem RepL.ints {w : World} {I : Nat → Prop} {zs : List Int} {vs : List Value} (h : RepL w I (intsD zs) vs) : vs = zs.map (Value.int .i64) := by
  have : intsD zs = (zs.map (Value.int .i64)).map D.s := by simp [intsD, iD]
  rw [this] at h
  exact h.of_map_s

theorem RepL.ofInts {w : World} {I : Nat → Prop} (zs : List Int) : RepL w I (intsD zs) (zs.map (Value.int .i64)) := by
  have : intsD zs = (zs.map (Value.int .i64)).map D.s := by simp [intsD, iD]
  rw [this]; exact RepL.map_s _

def sorted (zs : List Int) : List Int := zs.mergeSort fun x y => decide (x ≤ y)
theorem sorted_length (zs : List Int) : (sorted zs).length = zs.length := by simp [sorted]

def sortI (zs : List Int) : Option (List Int) := if zs.length ≤ 1099511627776 then some (sorted zs) else none

/-- A call that has one owned slice alone, and leaves its cells turned. -/
theorem one_vec {F : Nat → Prop} {w w' : World} {b g : Nat} {cs cs' : List D} {vs vs' : Array Value} {ty : TypeId} (hh : HRel F w [.vec g cs] [b]) (hb : w.heap[b]? = some (.cells vs ty (0, 0)))
    (hg : w.grownBy w' (some b)) (hb' : w'.heap[b]? = some (.cells vs' ty (0, 0))) (hs : vs'.size = vs.size) (hl : cs'.length = cs.length) (hc : cs.length ≤ vs.size) (hm : vs.size ≤ maxLen)
    (hr : ∀ I, RepL w' I cs' (vs'.toList.take cs'.length)) : HRel F w' [.vec g cs'] [b] ∧ Step w [.vec g cs] [b] w' [.vec g cs'] [b] := by
  have hbl : b < w.heap.size := (Array.getElem?_eq_some_iff.1 hb).1
  have one : ∀ (x : AObj) (o : Nat) (y : AObj), ([x] : List AObj)[o]? = some y → o = 0 ∧ y = x := fun x o y h => by
    cases o with
    | zero => exact ⟨rfl, by simpa using h.symm⟩
    | succ o => simp at h
  have oneb : ∀ (o c : Nat), ([b] : List Nat)[o]? = some c → o = 0 ∧ c = b := fun o c h => by
    cases o with
    | zero => exact ⟨rfl, by simpa using h.symm⟩
    | succ o => simp at h
  have hne : ∀ c, free w [.vec g cs] [b] c → c ≠ b := fun c hc e => hc.2 0 _ rfl rfl (by rw [e]; rfl)
  have hst : Step w [.vec g cs] [b] w' [.vec g cs'] [b] := by
    refine ⟨hg.os, hg.tape, hg.output, hg.size, fun c hc => ⟨hg.block c hc.1 (fun e => hne c hc (Option.some.inj e)), Nat.lt_of_lt_of_le hc.1 hg.size, fun o x h1 h2 h3 => ?_⟩, Nat.le_refl _, ?_, ?_⟩
    · obtain ⟨rfl, rfl⟩ := one _ o x h1
      exact hc.2 0 _ rfl rfl h3
    · intro o x' b' _ h1 h2 h3
      obtain ⟨rfl, rfl⟩ := one _ o x' h1
      cases h3
    · intro o g' ds b' _ h1 h2
      obtain ⟨rfl, e⟩ := one _ o _ h1
      obtain ⟨_, rfl⟩ := oneb _ _ h2
      cases e
      exact ⟨g, cs, b', rfl, rfl, .inr ⟨rfl, rfl, hl.symm, fun us tu h => ⟨vs', ty, hb', by rw [hb] at h; cases h; exact hs⟩⟩⟩
  refine ⟨⟨rfl, fun o o' x x' c h1 _ h2 _ _ _ => ?_, fun o x c h1 h2 => ?_, fun o x c h1 h2 h3 => ?_, fun c hc => Nat.lt_of_lt_of_le (hh.fin c hc) hg.size⟩, hst⟩
  · rw [(one _ o x h1).1, (one _ o' x' h2).1]
  · obtain ⟨rfl, rfl⟩ := one _ o x h1
    obtain ⟨_, rfl⟩ := oneb _ _ h2
    exact .vec g cs' vs' ty hb' (by omega) (by omega) (hr _)
  · obtain ⟨rfl, rfl⟩ := one _ o x h1
    exact hh.notF 0 _ c rfl rfl h3

theorem sort_ac_of {P : Program} {f : FuncId} (hC : ∀ (blk off cap : Nat) (zs : List Int) (w : World), Holds (Value.int .i64) w blk off zs.toArray → blk < w.heap.size → zs.length < 4611686018427387904 →
      Calls P f #[.slice (some ⟨blk, off, none⟩) zs.length cap] w fun e w' => e = .returned (.tuple #[]) ∧ ∃ n os, w' = grow (putRow (Value.int .i64) (Sort.ahead w n) blk off (zs.mergeSort fun x y => decide (x ≤ y)).toArray) os)
    (zs r : List Int) (h : sortI zs = some r) : AC P f [.vec 0 0] [.vec 0 (intsD zs)] (fun res H' => res = [] ∧ H' = [.vec 0 (intsD r)]) := by
  unfold sortI at h
  split at h
  case isFalse => cases h
  rename_i hlen
  cases h
  intro F w r xs hh hxs
  obtain ⟨b, rfl⟩ : ∃ b, r = [b] := by
    have := hh.len
    match r, this with
    | [b], _ => exact ⟨b, rfl⟩
  have hx : ∃ x, xs = #[x] := by
    have := hxs.1
    cases xs with
    | mk l => match l, this with
      | [x], _ => exact ⟨x, rfl⟩
  obtain ⟨x, rfl⟩ := hx
  have hv := hxs.2 0 _ x rfl rfl
  cases hv with
  | vec _ _ _ ho hp =>
    obtain ⟨_, hp'⟩ := hp 0 (intsD zs) b rfl rfl
    obtain ⟨cap, vs, ty, rfl, hb, rfl⟩ := hp' rfl
    have hO := hh.obj 0 _ b rfl rfl
    cases hO with
    | vec _ _ vs1 ty1 hb1 hc hm hl =>
      rw [hb] at hb1
      cases hb1
      have hints := RepL.ints hl
      rw [intsD_length] at hints hc
      have hH : Holds (Value.int .i64) w b 0 zs.toArray := holds_of_blockI hb hints
      have hcall := hC b 0 vs.size zs w hH (Array.getElem?_eq_some_iff.1 hb).1 (by omega)
      rw [intsD_length]
      refine hcall.mono ?_
      rintro e w' ⟨rfl, n, os, rfl⟩
      have hb' := heap_sortedI (n := n) (os := os) (zs.mergeSort fun x y => decide (x ≤ y)).toArray hb
      have hg := grownBy_sortedI (w := w) (g := b) (n := n) (os := os) (zs.mergeSort fun x y => decide (x ≤ y)).toArray
      obtain ⟨h1, h2⟩ := one_vec (cs' := intsD (sorted zs)) hh hb hg hb' (by simp [putCells]) (by rw [intsD_length, intsD_length, sorted_length]) (by rw [intsD_length]; exact hc) hm (fun I => by
        have := take_putCellsI vs (zs.mergeSort fun x y => decide (x ≤ y)) (by simpa using hc)
        rw [intsD_length]
        show RepL _ I (intsD (zs.mergeSort fun x y => decide (x ≤ y))) (((putCells (Value.int .i64) 0 (zs.mergeSort fun x y => decide (x ≤ y)).toArray vs).toList).take (zs.mergeSort fun x y => decide (x ≤ y)).length)
        rw [this]
        exact RepL.ofInts _)
      exact ⟨[], _, [b], _, rfl, ⟨rfl, rfl⟩, h1, ⟨#[], rfl, rfl, fun i c v hc => by simp at hc⟩, h2⟩
end Go.Proofs.YtghhnpdhehjlaaaGreat.Ab
