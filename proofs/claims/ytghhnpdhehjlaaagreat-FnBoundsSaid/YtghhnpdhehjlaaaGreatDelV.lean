/- Own library: slices.DeleteFunc over whole numbers with the function of impl.neighbourBound, at this program's numbers. No conditions. -/
import Derived.Test.YtghhnpdhehjlaaaGreatSr
import Derived.Test.YtghhnpdhehjlaaaGreatShelfD
import Derived.Shelf.SlicesE.DeleteFunc
import Derived.WalkKit
set_option linter.unusedVariables false
set_option linter.unusedSimpArgs false
namespace Go.Proofs
open Go.RowKit Go.Shelf Go.Lib Go.Sort

/-- The function that is handed over: is it 2? -/
theorem Tryz.gives2 (x : Int) (W : World) : FnGives Tryz.prog 126 #[] #[.int .i64 x] (.bool (decide (x = 2))) W := by
  show Calls Tryz.prog 126 #[.int .i64 x] W _
  go_enter Tryz.func126, Tryz.ntmps126
  go_wp2
  all_goals (go_ret; exact ⟨by by_cases h : x = 2 <;> simp [h], 0, rfl⟩)

theorem Tryz.del_run (blk cap : Nat) (zs : List Int) (w : World) (hH : Holds (Value.int .i64) w blk 0 zs.toArray) (hsz : zs.length ≤ 9223372036854775807) (hcap : zs.length ≤ cap) :
    Calls Tryz.prog 125 #[.slice (some ⟨blk, 0, none⟩) zs.length cap, .func (.func 126) #[] #[]] w fun e w' => e = .returned (.slice (some ⟨blk, 0, none⟩) (zs.filter fun x => !decide (x = 2)).length cap) ∧
      ∃ q, w' = putRow (Value.int .i64) (Sort.ahead w q) blk 0 ((zs.filter fun x => !decide (x = 2)) ++ List.replicate (zs.length - (zs.filter fun x => !decide (x = 2)).length) 0).toArray := by
  have eg : ∀ args w, (callFunc 126 args).run Tryz.prog w = .ok (.enter 126 args) w := enters_of Tryz.func126 (by kernel_rfl) rfl
  have := AnyE.slices_DeleteFunc Tryz.delL (Value.int .i64) (fun _ => rfl) (fun x => decide (x = 2)) 126 #[] eg 0 Tryz.zeroValue2 blk 0 cap zs.toArray w (fun W x _ => Tryz.gives2 x W) (fun n os dk x _ => Tryz.gives2 x _) hH (by simpa using hsz) (by simpa using hcap)
  have e0 : Tryz.delL_ren.f 10 = 125 := rfl
  rw [e0] at this
  simpa using this
end Go.Proofs

namespace Go.Proofs.YtghhnpdhehjlaaaGreat.Ab
open Go Go.RowKit Go.Sort

/-- A call that has one owned slice alone, and gives it back with other cells and another length. -/
theorem one_out {F : Nat → Prop} {w w' : World} {b g : Nat} {cs cs' : List D} {vs vs' : Array Value} {ty : TypeId} (hh : HRel F w [.vec g cs] [b]) (hb : w.heap[b]? = some (.cells vs ty (0, 0)))
    (hg : w.grownBy w' (some b)) (hb' : w'.heap[b]? = some (.cells vs' ty (0, 0))) (hl : cs'.length ≤ vs'.size) (hm : vs'.size ≤ maxLen)
    (hr : ∀ I, RepL w' I cs' (vs'.toList.take cs'.length)) : HRel F w' [.vec (g + 1) cs'] [b] ∧ Step w [.vec g cs] [b] w' [.vec (g + 1) cs'] [b] := by
  have one : ∀ (x : AObj) (o : Nat) (y : AObj), ([x] : List AObj)[o]? = some y → o = 0 ∧ y = x := fun x o y h => by
    cases o with
    | zero => exact ⟨rfl, by simpa using h.symm⟩
    | succ o => simp at h
  have oneb : ∀ (o c : Nat), ([b] : List Nat)[o]? = some c → o = 0 ∧ c = b := fun o c h => by
    cases o with
    | zero => exact ⟨rfl, by simpa using h.symm⟩
    | succ o => simp at h
  have hne : ∀ c, free w [.vec g cs] [b] c → c ≠ b := fun c hc e => hc.2 0 _ rfl rfl (by rw [e]; rfl)
  have hst : Step w [.vec g cs] [b] w' [.vec (g + 1) cs'] [b] := by
    refine ⟨hg.os, hg.tape, hg.output, hg.size, fun c hc => ⟨hg.block c hc.1 (fun e => hne c hc (Option.some.inj e)), Nat.lt_of_lt_of_le hc.1 hg.size, fun o x h1 h2 h3 => ?_⟩, Nat.le_refl _, ?_, ?_⟩
    · obtain ⟨rfl, rfl⟩ := one _ o x h1
      exact hc.2 0 _ rfl rfl h3
    · intro o x' b' _ h1 h2 h3
      obtain ⟨rfl, rfl⟩ := one _ o x' h1
      cases h3
    · intro o g' ds b' _ h1 h2
      obtain ⟨rfl, e⟩ := one _ o _ h1
      obtain ⟨_, rfl⟩ := oneb _ _ h2
      cases e
      exact ⟨g, cs, b', rfl, rfl, .inl (by omega)⟩
  refine ⟨⟨rfl, fun o o' x x' c h1 _ h2 _ _ _ => ?_, fun o x c h1 h2 => ?_, fun o x c h1 h2 h3 => ?_, fun c hc => Nat.lt_of_lt_of_le (hh.fin c hc) hg.size⟩, hst⟩
  · rw [(one _ o x h1).1, (one _ o' x' h2).1]
  · obtain ⟨rfl, rfl⟩ := one _ o x h1
    obtain ⟨_, rfl⟩ := oneb _ _ h2
    exact .vec (g + 1) cs' vs' ty hb' hl hm (hr _)
  · obtain ⟨rfl, rfl⟩ := one _ o x h1
    exact hh.notF 0 _ c rfl rfl h3

def delI (zs : List Int) : Option (List Int) := if zs.length ≤ 1099511627776 then some (zs.filter fun x => !decide (x = 2)) else none

theorem del_ac (zs r : List Int) (h : delI zs = some r) : AC Tryz.prog 125 [.vec 0 0, .d (.clo 126 [])] [.vec 0 (intsD zs)] (fun res H' => res = [.vec 0 1] ∧ H' = [.vec 1 (intsD r)]) := by
  unfold delI at h
  split at h
  case isFalse => cases h
  rename_i hlen
  cases h
  intro F w r xs hh hxs
  obtain ⟨b, rfl⟩ : ∃ b, r = [b] := by
    have := hh.len
    match r, this with
    | [b], _ => exact ⟨b, rfl⟩
  obtain ⟨x, y, rfl⟩ : ∃ x y, xs = #[x, y] := by
    have := hxs.1
    cases xs with
    | mk l => match l, this with
      | [x, y], _ => exact ⟨x, y, rfl⟩
  have hy := hxs.2 1 _ y rfl rfl
  have hv := hxs.2 0 _ x rfl rfl
  cases hy with
  | d _ _ hd =>
  cases hd with
  | clo _ _ vsc hlc _ =>
  have hvc : vsc = #[] := Array.eq_empty_of_size_eq_zero hlc
  subst hvc
  cases hv with
  | vec _ _ _ ho hp =>
    obtain ⟨_, hp'⟩ := hp 0 (intsD zs) b rfl rfl
    obtain ⟨cap, vs, ty, rfl, hb, rfl⟩ := hp' rfl
    have hO := hh.obj 0 _ b rfl rfl
    cases hO with
    | vec _ _ vs1 ty1 hb1 hc hm hl =>
      rw [hb] at hb1
      cases hb1
      have hints := RepL.ints hl
      rw [intsD_length] at hints hc
      have hH : Holds (Value.int .i64) w b 0 zs.toArray := holds_of_blockI hb hints
      have hcall := Tryz.del_run b vs.size zs w hH (by omega) hc
      rw [intsD_length]
      refine hcall.mono ?_
      rintro e w' ⟨rfl, q, rfl⟩
      have hfl : (zs.filter fun x => !decide (x = 2)).length ≤ zs.length := List.length_filter_le _ _
      generalize hfz : (zs.filter fun x => !decide (x = 2)) = fz at hfl ⊢
      have hl2 : (fz ++ List.replicate (zs.length - fz.length) 0).length = zs.length := by simp; omega
      generalize hgz : fz ++ List.replicate (zs.length - fz.length) (0 : Int) = gz at hl2 ⊢
      have hb' := heap_sortedI (n := q) (os := #[]) gz.toArray hb
      have hg := grownBy_sortedI (w := w) (g := b) (n := q) (os := #[]) gz.toArray
      rw [grow_empty] at hb' hg
      have hps : (putCells (Value.int .i64) 0 gz.toArray vs).size = vs.size := by simp [putCells]
      obtain ⟨h1, h2⟩ := one_out (cs' := intsD fz) hh hb hg hb' (by rw [intsD_length, hps]; omega) (by rw [hps]; exact hm) (fun I => by
        have h3 := take_putCellsI vs gz (by rw [hl2]; exact hc)
        rw [intsD_length]
        have h4 : (putCells (Value.int .i64) 0 gz.toArray vs).toList.take fz.length = fz.map (Value.int .i64) := by
          have := congrArg (List.take fz.length) h3
          rw [List.take_take, Nat.min_eq_left (by omega), ← List.map_take] at this
          rw [this, ← hgz, List.take_left]
        rw [h4]
        exact RepL.ofInts _)
      exact ⟨[.vec 0 1], _, [b], _, rfl, ⟨rfl, rfl⟩, h1, (.vec 0 1 _ (by simp) fun g' cs' b' e1 e2 => by
        cases e1; cases e2
        exact ⟨Nat.le_refl _, fun _ => ⟨_, _, ty, by rw [intsD_length], hb', hps.symm⟩⟩), h2⟩
end Go.Proofs.YtghhnpdhehjlaaaGreat.Ab
