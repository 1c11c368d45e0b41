/- Own library: slices.Values, slices.Collect and slices.Sorted over whole numbers, at this program's numbers. No conditions. -/
import Derived.Test.YtldgmcghdohmeaaGreatMg29
import Derived.Test.YtldgmcghdohmeaaGreatShelf
import Derived.RangeFuncBox
import Derived.RangeFuncWrites
import Derived.RangeFuncLeaves
import Derived.Shelf.Abstract
import Derived.WalkKit
import Derived.OwnWalkIn
import Derived.TacticsInMore
import Derived.LoopNIn
import Derived.LoopIn
import Derived.Maps.AppendAt
set_option linter.unusedVariables false
set_option linter.unusedSimpArgs false
namespace Go.Proofs
open Go.RowKit Go.Shelf Go.Sort

attribute [local go_sem] Oper.semAt_some

/-- What a slice value holds that is read. -/
def Tryz.Holds0 (n₀ : Nat) (W : World) (sv : Value) (zs : List Int) : Prop :=
  (∃ a cap, sv = .slice a 0 cap ∧ zs = []) ∨ ∃ b off cap, sv = .slice (some ⟨b, off, none⟩) zs.length cap ∧ b < n₀ ∧ ∀ j, j < zs.length → W.cell? ⟨b, off + j, none⟩ = some (.int .i64 (zs[j]?.getD 0))

def Tryz.upto (zs : List Int) (k : Nat) : List Int := (List.range k).map fun j => zs[j]?.getD 0
theorem Tryz.upto_succ (zs : List Int) (k : Nat) : Tryz.upto zs (k + 1) = Tryz.upto zs k ++ [zs[k]?.getD 0] := by simp [Tryz.upto, List.range_succ]
theorem Tryz.upto_length (zs : List Int) (k : Nat) : (Tryz.upto zs k).length = k := by simp [Tryz.upto]
theorem Tryz.upto_all (zs : List Int) : Tryz.upto zs zs.length = zs := by
  apply List.ext_getElem
  · simp [Tryz.upto]
  · intro i h1 h2
    simp [Tryz.upto, h2]

set_option maxRecDepth 100000 in
set_option maxHeartbeats 2000000 in
/-- The iterator of slices.Values. -/
theorem Tryz.vals_in (n : Nat) (hn : 1 ≤ n) (l Bs Bo n₀ b off cap : Nat) (zs : List Int) (hreach : zs.length * 8 ≤ 140737488351232) (hb : b < n₀) (J Jx : List Int → World → Prop)
    (hY : ∀ pre x W, J pre W → pre.length < zs.length → YieldAt Fence.wide (n - 1) Tryz.prog l #[.int .i64 x] W fun e W' => (e = .returned (.bool true) ∧ J (pre ++ [x]) W' ∧ Below n₀ W W') ∨ (e = .returned (.bool false) ∧ Jx (pre ++ [x]) W'))
    (W : World) (hBs : W.cell? ⟨Bs, Bo, none⟩ = some (.slice (some ⟨b, off, none⟩) zs.length cap)) (hc : ∀ j, j < zs.length → W.cell? ⟨b, off + j, none⟩ = some (.int .i64 (zs[j]?.getD 0))) (h0 : J [] W) :
    CallsIn Fence.wide n Tryz.prog 100 #[.func (.yield l) #[] #[], .pointer (some ⟨Bs, Bo, none⟩)] W fun e W' => (∃ v, e = .returned v) ∧ (J zs W' ∨ ∃ pre, Jx pre W') := by
  obtain ⟨len, hlen⟩ : ∃ len, zs.length = len := ⟨_, rfl⟩
  rw [hlen] at hreach hY hBs hc
  have hall : Tryz.upto zs len = zs := by rw [← hlen]; exact Tryz.upto_all zs
  clear hlen
  refine callsIn_of_wp Tryz.func100 rfl trivial ?_ rfl
  simp only [Tryz.ntmps100, List.size_toArray, List.length_cons, List.length_nil, Nat.reduceAdd, Nat.reduceSub, Array.replicate_succ, Array.replicate_zero, List.push_toArray, List.append_toArray, List.nil_append, List.cons_append]
  gi_wp2
  gi_loopw [7] (fun i wr => ∃ k : Nat, k ≤ len ∧ i = .int .i64 k ∧ J (Tryz.upto zs k) wr ∧ Below n₀ W wr)
    (fun i _ => len - (intOf i).toNat)
  case atStart => exact ⟨0, Nat.zero_le _, rfl, h0, Below.refl _ _⟩
  case round =>
    obtain ⟨k, hk, rfl, hJs, hnx⟩ := hrel
    have hcx : k < len → wr.cell? ⟨b, off + k, none⟩ = some (.int .i64 (zs[k]?.getD 0)) := fun h => (hnx.cell (p := ⟨b, off + k, none⟩) hb).trans (hc k h)
    by_cases hlt : k < len
    · obtain ⟨fn, tmps, assign, body, hy, hR⟩ := hY _ (zs[k]?.getD 0) wr hJs (by rw [Tryz.upto_length]; exact hlt)
      have hcx' := hcx hlt
      gi_wp2
      refine hR.mono ?_
      rintro e W3 (⟨rfl, hJ3, hk3⟩ | ⟨rfl, hJx3⟩)
      · gi_wp2
        go_roundw
        case rel => exact ⟨k + 1, by omega, by simp, by rw [Tryz.upto_succ]; exact hJ3, hnx.trans hk3⟩
        case measure => simp [intOf]; omega
      · gi_wp2
        refine bodyPost_ret (results_none rfl _ _ _) rfl ?_
        exact ⟨⟨_, rfl⟩, .inr ⟨_, hJx3⟩⟩
    · obtain rfl : k = len := by omega
      gi_wp2
      go_end0
      rw [hall] at hJs
      exact ⟨⟨_, rfl⟩, .inl hJs⟩

set_option maxRecDepth 100000 in
set_option maxHeartbeats 1000000 in
theorem Tryz.vals_nil_in (n : Nat) (l Bs Bo cap : Nat) (a : Option Addr) (J : List Int → World → Prop) (W : World) (hBs : W.cell? ⟨Bs, Bo, none⟩ = some (.slice a 0 cap)) (h0 : J [] W) :
    CallsIn Fence.wide n Tryz.prog 100 #[.func (.yield l) #[] #[], .pointer (some ⟨Bs, Bo, none⟩)] W fun e W' => (∃ v, e = .returned v) ∧ J [] W' := by
  refine callsIn_of_wp Tryz.func100 rfl trivial ?_ rfl
  simp only [Tryz.ntmps100, List.size_toArray, List.length_cons, List.length_nil, Nat.reduceAdd, Nat.reduceSub, Array.replicate_succ, Array.replicate_zero, List.push_toArray, List.append_toArray, List.nil_append, List.cons_append]
  gi_wp2
  gi_loopw [7] (fun i wr => i = .int .i64 0 ∧ J [] wr) (fun _ _ => 0)
  case atStart => exact ⟨rfl, h0⟩
  case round =>
    obtain ⟨rfl, hJs⟩ := hrel
    gi_wp2
    go_end0
    exact ⟨⟨_, rfl⟩, hJs⟩

theorem Tryz.vals_stops (n : Nat) (hn : 1 ≤ n) (Bs Bo n₀ : Nat) (sv : Value) (zs : List Int) (hreach : zs.length * 8 ≤ 140737488351232) (w : World) (hBs : Bs < w.heap.size) (hn₀ : n₀ ≤ w.heap.size)
    (hc : w.cell? ⟨Bs, Bo, none⟩ = some sv) (hI : Tryz.Holds0 n₀ w sv zs) :
    SeqStopsK Fence.wide n Tryz.prog 100 #[.pointer (some ⟨Bs, Bo, none⟩)] (fun x : Int => #[Value.int .i64 x]) (Below n₀) (fun ys => ys = zs) (fun _ => True) zs.length w := fun l J Jx W hW _ _ hY h0 => by
  have hc' := (hW.cell (p := ⟨Bs, Bo, none⟩) hBs).trans hc
  rcases hI with ⟨a, cap, rfl, rfl⟩ | ⟨b, off, cap, rfl, hb, hcs⟩
  · exact (Tryz.vals_nil_in n l Bs Bo cap a J W hc' h0).mono fun e W' ⟨he, hj⟩ => ⟨he, .inl ⟨_, rfl, hj⟩⟩
  · exact (Tryz.vals_in n hn l Bs Bo n₀ b off cap zs hreach hb J Jx hY W hc' (fun j hj => ((hW.mono hn₀).cell (p := ⟨b, off + j, none⟩) hb).trans (hcs j hj)) h0).mono fun e W' ⟨he, hj⟩ =>
      ⟨he, hj.elim (fun h => .inl ⟨_, rfl, h⟩) (fun ⟨pre, h⟩ => .inr ⟨pre, trivial, h⟩)⟩

theorem Tryz.infoI : (Tryz.prog.info? 2).map (fun i => (i.zero, i.size, i.bytes)) = some (some (.int .i64 0), 1, 8) := by kernel_rfl

set_option maxRecDepth 100000 in
set_option maxHeartbeats 2000000 in
/-- slices.AppendSeq(nil, slices.Values(s)): a new slice with what s holds. -/
theorem Tryz.append_in (n : Nat) (hn : 3 ≤ n) (Bs Bo : Nat) (sv : Value) (zs : List Int) (hreach : zs.length * 8 ≤ 140737488351232) (w : World) (hBs : Bs < w.heap.size)
    (hc : w.cell? ⟨Bs, Bo, none⟩ = some sv) (hI : Tryz.Holds0 w.heap.size w sv zs) :
    CallsIn Fence.wide n Tryz.prog 103 #[.slice none 0 0, .func (.func 100) #[] #[.pointer (some ⟨Bs, Bo, none⟩)]] w fun e W' => ∃ v, e = .returned v ∧ W'.ownsRow w.heap.size 2 1 v zs.length (zs.map (Value.int .i64)) ∧ (v = .slice none 0 0 ↔ zs = []) ∧ Below w.heap.size w W' := by
  have h1 : 1 ≤ n := by omega
  obtain ⟨i0, hi, hz0, hz1, hz2⟩ := info_parts Tryz.infoI
  refine callsIn_of_wp_marks Tryz.func103 rfl trivial ?_ rfl
  simp only [Tryz.ntmps103, List.size_toArray, List.length_cons, List.length_nil, Nat.reduceAdd, Nat.reduceSub, Array.replicate_succ, Array.replicate_zero, List.push_toArray, List.append_toArray, List.nil_append, List.cons_append]
  gi_wp2
  have bO := Boxed.new w 40 (.slice none 0 0)
  have hB0 : Below w.heap.size w (w.alloc (.cells #[.slice none 0 0] 40)) := (Below.refl _ w).alloc (Nat.le_refl _) _
  have hI0 : Tryz.Holds0 w.heap.size (w.alloc (.cells #[.slice none 0 0] 40)) sv zs := by
    rcases hI with h | ⟨b, off, cap, e, hb, h⟩
    · exact .inl h
    · exact .inr ⟨b, off, cap, e, hb, fun j hj => (hB0.cell (p := ⟨b, off + j, none⟩) hb).trans (h j hj)⟩
  refine wpIn_rangeFunc_ownG rfl h1 (gf := 100) (lb := #[.pointer (some ⟨Bs, Bo, none⟩)]) rfl trivial (enters_of Tryz.func100 (by kernel_rfl) rfl)
    (Tryz.vals_stops (n - 1) (by omega) Bs Bo w.heap.size sv zs hreach _ (by simp; omega) (by simp) ((hB0.cell (p := ⟨Bs, Bo, none⟩) hBs).trans hc) hI0) belowK_t (belowK_b (by simp)) (Below.refl _ _) (fun _ => rfl)
    (fun pre W => (∃ v, Boxed W w.heap.size 40 v ∧ W.ownsRow w.heap.size 2 1 v pre.length (pre.map (Value.int .i64)) ∧ (v = .slice none 0 0 ↔ pre = [])) ∧ Below w.heap.size w W)
    (fun _ _ _ => False)
    (OwnFrom.and (Own.from (holdsRow_own w.heap.size w.heap.size 40 2 1 (fun pre => pre.length) (fun pre => pre.map (Value.int .i64)) (fun pre v => v = .slice none 0 0 ↔ pre = [])) _) (ownFrom_below (Nat.le_refl _) (by simp)))
    (fun _ _ _ _ _ hs _ _ => hs)
    ⟨⟨_, bO, World.ownsRow_nil _ _ _ _, by simp⟩, hB0⟩
    (fun x => { tmps := #[.slice none 0 0, .func (.func 100) #[] #[.pointer (some ⟨Bs, Bo, none⟩)], .pointer (some ⟨w.heap.size, 0, none⟩), undef, .slice none 0 0, .int .i64 x, .func (.func 100) #[] #[.pointer (some ⟨Bs, Bo, none⟩)], .int .i64 x, undef, undef, undef, undef, undef], defers := [] }) ?assign ?body ?done ?stop
  case assign =>
    intro l x W K hK
    gi_wp2
    exact hK
  case body =>
    rintro l pre x W ⟨⟨v, hv, hrow, hnil⟩, hB⟩ hlt
    have hc := hv.cell
    have hmax : maxLen = 9223372036854775807 := rfl
    gi_wp2_with (gi_at_builtin; refine wpListIn_append_own _ rfl _ _ 40 rfl w.heap.size 2 i0 (.int .i64 0) 1 8 Tryz.underlying40 hi hz0 hz1 hz2 rfl (by decide) _ _ _ rfl (hrow.alloc _) ⟨W.heap.size, 0, none⟩ 1 1 [.int .i64 x] rfl rfl (cell_one_new _ _ _) (by simp [Value.oneCell']) (by omega) (by omega) (by have := hB.size; simp; omega) ?_; intro v' w1 hown' hgrow _; obtain ⟨g', cap', rfl⟩ := ownsRow_succ hown'; obtain ⟨hv1, hv2, hr2, hk2, hb2⟩ := hv.appended (by decide) hrow hB.size (Nat.le_refl _) hown' hgrow; have hc1 := hv1.cell; have hf1 := hv1.frozen)
    exact ⟨hk2.from _, hb2, ⟨_, hv2, by simpa using hr2, by simp⟩, hB.trans hb2⟩
  case done =>
    rintro D ys W hD rfl ⟨⟨v, hv, hrow, hnil⟩, hB⟩ hK
    have hc := hv.cell
    gi_wp2
    refine ⟨by simp, .inl ⟨_, _, rfl, run_takeDeferred hK, ?_⟩⟩
    exact ⟨_, results_tmp rfl _ _ _, v, rfl, ownsRow_putObj hrow _ hK rfl, hnil, hB.trans (belowK_b (w := w) (Nat.le_refl _) W D _ _ (by simp at hD; omega) hK rfl rfl)⟩
  case stop =>
    rintro D c pre W _ _ h _
    exact h.elim

set_option maxRecDepth 100000 in
set_option maxHeartbeats 1000000 in
theorem Tryz.collect_in (n : Nat) (hn : 4 ≤ n) (Bs Bo : Nat) (sv : Value) (zs : List Int) (hreach : zs.length * 8 ≤ 140737488351232) (w : World) (hBs : Bs < w.heap.size)
    (hc : w.cell? ⟨Bs, Bo, none⟩ = some sv) (hI : Tryz.Holds0 w.heap.size w sv zs) :
    CallsIn Fence.wide n Tryz.prog 98 #[.func (.func 100) #[] #[.pointer (some ⟨Bs, Bo, none⟩)]] w fun e W' => ∃ v, e = .returned v ∧ W'.ownsRow w.heap.size 2 1 v zs.length (zs.map (Value.int .i64)) ∧ (v = .slice none 0 0 ↔ zs = []) ∧ Below w.heap.size w W' := by
  refine callsIn_of_wp Tryz.func98 rfl trivial ?_ rfl
  simp only [Tryz.ntmps98, List.size_toArray, List.length_cons, List.length_nil, Nat.reduceAdd, Nat.reduceSub, Array.replicate_succ, Array.replicate_zero, List.push_toArray, List.append_toArray, List.nil_append, List.cons_append]
  gi_wp2_with (refine ⟨trivial, fun _ => by omega, ?_⟩; refine (Tryz.append_in (n - 1) (by omega) Bs Bo sv zs hreach _ hBs hc hI).mono ?_; rintro e w' ⟨v, rfl, hrow, hnil, hb⟩)
  go_ret
  exact ⟨v, rfl, hrow, hnil, hb⟩

set_option maxRecDepth 100000 in
set_option maxHeartbeats 2000000 in
theorem Tryz.sorted_in (n : Nat) (hn : 5 ≤ n) (Bs Bo : Nat) (sv : Value) (zs : List Int) (hreach : zs.length * 8 ≤ 140737488351232) (w : World) (hBs : Bs < w.heap.size)
    (hc : w.cell? ⟨Bs, Bo, none⟩ = some sv) (hI : Tryz.Holds0 w.heap.size w sv zs) :
    CallsIn Fence.wide n Tryz.prog 85 #[.func (.func 100) #[] #[.pointer (some ⟨Bs, Bo, none⟩)]] w fun e W' => ∃ v, e = .returned v ∧
      ((v = .slice none 0 0 ∧ zs = []) ∨ ∃ b cap vs ty, v = .slice (some ⟨b, 0, none⟩) zs.length cap ∧ w.heap.size ≤ b ∧ W'.heap[b]? = some (.cells vs ty (0, 0)) ∧ vs.size = cap ∧ zs.length ≤ cap ∧ cap ≤ maxLen ∧ vs.toList.take zs.length = (YtldgmcghdohmeaaGreat.Ab.sorted zs).map (Value.int .i64)) ∧ Below w.heap.size w W' := by
  have hmax : maxLen = 9223372036854775807 := rfl
  refine callsIn_of_wp Tryz.func85 rfl trivial ?_ rfl
  simp only [Tryz.ntmps85, List.size_toArray, List.length_cons, List.length_nil, Nat.reduceAdd, Nat.reduceSub, Array.replicate_succ, Array.replicate_zero, List.push_toArray, List.append_toArray, List.nil_append, List.cons_append]
  gi_wp2_with (refine ⟨trivial, fun _ => by omega, ?_⟩; refine (Tryz.collect_in (n - 1) (by omega) Bs Bo sv zs hreach _ hBs hc hI).mono ?_; rintro e W ⟨v, rfl, hrow, hnil, hb⟩)
  rcases hrow.2 with ⟨rfl, hz⟩ | ⟨gb, cap, cur, rfl, hbase, hgb, r1, r2, r3, r4⟩
  · have hss : zs = [] := List.eq_nil_of_length_eq_zero hz
    gi_wp2_with (refine ⟨trivial, fun _ => by omega, ?_⟩; refine (callsIn_wide.2 (AnyG.slices_Sort_int_none Tryz.sortL none 0 W)).mono ?_; rintro e w' ⟨rfl, rfl⟩)
    go_ret
    exact ⟨.slice none 0 0, rfl, .inl ⟨rfl, hss⟩, hb⟩
  · have hH : Holds (Value.int .i64) W gb 0 zs.toArray := holds_of_blockI hgb (by simpa using r4)
    have hgl : gb < W.heap.size := (Array.getElem?_eq_some_iff.1 hgb).1
    have cS := AnyG.slices_Sort_int Tryz.sortL gb 0 cap zs W hH hgl (by omega)
    gi_wp2_with (refine ⟨trivial, fun _ => by omega, ?_⟩; refine (callsIn_wide.2 cS).mono ?_; rintro e w' ⟨rfl, nn, os, rfl⟩)
    go_ret
    refine ⟨_, rfl, .inr ⟨gb, cap, _, _, rfl, hbase, heap_sortedI _ hgb, by simp [putCells]; omega, r1, r2, ?_⟩, hb.grown (grownBy_sortedI _) hb.size (fun j hj => by cases hj; exact hbase)⟩
    have := take_putCellsI cur (zs.mergeSort fun x y => decide (x ≤ y)) (by simp; omega)
    simpa [YtldgmcghdohmeaaGreat.Ab.sorted] using this

set_option maxHeartbeats 1000000 in
theorem Tryz.values_in (a : Option Addr) (len cap : Nat) (w : World) :
    CallsIn Fence.wide 1 Tryz.prog 86 #[.slice a len cap] w fun e w' => e = .returned (.func (.func 100) #[] #[.pointer (some ⟨w.heap.size, 0, none⟩)]) ∧ w' = w.alloc (.cells #[.slice a len cap] 40) := by
  refine callsIn_of_wp Tryz.func86 rfl trivial ?_ rfl
  simp only [Tryz.ntmps86, List.size_toArray, List.length_cons, List.length_nil, Nat.reduceAdd, Nat.reduceSub, Array.replicate_succ, Array.replicate_zero, List.push_toArray, List.append_toArray, List.nil_append, List.cons_append]
  gi_wp2
  go_ret
  exact ⟨rfl, rfl⟩
end Go.Proofs

namespace Go.Proofs.YtldgmcghdohmeaaGreat
open Go Go.RowKit Ab

def sortedI (zs : List Int) : Option (List Int) := if zs.length ≤ 1099511627776 then some (Ab.sorted zs) else none

theorem values_ac (zs : List Int) : AC Tryz.prog 86 [.d (.sl none (intsD zs))] [] (fun res H' => res = [.d (.clo 100 [.pv [.sl none (intsD zs)] 0])] ∧ H' = []) := by
  intro F w r xs hh hxs
  obtain ⟨x, rfl⟩ : ∃ x, xs = #[x] := by
    have := hxs.1
    cases xs with
    | mk l => match l, this with
      | [x], _ => exact ⟨x, rfl⟩
  have hv := hxs.2 0 _ x rfl rfl
  cases hv with
  | d _ _ hd =>
    have hd0 := hd
    cases hd with
    | sl _ _ vs A cap hl hn hc hA hr =>
      refine (callsIn_wide.1 (Tryz.values_in A _ cap w)).mono ?_
      rintro e w' ⟨rfl, rfl⟩
      have hb := below_alloc' w (.cells #[.slice A (intsD zs).length cap] 40)
      have hst := step_of_below hh hb
      refine ⟨_, [], r, _, rfl, ⟨rfl, rfl⟩, hrel_of_below hh hb, ?_, hst⟩
      refine .d _ _ (.clo 100 _ _ rfl fun i c v h1 h2 => ?_)
      cases i with
      | succ i => simp at h1
      | zero =>
        simp at h1 h2
        subst h1; subst h2
        have hI := imm_new (w1 := w.alloc (.cells #[.slice A (intsD zs).length cap] 40)) hh (size_alloc' _ _)
        have := RepD.pv (w := w.alloc (.cells #[.slice A (intsD zs).length cap] 40)) (I := imm F (w.alloc (.cells #[.slice A (intsD zs).length cap] 40)) [] r) [.sl none (intsD zs)] 0 [.slice A (intsD zs).length cap] w.heap.size 0 rfl hI
          (fun i v hv => by rw [World.cell_block (get_alloc' _ _)]; simpa using hv) (fun i c v h1 h2 => by
            cases i with
            | succ i => simp at h1
            | zero => simp at h1 h2; subst h1; subst h2; exact hd0.mono (fun b h' => hst.imm b h'))
        simpa using this

theorem sorted_ac (zs r : List Int) (h : sortedI zs = some r) : AC Tryz.prog 85 [.d (.clo 100 [.pv [.sl none (intsD zs)] 0])] [] (fun res H' => res = [.d (.sl none (intsD r))] ∧ H' = []) := by
  unfold sortedI at h
  split at h
  case isFalse => cases h
  rename_i hlen
  cases h
  intro F w r xs hh hxs
  obtain ⟨x, rfl⟩ : ∃ x, xs = #[x] := by
    have := hxs.1
    cases xs with
    | mk l => match l, this with
      | [x], _ => exact ⟨x, rfl⟩
  have hv := hxs.2 0 _ x rfl rfl
  cases hv with
  | d _ _ hd =>
    cases hd with
    | clo _ _ lb hlb hcap =>
      obtain ⟨p, rfl⟩ : ∃ p, lb = #[p] := by
        cases lb with
        | mk l => match l, hlb with
          | [x], _ => exact ⟨x, rfl⟩
      have hp := hcap 0 _ p rfl rfl
      cases hp with
      | pv _ _ vs B base hl hI hcell hrep =>
        obtain ⟨sv, rfl⟩ : ∃ sv, vs = [sv] := by
          match vs, hl with
          | [x], _ => exact ⟨x, rfl⟩
        have hsv := hrep 0 _ sv rfl rfl
        have hcv := hcell 0 sv rfl
        have hH0 : Tryz.Holds0 w.heap.size w sv zs := by
          cases hsv with
          | sl _ _ us A cap hl2 hn hc2 hA hr2 =>
            by_cases hz : zs = []
            · subst hz; exact .inl ⟨A, cap, rfl, rfl⟩
            · obtain ⟨b, off, rfl, hb, hcs⟩ := hA (by cases zs with | nil => exact absurd rfl hz | cons a l => simp [intsD])
              have hus := RepL.ints (zs := zs) ⟨hl2, hr2⟩
              refine .inr ⟨b, off, cap, by rw [intsD_length], hb.1.1, fun j hj => hcs j _ ?_⟩
              rw [hus]; simp [hj]
        refine (callsIn_wide.1 (Tryz.sorted_in 5 (by omega) B base sv zs (by omega) w hI.1.1 hcv hH0)).mono ?_
        rintro e w' ⟨v, rfl, hv, hb⟩
        have hst := step_of_below hh hb
        refine ⟨_, [], r, _, rfl, ⟨rfl, rfl⟩, hrel_of_below hh hb, ?_, hst⟩
        refine .d _ _ ?_
        rcases hv with ⟨rfl, rfl⟩ | ⟨b, cap, vs, ty, rfl, hbase, hblk, h1, h2, h3, h4⟩
        · rw [show intsD (Ab.sorted []) = [] by simp [Ab.sorted, intsD]]
          exact .sl none [] [] none 0 rfl (fun _ h => by cases h) (Nat.le_refl _) (fun h => absurd rfl h) (fun i c v h1 h2 => by simp at h1)
        · have hL := RepL.ofInts (w := w') (I := imm F w' [] r) (Ab.sorted zs)
          have := RepD.sl (w := w') (I := imm F w' [] r) none (intsD (Ab.sorted zs)) ((Ab.sorted zs).map (Value.int .i64)) (some ⟨b, 0, none⟩) cap hL.1 (fun _ h => by cases h) (by rw [intsD_length, Ab.sorted_length]; omega)
            (fun _ => ⟨b, 0, rfl, ⟨⟨(Array.getElem?_eq_some_iff.1 hblk).1, fun o x h => by simp at h⟩, fun hF => by have := hh.fin b hF; omega⟩, fun i v hv => by
              rw [World.cell_block hblk]
              have h5 : (vs.toList.take zs.length)[i]? = some v := by rw [h4]; exact hv
              rw [List.getElem?_take] at h5
              split at h5
              · simpa using h5
              · simp at h5⟩) hL.2
          simpa [intsD_length, Ab.sorted_length] using this
end Go.Proofs.YtldgmcghdohmeaaGreat
