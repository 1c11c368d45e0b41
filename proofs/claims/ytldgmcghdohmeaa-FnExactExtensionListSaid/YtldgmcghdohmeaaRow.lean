/- From a contract to a row: a call whose contract says 'true' leaves what was there before as it was; arguments as data. No conditions. -/
import Derived.Test.YtldgmcghdohmeaaCol
import Derived.WalkKit
import Derived.ProofKit
import Derived.OpenShut
import Derived.ShutString
import Derived.ChangeOld
import Derived.Below
import Derived.Carry
import Derived.ChangeSlices
import Derived.SizedLaws
set_option linter.unusedVariables false
set_option linter.unusedSimpArgs false
namespace Go.Proofs.Ytldgmcghdohmeaa
open Go Go.RowKit Ab Go.ChangeShapes Go.WideShapes

theorem hrel_nil (w : World) : HRel (fun _ => False) w [] [] :=
  ⟨rfl, fun _ _ _ _ _ h => by simp at h, fun _ _ _ h => by simp at h, fun _ _ _ h => by simp at h, fun _ h => h.elim⟩

theorem below_of_step {w w' : World} {H' : List AObj} {r' : List Nat} (h : Step w [] [] w' H' r') : Below w.heap.size w w' :=
  ⟨h.os, h.tape, h.output, h.size, fun k hk => (h.free k ⟨hk, fun _ _ hx => by simp at hx⟩).1⟩

theorem calls_of_AC {P : Program} {f : FuncId} {args : List AV} {xs : Array Value} {w : World} (h : AC P f args [] (fun res H' => res = [bV true] ∧ H' = [])) (ha : RepVs (fun _ => False) w [] [] args xs) :
    Calls P f xs w fun e w' => e = .returned (.bool true) ∧ Below w.heap.size w w' := by
  refine (h (fun _ => False) w [] xs (hrel_nil w) ha).mono ?_
  rintro e w' ⟨res, H', r', x, rfl, ⟨rfl, rfl⟩, hh, hr, hs⟩
  refine ⟨?_, below_of_step hs⟩
  cases hr with
  | d _ _ hd => cases hd; rfl

theorem repVs_of {w : World} {args : List AV} {xs : List Value} (h : xs.length = args.length) (k : ∀ (i : Nat) (c : AV) (v : Value), args[i]? = some c → xs[i]? = some v → RepV (fun _ => False) w [] [] c v) : RepVs (fun _ => False) w [] [] args xs.toArray :=
  ⟨by simpa using h, fun i c v h1 h2 => k i c v h1 (by simpa using h2)⟩
inductive RepL2 (w : World) : List AV → List Value → Prop
  | nil : RepL2 w [] []
  | cons {c : AV} {v : Value} {cs : List AV} {vs : List Value} (h : RepV (fun _ => False) w [] [] c v) (t : RepL2 w cs vs) : RepL2 w (c :: cs) (v :: vs)
theorem RepL2.vs {w : World} {cs : List AV} {vs : List Value} (h : RepL2 w cs vs) : RepVs (fun _ => False) w [] [] cs vs.toArray := by
  refine repVs_of ?_ ?_
  · induction h with
    | nil => rfl
    | cons _ _ ih => simp [ih]
  · induction h with
    | nil => intro i c v h; simp at h
    | cons h t ih =>
      intro i c v h1 h2
      cases i with
      | zero => simp at h1 h2; subst h1 h2; exact h
      | succ i => exact ih i c v (by simpa using h1) (by simpa using h2)

section
variable {H : Type} {enc : TypeId × Value → H} {P : Program} {W : World} {base : Nat}

/-- A slice of whole numbers. -/
theorem rep_ints {t e : TypeId} {v : Value} {d : DataW H} {ps : List MemPlace} {r : Reach} (ht : P.underlying t = some (.slice e)) (he : P.underlying e = some (.int .i64)) (hc : P.cellsOf e = 1)
    (hval : Value.okWide P W r base t v) (h : DataW.Trod enc P W 0 (fun _ => true) true t v d ps) (hlt : ∀ x ∈ ps, x.block < W.heap.size) :
    ∃ l : List Int, (∀ n ∈ l, (Lit.int .i64 n).wf = true) ∧ l.length ≤ maxLen ∧ RepV (fun _ => False) W [] [] (.d (.sl none (intsD l))) v := by
  obtain ⟨a, len, cap, rfl⟩ := okWide_slice ht hval
  obtain ⟨fuel, h⟩ := h
  rcases open_ints ht he hc h with ⟨h0, _⟩ | ⟨a', len', cap', zs, h0, hb, hl, hm, hz, hx, hcell, hw⟩
  · simp [Value.cells] at h0
    obtain ⟨rfl, rfl, rfl⟩ := h0
    refine ⟨[], by simp, by simp, .d _ _ (.sl none [] [] none 0 rfl (fun b hb => by cases hb) (Nat.zero_le _) (fun h => (h rfl).elim) (fun i c v h => by simp at h))⟩
  · simp [Value.cells] at h0
    obtain ⟨rfl, rfl, rfl⟩ := h0
    simp only [if_true] at hz
    have hs : a'.spot = none := by
      have h1 := hval
      simp only [Value.okWide, ht, Cell.okWide, Cell.ok] at h1
      exact h1.2.2.2.1
    have hps : ps = MemPlace.row a' zs.length := congrArg Prod.snd hx
    have hlen : (zs.take len).length = len := by simp; omega
    refine ⟨zs.take len, fun n hn => hw n (List.mem_of_mem_take hn), by omega, ?_⟩
    have hlen' : (intsD (zs.take len)).length = len := by rw [intsD_length, hlen]
    have hr := RepD.sl (w := W) (I := imm (fun _ => False) W [] []) none (intsD (zs.take len)) ((zs.take len).map (Value.int .i64)) (some a') cap (by rw [hlen']; simpa using hlen) (fun b hb => by cases hb) (by omega)
      (fun hne => by
        have hpos : 0 < len := by
          rcases Nat.eq_zero_or_pos len with h0 | h0
          · exact (hne (List.eq_nil_of_length_eq_zero (by omega))).elim
          · exact h0
        refine ⟨a'.block, a'.off, by cases a'; simp_all, ⟨⟨hlt (.cell a'.block (a'.off + 0)) ?_, fun _ _ hx => by simp at hx⟩, id⟩, ?_⟩
        · rw [hps]; unfold MemPlace.row
          exact List.mem_map.2 ⟨0, by simp; omega, rfl⟩
        · intro i v hv
          have hi : i < len := by
            have := (List.getElem?_eq_some_iff.1 hv).1
            simp at this; omega
          have h1 := hcell i (by omega)
          have h2 : (a'.add i) = ⟨a'.block, a'.off + i, none⟩ := by
            unfold Addr.add
            split
            · next h => subst h; cases a'; simp_all
            · rfl
          rw [← h2, h1]
          rw [List.getElem?_map, List.getElem?_take, if_pos hi] at hv
          have : zs[i]? = some zs[i] := List.getElem?_eq_getElem (by omega)
          rw [this] at hv
          simp at hv
          simp [← hv, List.getD, this])
      (fun i c v h1 h2 => by
        unfold intsD at h1
        rw [List.getElem?_map] at h1 h2
        cases hh : (zs.take len)[i]? with
        | none => rw [hh] at h1; simp at h1
        | some n => rw [hh] at h1 h2; simp at h1 h2; subst h1 h2; exact .s _)
    rw [hlen'] at hr
    exact .d _ _ hr

/-! ### Bytes and colourings -/
theorem cells_one {cs : List Value} {i n : Nat} (h : cs.length = n) (hi : i < n) : ∃ c, (cs.drop i).take 1 = [c] ∧ cs[i]? = some c := by
  refine ⟨cs[i], ?_, by simp⟩
  rw [List.take_one, List.head?_drop]
  simp [h, hi]

theorem open_bytes {t e : TypeId} {n fuel : Nat} {cs : List Value} {x : DataW H × List MemPlace} {spare : Nat → Bool} {held : Bool} (ht : P.underlying t = some (.array n e)) (he : P.underlying e = some (.int .u8)) (hc : P.cellsOf e = 1) (hn : P.cellsOf t = n)
    (h : DataW.trod enc P W base spare held fuel t cs = some x) : ∃ bs : List UInt8, bs.length = n ∧ cs = bs.map fun b => Value.int .u8 (b.toNat : Int) := by
  obtain ⟨xs, m, rfl, rfl, hl, hx, hi⟩ := DataW.trod_array ht h
  rw [hn] at hl
  have each : ∀ i, i < n → ∃ b : UInt8, cs[i]? = some (.int .u8 (b.toNat : Int)) := by
    intro i hin
    obtain ⟨c, h1, h2⟩ := cells_one hl hin
    have h3 := hi i hin
    rw [hc, Nat.mul_one, h1] at h3
    have hxi : xs[i]? = some xs[i] := List.getElem?_eq_getElem (by omega)
    rw [hxi] at h3
    obtain ⟨z, hz, _, hw⟩ := DataW.trod_int he h3
    simp at hz
    subst hz
    have hb := bounds_u8 hw
    refine ⟨UInt8.ofNat z.toNat, ?_⟩
    rw [h2, UInt8.toNat_ofNat']
    congr 2
    omega
  refine ⟨cs.map (fun v => match v with | .int _ z => UInt8.ofNat z.toNat | _ => 0), by simpa using hl, ?_⟩
  refine List.ext_getElem? fun i => ?_
  by_cases hin : i < n
  · obtain ⟨b, hb⟩ := each i hin
    rw [List.map_map, List.getElem?_map, hb]
    simp
  · rw [List.getElem?_eq_none (by omega), List.getElem?_eq_none (by simp; omega)]

def colVals (x : Col) : List Value := .int .i64 x.p :: .int .i64 x.k :: x.e.l.map fun b => Value.int .u8 (b.toNat : Int)
theorem colD_vals (x : Col) : colD x = (colVals x).map D.s := by simp [colD, colVals, byD, Function.comp_def]
def Col.wf (x : Col) : Prop := (Lit.int .i64 x.p).wf = true ∧ (Lit.int .i64 x.k).wf = true

theorem rep_vals {I : Nat → Prop} {cs : List D} {l : List Value} {vs : Array Value} (h : cs = l.map D.s) (hv : vs.toList = l) : RepD W I (.agg cs) (.agg vs) := by
  subst hv h
  refine .agg _ _ (by simp) ?_
  intro i c v h1 h2
  rw [List.getElem?_map] at h1
  have : vs.toList[i]? = some v := by simpa using h2
  rw [this] at h1
  simp at h1; subst h1
  exact .s _

theorem open_col {t a e : TypeId} {fs : Array Field} {fuel : Nat} {cs : List Value} {x : DataW H × List MemPlace} {spare : Nat → Bool} {held : Bool} {n0 n1 n2 : String} {b0 b1 b2 : Bool} {i64 : TypeId}
    (ht : P.underlying t = some (.struct fs)) (h0 : ∃ f, fs[0]? = some f ∧ f.type = i64 ∧ f.offset = 0) (h1 : ∃ f, fs[1]? = some f ∧ f.type = i64 ∧ f.offset = 1) (h2 : ∃ f, fs[2]? = some f ∧ f.type = a ∧ f.offset = 2)
    (hi : P.underlying i64 = some (.int .i64)) (ha : P.underlying a = some (.array 136 e)) (he : P.underlying e = some (.int .u8)) (ci : P.cellsOf i64 = 1) (ce : P.cellsOf e = 1) (ca : P.cellsOf a = 136) (ct : P.cellsOf t = 138)
    (h : DataW.trod enc P W base spare held fuel t cs = some x) : ∃ c : Col, c.wf ∧ cs = colVals c := by
  obtain ⟨xs, m, rfl, rfl, hl, hx, hf⟩ := DataW.trod_struct ht h
  rw [ct] at hl
  obtain ⟨f0, g0, t0, o0⟩ := h0
  obtain ⟨f1, g1, t1, o1⟩ := h1
  obtain ⟨f2, g2, t2, o2⟩ := h2
  have k0 := hf 0 f0 g0
  have k1 := hf 1 f1 g1
  have k2 := hf 2 f2 g2
  have hsz : 2 < fs.size := by
    have := (Array.getElem?_eq_some_iff.1 g2).1
    exact this
  rw [List.getElem?_eq_getElem (by omega), t0, o0, ci] at k0
  rw [List.getElem?_eq_getElem (by omega), t1, o1, ci] at k1
  rw [List.getElem?_eq_getElem (by omega), t2, o2, ca] at k2
  obtain ⟨c0, e0, l0⟩ := cells_one hl (show 0 < 138 by omega)
  obtain ⟨c1, e1, l1⟩ := cells_one hl (show 1 < 138 by omega)
  rw [e0] at k0
  rw [e1] at k1
  obtain ⟨z0, hz0, _, w0⟩ := DataW.trod_int hi k0
  obtain ⟨z1, hz1, _, w1⟩ := DataW.trod_int hi k1
  obtain ⟨bs, hb, hbs⟩ := open_bytes ha he ce ca k2
  simp at hz0 hz1
  subst hz0 hz1
  refine ⟨⟨z0, z1, ⟨bs, hb⟩⟩, ⟨w0, w1⟩, ?_⟩
  unfold colVals
  rw [← hbs]
  match cs, hl, l0, l1 with
  | a :: b :: r, hl, l0, l1 =>
    simp at l0 l1 hl
    subst l0 l1
    simp
    rw [List.take_of_length_le (by omega)]

theorem rep_col {t a e : TypeId} {fs : Array Field} {v : Value} {d : DataW H} {ps : List MemPlace} {r : Reach} {i64 : TypeId}
    (ht : P.underlying t = some (.struct fs)) (h0 : ∃ f, fs[0]? = some f ∧ f.type = i64 ∧ f.offset = 0) (h1 : ∃ f, fs[1]? = some f ∧ f.type = i64 ∧ f.offset = 1) (h2 : ∃ f, fs[2]? = some f ∧ f.type = a ∧ f.offset = 2)
    (hi : P.underlying i64 = some (.int .i64)) (ha : P.underlying a = some (.array 136 e)) (he : P.underlying e = some (.int .u8)) (ci : P.cellsOf i64 = 1) (ce : P.cellsOf e = 1) (ca : P.cellsOf a = 136) (ct : P.cellsOf t = 138)
    (hval : Value.okWide P W r base t v) (h : DataW.Trod enc P W 0 (fun _ => true) true t v d ps) :
    ∃ c : Col, c.wf ∧ RepV (fun _ => False) W [] [] (.d (.agg (colD c))) v := by
  obtain ⟨cs, rfl, _⟩ := okWide_struct ht hval
  obtain ⟨fuel, h⟩ := h
  obtain ⟨c, hw, hc⟩ := open_col (n0 := "") (n1 := "") (n2 := "") (b0 := true) (b1 := true) (b2 := true) ht h0 h1 h2 hi ha he ci ce ca ct h
  exact ⟨c, hw, .d _ _ (rep_vals (colD_vals c) (by simpa [Value.cells] using hc))⟩

end
end Go.Proofs.Ytldgmcghdohmeaa
