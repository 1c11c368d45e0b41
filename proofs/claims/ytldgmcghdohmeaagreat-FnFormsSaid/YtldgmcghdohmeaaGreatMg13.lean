/- From a contract to a row: a call whose contract says 'true' leaves what was there before as it was; arguments as data. No conditions. -/
import Derived.Test.YtldgmcghdohmeaaGreatCol
import Derived.WalkKit
import Derived.ProofKit
import Derived.OpenShut
import Derived.ShutString
import Derived.ChangeOld
import Derived.Below
import Derived.Carry
import Derived.ChangeSlices
import Derived.SizedLaws
set_option linter.unusedSimpArgs false
set_option linter.unusedVariables false
namespace Go.Proofs.YtldgmcghdohmeaaGreat
open Go Go.RowKit Ab Go.ChangeShapes Go.WideShapes

theorem hrel_nil (w : World) : HRel (fun _ => False) w [] [] :=
 ⟨rfl, fun _ _ _ _ _ h => by simp at h, fun _ _ _ h => by simp at h, fun _ _ _ h => by simp at h, fun _ h => h.elim⟩

theorem below_of_step {w w' : World} {H' : List AObj} {r' : List Nat} (h : Step w [] [] w' H' r') : Below w.heap.size w w' :=
 ⟨h.os, h.tape, h.output, h.size, fun k hk => (h.free k ⟨hk, fun _ _ hx => by simp at hx⟩).1⟩

theorem calls_of_AC {P : Program} {f : FuncId} {args : List AV} {xs : Array Value} {w : World} (h : AC P f args [] (fun res H' => res = [bV true] ∧ H' = [])) (ha : RepVs (fun _ => False) w [] [] args xs) :
  Calls P f xs w fun e w' => e = .returned (.bool true) ∧ Below w.heap.size w w' := by
 refine (h (fun _ => False) w [] xs (hrel_nil w) ha).mono ?_
 rintro e w' ⟨res, H', r', x, rfl, ⟨rfl, rfl⟩, hh, hr, hs⟩
 refine ⟨?_, below_of_step hs⟩
 cases hr with
 | d _ _ hd => cases hd; rfl

theorem repVs_of {w : World} {args : List AV} {xs : List Value} (h : xs.length = args.length) (k : ∀ (i : Nat) (c : AV) (v : Value), args[i]? = some c → xs[i]? = some v → RepV (fun _ => False) w [] [] c v) : RepVs (fun _ => False) w [] [] args xs.toArray :=
 ⟨by simpa using h, fun i c v h1 h2 => k i c v h1 (by simpa using h2)⟩
inductive RepL2 (w : World) : List AV → List Value → Prop
 | nil : RepL2 w [] []
 | cons {c : AV} {v : Value} {cs : List AV} {vs : List Value} (h : RepV (fun _ => False) w [] [] c v) (t : RepL2 w cs vs) : RepL2 w (c :: cs) (v :: vs)
theorem RepL2.vs {w : World} {cs : List AV} {vs : List Value} (h : RepL2 w cs vs) : RepVs (fun _ => False) w [] [] cs vs.toArray := by
 refine repVs_of ?_ ?_
 ·induction h with
  | nil => rfl
  | cons _ _ ih => simp [ih]
 ·induction h with
  | nil => intro i c v h; simp at h
  | cons h t ih =>
   intro i c v h1 h2
   cases i with
   | zero => simp at h1 h2; subst h1 h2; exact h
   | succ i => exact ih i c v (by simpa using h1) (by simpa using h2)

section
variable {H : Type} {enc : TypeId × Value → H} {P : Program} {W : World} {base : Nat}

/-! ### Bytes and colourings -/
def Col.wf (x : Col) : Prop := (Lit.int .i64 x.p).wf = true ∧ (Lit.int .i64 x.k).wf = true

end
end Go.Proofs.YtldgmcghdohmeaaGreat

namespace Go.Proofs.YtldgmcghdohmeaaGreat
open Go Go.RowKit Ab Go.ChangeShapes Go.WideShapes

section
variable {H : Type} {enc : TypeId × Value → H} {P : Program} {W : World} {base : Nat}

theorem immW {b : Nat} (h : b < W.heap.size) : imm (fun _ => False) W [] [] b := ⟨⟨h, fun _ _ hx => by simp at hx⟩, id⟩

theorem add_plain {a : Addr} {v : Value} (h : W.cell? (a.add 0) = some v) (i : Nat) : a.add i = ⟨a.block, a.off + i, none⟩ ∧ a = ⟨a.block, a.off, none⟩ := by
 have h0 : a.spot = none := by
  unfold Addr.add at h
  rw [if_pos rfl] at h
  unfold World.cell? at h
  split at h
  ·cases hs : a.spot with
   | none => rfl
   | some s => rw [hs] at h; simp at h
  ·cases h
 have e : a = ⟨a.block, a.off, none⟩ := by cases a; simp at h0; subst h0; rfl
 refine ⟨?_, e⟩
 unfold Addr.add
 split
 ·next h => subst h; rw [Nat.add_zero]; exact e
 ·rfl

theorem row_mem {a : Addr} {n i : Nat} (h : i < n) : ∃ y ∈ MemPlace.row a n, y.block = a.block := by
 refine ⟨.cell a.block (a.off + i), ?_, rfl⟩
 unfold MemPlace.row
 exact List.mem_map.2 ⟨i, by simpa using h, rfl⟩

end
end Go.Proofs.YtldgmcghdohmeaaGreat

namespace Go.Proofs.YtldgmcghdohmeaaGreat
open Go Go.RowKit Ab Go.ChangeShapes Go.WideShapes

section
variable {H : Type} {enc : TypeId × Value → H} {P : Program} {W : World} {base : Nat}

theorem byte_back {n : Int} (h : (Lit.int .u8 n).wf = true) : ((UInt8.ofNat n.toNat).toNat : Int) = n := by
 have hb := bounds_u8 h
 rw [UInt8.toNat_ofNat']
 omega

theorem rep_bytes {t e : TypeId} {v : Value} {d : DataW H} {ps : List MemPlace} {r : Reach} (ht : P.underlying t = some (.slice e)) (he : P.underlying e = some (.int .u8)) (hc : P.cellsOf e = 1)
  (hval : Value.okWide P W r base t v) (h : DataW.Trod enc P W 0 (fun _ => true) true t v d ps) (hlt : ∀ x ∈ ps, x.block < W.heap.size) :
  ∃ l : List UInt8, l.length ≤ maxLen ∧ RepV (fun _ => False) W [] [] (.d (.sl none (bysD l))) v := by
 obtain ⟨a, len, cap, rfl⟩ := okWide_slice ht hval
 obtain ⟨fuel, h⟩ := h
 rcases open_ints ht he hc h with ⟨h0, _⟩ | ⟨a', len', cap', zs, h0, hb, hl, hm, hz, hx, hcell, hw⟩
 ·simp [Value.cells] at h0
  obtain ⟨rfl, rfl, rfl⟩ := h0
  refine ⟨[], by simp, .d _ _ (.sl none [] [] none 0 rfl (fun b hb => by cases hb) (Nat.zero_le _) (fun h => (h rfl).elim) (fun i c v h => by simp at h))⟩
 ·simp [Value.cells] at h0
  obtain ⟨rfl, rfl, rfl⟩ := h0
  simp only [if_true] at hz
  have hlen : (zs.take len).length = len := by simp; omega
  refine ⟨(zs.take len).map fun n => UInt8.ofNat n.toNat, by simp; omega, ?_⟩
  have hD : bysD ((zs.take len).map fun n => UInt8.ofNat n.toNat) = (zs.take len).map fun n => D.s (.int .u8 n) := by
   unfold bysD
   rw [List.map_map]
   refine List.map_congr_left fun n hn => ?_
   show uD (UInt8.ofNat n.toNat) = _
   unfold uD
   rw [byte_back (hw n (List.mem_of_mem_take hn))]
  rw [hD]
  have hlen' : ((zs.take len).map fun n => D.s (.int .u8 n)).length = len := by rw [List.length_map, hlen]
  have hr := RepD.sl (w := W) (I := imm (fun _ => False) W [] []) none ((zs.take len).map fun n => D.s (.int .u8 n)) ((zs.take len).map (Value.int .u8)) (some a') cap (by simp) (fun b hb => by cases hb) (by omega)
   (fun hne => by
    have hpos : 0 < len := by
     rcases Nat.eq_zero_or_pos len with h0 | h0
     ·exact (hne (List.eq_nil_of_length_eq_zero (by omega))).elim
     ·exact h0
    have hp := fun i => add_plain (hcell 0 (by omega)) i
    obtain ⟨y, hy, hyb⟩ := row_mem (a := a') (n := zs.length) (i := 0) (by omega)
    refine ⟨a'.block, a'.off, by rw [← (hp 0).2], immW (by rw [← hyb]; exact hlt y (by have := congrArg Prod.snd hx; simp only at this; rw [this]; exact hy)), fun i v hv => ?_⟩
    have hi : i < len := by
     have := (List.getElem?_eq_some_iff.1 hv).1
     simp at this; omega
    have h1 := hcell i (by omega)
    rw [(hp i).1] at h1
    rw [h1]
    rw [List.getElem?_map, List.getElem?_take, if_pos hi] at hv
    have : zs[i]? = some zs[i] := List.getElem?_eq_getElem (by omega)
    rw [this] at hv
    simp at hv
    simp [← hv, List.getD, this])
   (fun i c v h1 h2 => by
    rw [List.getElem?_map] at h1 h2
    cases hh : (zs.take len)[i]? with
    | none => rw [hh] at h1; simp at h1
    | some n => rw [hh] at h1 h2; simp at h1 h2; subst h1 h2; exact .s _)
  rw [hlen'] at hr
  exact .d _ _ hr
end
end Go.Proofs.YtldgmcghdohmeaaGreat
