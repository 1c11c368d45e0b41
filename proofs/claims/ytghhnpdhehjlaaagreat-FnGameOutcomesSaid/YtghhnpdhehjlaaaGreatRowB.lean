/- A list of bytes as a law's argument. No conditions. -/
import Derived.Test.YtghhnpdhehjlaaaGreatRowS
set_option linter.unusedVariables false
set_option linter.unusedSimpArgs false
namespace Go.Proofs.YtghhnpdhehjlaaaGreat
open Go Go.RowKit Ab Go.ChangeShapes Go.WideShapes

section
variable {H : Type} {enc : TypeId × Value → H} {P : Program} {W : World} {base : Nat}

theorem byte_back {n : Int} (h : (Lit.int .u8 n).wf = true) : ((UInt8.ofNat n.toNat).toNat : Int) = n := by
  have hb := bounds_u8 h
  rw [UInt8.toNat_ofNat']
  omega

theorem rep_bytes {t e : TypeId} {v : Value} {d : DataW H} {ps : List MemPlace} {r : Reach} (ht : P.underlying t = some (.slice e)) (he : P.underlying e = some (.int .u8)) (hc : P.cellsOf e = 1)
    (hval : Value.okWide P W r base t v) (h : DataW.Trod enc P W 0 (fun _ => true) true t v d ps) (hlt : ∀ x ∈ ps, x.block < W.heap.size) :
    ∃ l : List UInt8, l.length ≤ maxLen ∧ RepV (fun _ => False) W [] [] (.d (.sl none (bysD l))) v := by
  obtain ⟨a, len, cap, rfl⟩ := okWide_slice ht hval
  obtain ⟨fuel, h⟩ := h
  rcases open_ints ht he hc h with ⟨h0, _⟩ | ⟨a', len', cap', zs, h0, hb, hl, hm, hz, hx, hcell, hw⟩
  · simp [Value.cells] at h0
    obtain ⟨rfl, rfl, rfl⟩ := h0
    refine ⟨[], by simp, .d _ _ (.sl none [] [] none 0 rfl (fun b hb => by cases hb) (Nat.zero_le _) (fun h => (h rfl).elim) (fun i c v h => by simp at h))⟩
  · simp [Value.cells] at h0
    obtain ⟨rfl, rfl, rfl⟩ := h0
    simp only [if_true] at hz
    have hlen : (zs.take len).length = len := by simp; omega
    refine ⟨(zs.take len).map fun n => UInt8.ofNat n.toNat, by simp; omega, ?_⟩
    have hD : bysD ((zs.take len).map fun n => UInt8.ofNat n.toNat) = (zs.take len).map fun n => D.s (.int .u8 n) := by
      unfold bysD
      rw [List.map_map]
      refine List.map_congr_left fun n hn => ?_
      show uD (UInt8.ofNat n.toNat) = _
      unfold uD
      rw [byte_back (hw n (List.mem_of_mem_take hn))]
    rw [hD]
    have hlen' : ((zs.take len).map fun n => D.s (.int .u8 n)).length = len := by rw [List.length_map, hlen]
    have hr := RepD.sl (w := W) (I := imm (fun _ => False) W [] []) none ((zs.take len).map fun n => D.s (.int .u8 n)) ((zs.take len).map (Value.int .u8)) (some a') cap (by simp) (fun b hb => by cases hb) (by omega)
      (fun hne => by
        have hpos : 0 < len := by
          rcases Nat.eq_zero_or_pos len with h0 | h0
          · exact (hne (List.eq_nil_of_length_eq_zero (by omega))).elim
          · exact h0
        have hp := fun i => add_plain (hcell 0 (by omega)) i
        obtain ⟨y, hy, hyb⟩ := row_mem (a := a') (n := zs.length) (i := 0) (by omega)
        refine ⟨a'.block, a'.off, by rw [← (hp 0).2], immW (by rw [← hyb]; exact hlt y (by have := congrArg Prod.snd hx; simp only at this; rw [this]; exact hy)), fun i v hv => ?_⟩
        have hi : i < len := by
          have := (List.getElem?_eq_some_iff.1 hv).1
          simp at this; omega
        have h1 := hcell i (by omega)
        rw [(hp i).1] at h1
        rw [h1]
        rw [List.getElem?_map, List.getElem?_take, if_pos hi] at hv
        have : zs[i]? = some zs[i] := List.getElem?_eq_getElem (by omega)
        rw [this] at hv
        simp at hv
        simp [← hv, List.getD, this])
      (fun i c v h1 h2 => by
        rw [List.getElem?_map] at h1 h2
        cases hh : (zs.take len)[i]? with
        | none => rw [hh] at h1; simp at h1
        | some n => rw [hh] at h1 h2; simp at h1 h2; subst h1 h2; exact .s _)
    rw [hlen'] at hr
    exact .d _ _ hr
end
end Go.Proofs.YtghhnpdhehjlaaaGreat
