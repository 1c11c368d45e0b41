/- Own library, part 18: texts out of bytes, bytes of texts. No conditions. -/
import Derived.Test.YtghhnpdhehjlaaaGreatAb17
import Derived.Laws.BytesArg
set_option linter.unusedVariables false
set_option linter.unusedSimpArgs false
namespace Go.Proofs.YtghhnpdhehjlaaaGreat.Ab
open Go Go.RowKit

section
variable {P : Program} {n : Nat} {G : Ctx} {E : Env} {H : List AObj} {ops : Array Oper} {rest : List Oper} {o : Oper} {K : Env → List AObj → Prop}

theorem strOf_bytes (l : List UInt8) : strOfNums (l.map fun b => (b.toNat : Int)) = ⟨l.toArray⟩ := by
  unfold strOfNums
  congr 1
  rw [List.map_map]
  congr 1
  conv => rhs; rw [← List.map_id l]
  refine List.map_congr_left fun b _ => ?_
  simp

theorem RepL.bytes {w : World} {I : Nat → Prop} {l : List UInt8} {vs : List Value} (h : RepL w I (bysD l) vs) : vs = l.map fun b => Value.int .u8 (b.toNat : Int) := by
  refine List.ext_getElem? fun i => ?_
  rw [List.getElem?_map]
  cases hc : l[i]? with
  | none =>
    have h1 : l.length ≤ i := List.getElem?_eq_none_iff.1 hc
    rw [Option.map_none, List.getElem?_eq_none_iff, h.1, bysD_length]
    exact h1
  | some b =>
    have hd : (bysD l)[i]? = some (uD b) := by unfold bysD; rw [List.getElem?_map, hc]; rfl
    obtain ⟨v, hv, hr⟩ := h.get hd
    rw [hv]
    cases hr
    rfl

/-- The text of an owned slice of bytes. -/
theorem QOp_bstr (t t' e : TypeId) (x : Operand) (k g : Nat) (l : List UInt8) (h : o.op = .convert t t' x) (hs : P.underlying t = some (.slice e)) (he : P.underlying e = some (.int .u8)) (hd : P.underlying t' = some .string)
    (hx : evalO E x = some (.vec k g)) (hk : H[k]? = some (.vec g (bysD l))) : QOp P n G o E H (.d (.s (.string ⟨l.toArray⟩))) := by
  intro r a w hr
  refine ⟨.string ⟨l.toArray⟩, .d _ _ (.s _), fun w' hbl => ?_⟩
  have hev := evalO_sound hr hx
  cases hev with
  | vec _ _ _ ho hp =>
    obtain ⟨b, hb⟩ := hr.heap.blk hk
    obtain ⟨cap, vs, ty, e1, hw, hcap⟩ := (hp g (bysD l) b hk hb).2 rfl
    have hO := hr.heap.obj k _ b hk hb
    have hlt := hO.lt rfl
    cases hO with
    | vec _ _ vs' ty' hw' hc hm hl =>
      have : vs' = vs := by rw [hw'] at hw; cases hw; rfl
      subst this
      have hbytes := RepL.bytes hl
      rw [bysD_length] at e1 hbytes
      simp only [execOp, h, e1]
      rw [Sem.run_bind, run_convert_bytes_arg w' t e hs he b 0 l.length cap (l.map fun b => (b.toNat : Int)) (by simp) (fun i hi => ?_) t' hd, strOf_bytes]
      · rfl
      · rw [Nat.zero_add, World.cell_block (by rw [hbl.block b hlt]; exact hw')]
        have h2 : (vs'.toList.take l.length)[i]? = some (Value.int .u8 ((l[i]).toNat : Int)) := by
          rw [hbytes, List.getElem?_map, List.getElem?_eq_getElem hi]; rfl
        rw [List.getElem?_take, if_pos hi] at h2
        simp [List.getD, hi]
        simpa using h2

/-- A byte of a text. -/
theorem QOp_sindex (t : TypeId) (x y : Operand) (kd : IntKind) (s : ByteArray) (i : Int) (h : o.op = .index t x y) (hu : P.underlying t = some .string) (h0 : 0 ≤ i) (h1 : i < (s.size : Int))
    (hx : evalO E x = some (.d (.s (.string s)))) (hy : evalO E y = some (.d (.s (.int kd i)))) : QOp P n G o E H (.d (uD (s.data.toList.getD i.toNat 0))) := by
  intro r a w hr
  refine ⟨_, .d _ _ (.s _), fun w' _ => ?_⟩
  have hlt : i.toNat < s.size := by omega
  have hd : s[i.toNat]? = some s[i.toNat] := getElem?_pos s i.toNat hlt
  have hg : s.data.toList.getD i.toNat 0 = s[i.toNat] := by
    have : i.toNat < s.data.size := hlt
    simp only [List.getD, List.getElem?_eq_getElem (show i.toNat < s.data.toList.length by simpa using this), Option.getD_some]
    rfl
  rw [hg]
  simp [execOp, h, Instr.index, evalO_s hr hx, evalO_s hr hy, asIntOf, run_underlying hu, h0, hd]

end
end Go.Proofs.YtghhnpdhehjlaaaGreat.Ab
