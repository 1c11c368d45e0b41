/- Colourings as plain data: points, colours and 136 bytes; their cells. No conditions. -/
import Derived.Test.YtldgmcghdohmeaaGreatAb12
set_option linter.unusedVariables false
namespace Go.Proofs.YtldgmcghdohmeaaGreat
open Go Go.RowKit Ab

abbrev iV (n : Int) : AV := .d (.s (.int .i64 n))
abbrev bV (b : Bool) : AV := .d (.s (.bool b))
abbrev iD (n : Int) : D := .s (.int .i64 n)
abbrev w64 (n : Int) : Int := IntKind.i64.wrap n
abbrev uD (b : UInt8) : D := .s (.int .u8 (b.toNat : Int))

/-- An array of 136 bytes. -/
structure B136 where
 l : List UInt8
 h : l.length = 136

theorem B136.ext' {x y : B136} (h : x.l = y.l) : x = y := by cases x; cases y; simp at h; subst h; rfl
def B136.get (x : B136) (i : Nat) : UInt8 := x.l.getD i 0
def B136.set (x : B136) (i : Nat) (b : UInt8) : B136 := ⟨x.l.set i b, by simp [x.h]⟩
def B136.zero : B136 := ⟨List.replicate 136 0, by simp⟩

/-- impl.Colouring (and laws.Colouring). -/
structure Col where
 p : Int
 k : Int
 e : B136

theorem Col.ext' {x y : Col} (hp : x.p = y.p) (hk : x.k = y.k) (he : x.e = y.e) : x = y := by
 cases x; cases y; simp at *; exact ⟨hp, hk, he⟩

def byD (es : B136) : List D := es.l.map uD
def colD (x : Col) : List D := iD x.p :: iD x.k :: byD x.e
def Col.zero : Col := ⟨0, 0, B136.zero⟩
def Col.set (x : Col) (i : Nat) (b : UInt8) : Col := ⟨x.p, x.k, x.e.set i b⟩
def Col.get (x : Col) (i : Nat) : UInt8 := x.e.get i

theorem byD_length (es : B136) : (byD es).length = 136 := by simp [byD, es.h]
theorem colD_length (x : Col) : (colD x).length = 138 := by simp [colD, byD_length]
theorem byD_one (es : B136) : ∀ c ∈ byD es, c.one = true := by
 intro c hc
 obtain ⟨b, _, rfl⟩ := List.mem_map.1 hc
 rfl
theorem colD_one (x : Col) : ∀ c ∈ colD x, c.one = true := by
 intro c hc
 simp only [colD, List.mem_cons] at hc
 rcases hc with rfl | rfl | hc
 ·rfl
 ·rfl
 ·exact byD_one _ c hc
theorem byD_flat (es : B136) : ∀ c ∈ byD es, c.flat := by
 intro c hc
 obtain ⟨b, _, rfl⟩ := List.mem_map.1 hc
 exact flat_s _
theorem colD_flat (x : Col) : ∀ c ∈ colD x, c.flat := by
 intro c hc
 simp only [colD, List.mem_cons] at hc
 rcases hc with rfl | rfl | hc
 ·exact flat_s _
 ·exact flat_s _
 ·exact byD_flat _ c hc
theorem byD_get (es : B136) (i : Nat) (h : i < 136) : (byD es)[i]? = some (uD (es.get i)) := by
 simp [byD, B136.get, es.h, h]
theorem colD_get (x : Col) (i : Nat) (h : i < 136) : (colD x)[2 + i]? = some (uD (x.get i)) := by
 have : (colD x)[2 + i]? = (byD x.e)[i]? := by rw [Nat.add_comm]; rfl
 rw [this, byD_get _ _ h]; rfl
theorem colD_all (x : Col) : ((colD x).drop 0).take 138 = colD x := by
 rw [List.drop_zero, List.take_of_length_le (by rw [colD_length]; omega)]
theorem colD_take (x : Col) : (colD x).take 138 = colD x := by
 rw [List.take_of_length_le (by rw [colD_length]; omega)]
theorem colD_edges (x : Col) : ((colD x).drop 2).take 136 = byD x.e := by
 show (byD x.e).take 136 = byD x.e
 rw [List.take_of_length_le (by rw [byD_length]; omega)]
theorem byD_set (es : B136) (i : Nat) (b : UInt8) : (byD es).set i (uD b) = byD (es.set i b) := by simp [byD, B136.set, List.map_set]
theorem colD_set0 (x : Col) (n : Int) : (colD x).set 0 (iD n) = colD ⟨n, x.k, x.e⟩ := rfl
theorem colD_set1 (x : Col) (n : Int) : (colD x).set 1 (iD n) = colD ⟨x.p, n, x.e⟩ := rfl
theorem colD_setE (x : Col) (i : Nat) (b : UInt8) : (colD x).set (2 + i) (uD b) = colD (x.set i b) := by
 rw [Nat.add_comm 2 i]
 show iD x.p :: iD x.k :: (byD x.e).set i (uD b) = _
 rw [byD_set]; rfl
theorem colD_whole (x y : Col) : (colD x).take 0 ++ colD y ++ (colD x).drop (0 + (colD y).length) = colD y := by
 have : (colD x).drop (0 + (colD y).length) = [] := by rw [List.drop_eq_nil_iff, colD_length, colD_length]; omega
 rw [this]; simp
/-- impl.Desk: two colourings. -/
structure Desk where
 f : Col
 s : Col
def Desk.zero : Desk := ⟨Col.zero, Col.zero⟩
theorem colD_cellsOK (a : Col) : (D.agg (colD a)).cellsOK := fun c hc => colD_one a c hc

/-- byte(n), an int64 as a byte. -/
def toByte (n : Int) : UInt8 := UInt8.ofNat (n % 256).toNat
theorem toByte_spec (n : Int) : IntKind.u8.wrap n = ((toByte n).toNat : Int) := by
 have h : 0 ≤ n % 256 ∧ n % 256 < 256 := ⟨Int.emod_nonneg _ (by decide), Int.emod_lt_of_pos _ (by decide)⟩
 have e : IntKind.u8.wrap n = n % 256 := by
  simp [IntKind.wrap, IntKind.bits, IntKind.signed]
 rw [e]
 unfold toByte
 rw [UInt8.toNat_ofNat']
 omega
section
variable {P : Program} {n : Nat} {G : Ctx} {E : Env} {H : List AObj} {o : Oper}
theorem QOp_fromByte (src dst : TypeId) (x : Operand) (k : IntKind) (b : UInt8) (h : o.op = .convert src dst x) (hs : (P.underlying src).isSome = true) (hd : P.underlying dst = some (.int k)) (hk : ∀ m : Nat, m < 256 → k.wrap (m : Int) = m) (he : evalO E x = some (.d (uD b))) : QOp P n G o E H (.d (.s (.int k (b.toNat : Int)))) := by
 have := QOp_conv (P := P) (n := n) (G := G) (H := H) src dst x _ k _ h hs hd he
 rwa [hk _ b.toNat_lt] at this
theorem QOp_toByte (src dst : TypeId) (x : Operand) (ks : IntKind) (p : Int) (h : o.op = .convert src dst x) (hs : (P.underlying src).isSome = true) (hd : P.underlying dst = some (.int .u8)) (he : evalO E x = some (.d (.s (.int ks p)))) : QOp P n G o E H (.d (uD (toByte p))) := by
 have := QOp_conv (P := P) (n := n) (G := G) (H := H) src dst x _ _ _ h hs hd he
 rwa [toByte_spec] at this
theorem wrap_i64_byte (m : Nat) (h : m < 256) : IntKind.i64.wrap (m : Int) = m := by rw [IntKind.wrap_i64]; omega
theorem wrap_u64_byte (m : Nat) (h : m < 256) : IntKind.u64.wrap (m : Int) = m := by
 simp only [IntKind.wrap, IntKind.bits, IntKind.signed, Bool.false_and, Bool.false_eq_true, if_false]
 omega
end

/-- Whole numbers of one kind, as the elements of a slice. -/
def intsD (l : List Int) : List D := l.map iD
theorem intsD_length (l : List Int) : (intsD l).length = l.length := by simp [intsD]
theorem intsD_get (l : List Int) (i : Nat) (d : Int) (h : i < l.length) : (intsD l)[i]? = some (iD (l.getD i d)) := by simp [intsD, h]
theorem intsD_one (l : List Int) : ∀ c ∈ intsD l, c.one = true := by
 intro c hc
 obtain ⟨b, _, rfl⟩ := List.mem_map.1 hc
 rfl
theorem intsD_flat (l : List Int) : ∀ c ∈ intsD l, c.flat := by
 intro c hc
 obtain ⟨b, _, rfl⟩ := List.mem_map.1 hc
 exact flat_s _
theorem intsD_set (l : List Int) (i : Nat) (v : Int) : (intsD l).set i (iD v) = intsD (l.set i v) := by simp [intsD, List.map_set]
theorem intsD_app (l m : List Int) : intsD l ++ intsD m = intsD (l ++ m) := by simp [intsD]
theorem intsD_rep (n : Nat) (v : Int) : List.replicate n (iD v) = intsD (List.replicate n v) := by simp [intsD]
abbrev bD (b : Bool) : D := .s (.bool b)
abbrev sD (b : ByteArray) : D := .s (.string b)
abbrev inD (l : List Int) : D := .sl none (intsD l)

def bysD (l : List (UInt8)) : List D := l.map uD
theorem bysD_length (l : List (UInt8)) : (bysD l).length = l.length := by simp [bysD]
theorem bysD_get (l : List (UInt8)) (i : Nat) (d : UInt8) (h : i < l.length) : (bysD l)[i]? = some (uD (l.getD i d)) := by simp [bysD, h]
theorem bysD_one (l : List (UInt8)) : ∀ c ∈ bysD l, c.one = true := by
 intro c hc
 obtain ⟨b, _, rfl⟩ := List.mem_map.1 hc
 rfl
theorem bysD_part (l : List (UInt8)) (a b : Nat) : ((bysD l).take b).drop a = bysD ((l.take b).drop a) := by simp [bysD, List.map_drop, List.map_take]
def bosD (l : List (Bool)) : List D := l.map bD
theorem bosD_length (l : List (Bool)) : (bosD l).length = l.length := by simp [bosD]
theorem bosD_get (l : List (Bool)) (i : Nat) (d : Bool) (h : i < l.length) : (bosD l)[i]? = some (bD (l.getD i d)) := by simp [bosD, h]
theorem bosD_one (l : List (Bool)) : ∀ c ∈ bosD l, c.one = true := by
 intro c hc
 obtain ⟨b, _, rfl⟩ := List.mem_map.1 hc
 rfl
theorem bosD_set (l : List (Bool)) (i : Nat) (v : Bool) : (bosD l).set i (bD v) = bosD (l.set i v) := by simp [bosD, List.map_set]
theorem bosD_rep (n : Nat) (v : Bool) : List.replicate n (bD v) = bosD (List.replicate n v) := by simp [bosD]
def stsD (l : List (ByteArray)) : List D := l.map sD
theorem stsD_length (l : List (ByteArray)) : (stsD l).length = l.length := by simp [stsD]
theorem stsD_get (l : List (ByteArray)) (i : Nat) (d : ByteArray) (h : i < l.length) : (stsD l)[i]? = some (sD (l.getD i d)) := by simp [stsD, h]
theorem stsD_one (l : List (ByteArray)) : ∀ c ∈ stsD l, c.one = true := by
 intro c hc
 obtain ⟨b, _, rfl⟩ := List.mem_map.1 hc
 rfl
def rowsD (l : List (List Int)) : List D := l.map inD
theorem rowsD_length (l : List (List Int)) : (rowsD l).length = l.length := by simp [rowsD]
theorem rowsD_get (l : List (List Int)) (i : Nat) (d : List Int) (h : i < l.length) : (rowsD l)[i]? = some (inD (l.getD i d)) := by simp [rowsD, h]
theorem rowsD_one (l : List (List Int)) : ∀ c ∈ rowsD l, c.one = true := by
 intro c hc
 obtain ⟨b, _, rfl⟩ := List.mem_map.1 hc
 rfl
theorem rowsD_app (l m : List (List Int)) : rowsD l ++ rowsD m = rowsD (l ++ m) := by simp [rowsD]
theorem rowsD_part (l : List (List Int)) (a b : Nat) : ((rowsD l).take b).drop a = rowsD ((l.take b).drop a) := by simp [rowsD, List.map_drop, List.map_take]

/-- A result that is a new slice, or nil. -/
def ownA (k : Nat) : Option (List D) → AV
 | none => .d (.sl (some true) [])
 | some _ => .vec k 0
def ownH : Option (List D) → List AObj
 | none => []
 | some l => [.vec 0 l]
theorem iteT {α : Type} {b : Bool} {x y z : α} (hb : b = true) (h : (if b = true then x else y) = z) : x = z := by rw [if_pos hb] at h; exact h
theorem iteF {α : Type} {b : Bool} {x y z : α} (hb : b = false) (h : (if b = true then x else y) = z) : y = z := by rw [if_neg (by simp [hb])] at h; exact h
theorem guardO {α : Type} {p : Prop} [Decidable p] {x : Option α} {z : α} (h : (if p then x else none) = some z) : p ∧ x = some z := by
 by_cases hp : p
 ·rw [if_pos hp] at h; exact ⟨hp, h⟩
 ·rw [if_neg hp] at h; cases h
theorem bindO {α β : Type} {x : Option α} {f : α → Option β} {z : β} (h : x.bind f = some z) : ∃ t, x = some t ∧ f t = some z := by
 cases x with
 | none => cases h
 | some t => exact ⟨t, rfl, h⟩

theorem allc {α : Type} {P : α → Prop} {a : α} {l : List α} (h : P a) (t : ∀ x ∈ l, P x) : ∀ x ∈ a :: l, P x := by
 intro x hx
 rcases List.mem_cons.1 hx with rfl | hx
 ·exact h
 ·exact t x hx
theorem ok1 {d : D} (h : d.one = true) : d.cellsOK := by
 have hc : d.cells = [d] := by cases d <;> first | rfl | simp [D.one] at h
 intro c hc'
 rw [hc] at hc'
 rcases List.mem_singleton.1 hc' with rfl
 exact h

section
variable {P : Program} {n : Nat} {G : Ctx} {E : Env} {H : List AObj} {ops : Array Oper} {rest : List Oper} {o : Oper} {K : Env → List AObj → Prop}
theorem zero_of {t : TypeId} {i : TypeInfo} {z : Value} (hi : ∀ w, (typeInfo t).run P w = .ok i w) (hz : i.zero = some z) (w : World) : (zeroValue t).run P w = .ok z w := by
 simp [zeroValue, hi, hz]
theorem AOps_makeSliceG {α : Type} (fl : List α → List D) (fe : α → D) (v : α) (hrep : ∀ n, List.replicate n (fe v) = fl (List.replicate n v)) (d : Nat) (t e : TypeId) (x y : Operand) (kl kc : IntKind) (l c : Int) (i : TypeInfo) (z : Value) (hzv : zD z = fe v) (hz1 : z.oneCell' = true) (hw : wantedE ops E o = some true) (hd : o.dst = some d) (hlt : Nat.ble (d + 1) n = true) (hop : o.op = .makeSlice t x y)
  (hu : P.underlying t = some (.slice e)) (hi : P.info? e = some i) (hz : i.zero = some z) (hsz : i.size = 1) (hby : i.bytes ≤ 64) (hx : evalO E x = some (.d (.s (.int kl l)))) (hy : evalO E y = some (.d (.s (.int kc c))))
  (h0 : 0 ≤ l) (hlc : l ≤ c) (hc : c ≤ 1099511627776) (h : AOps P n G ops rest ((d, .vec H.length 0) :: E) (H ++ [.vec 0 (fl (List.replicate l.toNat v))]) K) : AOps P n G ops (o :: rest) E H K := by
 refine AOps_makeSlice d t e x y kl kc l.toNat c.toNat i z hw hd hlt hop hu hi hz hz1 hsz hby (by rw [Int.toNat_of_nonneg h0]; exact hx) (by rw [Int.toNat_of_nonneg (by omega)]; exact hy) (by omega) (by omega) ?_
 rw [← hrep, ← hzv] at h
 exact h
end
end Go.Proofs.YtldgmcghdohmeaaGreat
