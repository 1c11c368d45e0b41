/- Colourings as plain data: points, colours and 136 bytes; their cells. No conditions. -/
import Derived.Test.YtghhnpdhehjlaaaGreatAb12
set_option linter.unusedVariables false
namespace Go.Proofs.YtghhnpdhehjlaaaGreat
open Go Go.RowKit Ab

abbrev iV (n : Int) : AV := .d (.s (.int .i64 n))
abbrev bV (b : Bool) : AV := .d (.s (.bool b))
abbrev iD (n : Int) : D := .s (.int .i64 n)
abbrev w64 (n : Int) : Int := IntKind.i64.wrap n
abbrev uD (b : UInt8) : D := .s (.int .u8 (b.toNat : Int))

/-- An array of 136 bytes. -/
structure B136 where
  l : List UInt8
  h : l.length = 136

theorem B136.ext' {x y : B136} (h : x.l = y.l) : x = y := by cases x; cases y; simp at h; subst h; rfl
def B136.get (x : B136) (i : Nat) : UInt8 := x.l.getD i 0
def B136.set (x : B136) (i : Nat) (b : UInt8) : B136 := ⟨x.l.set i b, by simp [x.h]⟩
def B136.zero : B136 := ⟨List.replicate 136 0, by simp⟩

/-- impl.Colouring (and laws.Colouring). -/
structure Col where
  p : Int
  k : Int
  e : B136

theorem Col.ext' {x y : Col} (hp : x.p = y.p) (hk : x.k = y.k) (he : x.e = y.e) : x = y := by
  cases x; cases y; simp at *; exact ⟨hp, hk, he⟩

def Col.zero : Col := ⟨0, 0, B136.zero⟩
def Col.set (x : Col) (i : Nat) (b : UInt8) : Col := ⟨x.p, x.k, x.e.set i b⟩
def Col.get (x : Col) (i : Nat) : UInt8 := x.e.get i

/-- impl.Desk: two colourings. -/
structure Desk where
  f : Col
  s : Col
def Desk.zero : Desk := ⟨Col.zero, Col.zero⟩
section
variable {P : Program} {n : Nat} {G : Ctx} {E : Env} {H : List AObj} {o : Oper}
theorem QOp_fromByte (src dst : TypeId) (x : Operand) (k : IntKind) (b : UInt8) (h : o.op = .convert src dst x) (hs : (P.underlying src).isSome = true) (hd : P.underlying dst = some (.int k)) (hk : ∀ m : Nat, m < 256 → k.wrap (m : Int) = m) (he : evalO E x = some (.d (uD b))) : QOp P n G o E H (.d (.s (.int k (b.toNat : Int)))) := by
  have := QOp_conv (P := P) (n := n) (G := G) (H := H) src dst x _ k _ h hs hd he
  rwa [hk _ b.toNat_lt] at this
theorem wrap_i64_byte (m : Nat) (h : m < 256) : IntKind.i64.wrap (m : Int) = m := by rw [IntKind.wrap_i64]; omega
theorem wrap_u64_byte (m : Nat) (h : m < 256) : IntKind.u64.wrap (m : Int) = m := by
  simp only [IntKind.wrap, IntKind.bits, IntKind.signed, Bool.false_and, Bool.false_eq_true, if_false]
  omega
end

/-- Whole numbers of one kind, as the elements of a slice. -/
def intsD (l : List Int) : List D := l.map iD
theorem intsD_length (l : List Int) : (intsD l).length = l.length := by simp [intsD]
theorem intsD_get (l : List Int) (i : Nat) (d : Int) (h : i < l.length) : (intsD l)[i]? = some (iD (l.getD i d)) := by simp [intsD, h]
theorem intsD_one (l : List Int) : ∀ c ∈ intsD l, c.one = true := by
  intro c hc
  obtain ⟨b, _, rfl⟩ := List.mem_map.1 hc
  rfl
theorem intsD_flat (l : List Int) : ∀ c ∈ intsD l, c.flat := by
  intro c hc
  obtain ⟨b, _, rfl⟩ := List.mem_map.1 hc
  exact flat_s _
theorem intsD_set (l : List Int) (i : Nat) (v : Int) : (intsD l).set i (iD v) = intsD (l.set i v) := by simp [intsD, List.map_set]
theorem intsD_app (l m : List Int) : intsD l ++ intsD m = intsD (l ++ m) := by simp [intsD]
theorem intsD_rep (n : Nat) (v : Int) : List.replicate n (iD v) = intsD (List.replicate n v) := by simp [intsD]
abbrev bD (b : Bool) : D := .s (.bool b)
abbrev inD (l : List Int) : D := .sl none (intsD l)

def bysD (l : List (UInt8)) : List D := l.map uD
theorem bysD_length (l : List (UInt8)) : (bysD l).length = l.length := by simp [bysD]
theorem bysD_get (l : List (UInt8)) (i : Nat) (d : UInt8) (h : i < l.length) : (bysD l)[i]? = some (uD (l.getD i d)) := by simp [bysD, h]
theorem bysD_one (l : List (UInt8)) : ∀ c ∈ bysD l, c.one = true := by
  intro c hc
  obtain ⟨b, _, rfl⟩ := List.mem_map.1 hc
  rfl
theorem bysD_app (l m : List (UInt8)) : bysD l ++ bysD m = bysD (l ++ m) := by simp [bysD]
def bosD (l : List (Bool)) : List D := l.map bD
theorem bosD_length (l : List (Bool)) : (bosD l).length = l.length := by simp [bosD]
theorem bosD_get (l : List (Bool)) (i : Nat) (d : Bool) (h : i < l.length) : (bosD l)[i]? = some (bD (l.getD i d)) := by simp [bosD, h]
theorem bosD_set (l : List (Bool)) (i : Nat) (v : Bool) : (bosD l).set i (bD v) = bosD (l.set i v) := by simp [bosD, List.map_set]
theorem bosD_rep (n : Nat) (v : Bool) : List.replicate n (bD v) = bosD (List.replicate n v) := by simp [bosD]
def rowsD (l : List (List Int)) : List D := l.map inD
theorem rowsD_length (l : List (List Int)) : (rowsD l).length = l.length := by simp [rowsD]
theorem rowsD_get (l : List (List Int)) (i : Nat) (d : List Int) (h : i < l.length) : (rowsD l)[i]? = some (inD (l.getD i d)) := by simp [rowsD, h]
theorem rowsD_one (l : List (List Int)) : ∀ c ∈ rowsD l, c.one = true := by
  intro c hc
  obtain ⟨b, _, rfl⟩ := List.mem_map.1 hc
  rfl
theorem rowsD_app (l m : List (List Int)) : rowsD l ++ rowsD m = rowsD (l ++ m) := by simp [rowsD]
/-- A result that is a new slice, or nil. -/
def ownA (k : Nat) : Option (List D) → AV
  | none => .d (.sl (some true) [])
  | some _ => .vec k 0
def ownH : Option (List D) → List AObj
  | none => []
  | some l => [.vec 0 l]
theorem iteT {α : Type} {b : Bool} {x y z : α} (hb : b = true) (h : (if b = true then x else y) = z) : x = z := by rw [if_pos hb] at h; exact h
theorem iteF {α : Type} {b : Bool} {x y z : α} (hb : b = false) (h : (if b = true then x else y) = z) : y = z := by rw [if_neg (by simp [hb])] at h; exact h
theorem guardO {α : Type} {p : Prop} [Decidable p] {x : Option α} {z : α} (h : (if p then x else none) = some z) : p ∧ x = some z := by
  by_cases hp : p
  · rw [if_pos hp] at h; exact ⟨hp, h⟩
  · rw [if_neg hp] at h; cases h
theorem bindO {α β : Type} {x : Option α} {f : α → Option β} {z : β} (h : x.bind f = some z) : ∃ t, x = some t ∧ f t = some z := by
  cases x with
  | none => cases h
  | some t => exact ⟨t, rfl, h⟩

theorem allc {α : Type} {P : α → Prop} {a : α} {l : List α} (h : P a) (t : ∀ x ∈ l, P x) : ∀ x ∈ a :: l, P x := by
  intro x hx
  rcases List.mem_cons.1 hx with rfl | hx
  · exact h
  · exact t x hx
theorem ok1 {d : D} (h : d.one = true) : d.cellsOK := by
  have hc : d.cells = [d] := by cases d <;> first | rfl | simp [D.one] at h
  intro c hc'
  rw [hc] at hc'
  rcases List.mem_singleton.1 hc' with rfl
  exact h

section
variable {P : Program} {n : Nat} {G : Ctx} {E : Env} {H : List AObj} {ops : Array Oper} {rest : List Oper} {o : Oper} {K : Env → List AObj → Prop}
theorem zero_of {t : TypeId} {i : TypeInfo} {z : Value} (hi : ∀ w, (typeInfo t).run P w = .ok i w) (hz : i.zero = some z) (w : World) : (zeroValue t).run P w = .ok z w := by
  simp [zeroValue, hi, hz]
theorem AOps_makeSliceG {α : Type} (fl : List α → List D) (fe : α → D) (v : α) (hrep : ∀ n, List.replicate n (fe v) = fl (List.replicate n v)) (d : Nat) (t e : TypeId) (x y : Operand) (kl kc : IntKind) (l c : Int) (i : TypeInfo) (z : Value) (hzv : zD z = fe v) (hz1 : z.oneCell' = true) (hw : wantedE ops E o = some true) (hd : o.dst = some d) (hlt : Nat.ble (d + 1) n = true) (hop : o.op = .makeSlice t x y)
    (hu : P.underlying t = some (.slice e)) (hi : P.info? e = some i) (hz : i.zero = some z) (hsz : i.size = 1) (hby : i.bytes ≤ 64) (hx : evalO E x = some (.d (.s (.int kl l)))) (hy : evalO E y = some (.d (.s (.int kc c))))
    (h0 : 0 ≤ l) (hlc : l ≤ c) (hc : c ≤ 1099511627776) (h : AOps P n G ops rest ((d, .vec H.length 0) :: E) (H ++ [.vec 0 (fl (List.replicate l.toNat v))]) K) : AOps P n G ops (o :: rest) E H K := by
  refine AOps_makeSlice d t e x y kl kc l.toNat c.toNat i z hw hd hlt hop hu hi hz hz1 hsz hby (by rw [Int.toNat_of_nonneg h0]; exact hx) (by rw [Int.toNat_of_nonneg (by omega)]; exact hy) (by omega) (by omega) ?_
  rw [← hrep, ← hzv] at h
  exact h
end
end Go.Proofs.YtghhnpdhehjlaaaGreat
