/- Own library: the library's texts to numbers and back, and what impl.readNumber hands back, at this program's numbers. No conditions. -/
import Derived.Test.YtmmiokljmfkoiaaDoorAb19
import Derived.Test.YtmmiokljmfkoiaaDoorShelfP
import Derived.RowKit
import Derived.Laws.StructEq
import Derived.Lib.Strings
import Derived.WalkKit
import Derived.ProofKit
import Derived.OwnWalkIn
import Derived.TacticsInMore
import Derived.Lib.AppendIntMem
import Derived.Lib.AtoiErrMem
import Derived.Lib.ParseIntBTie
import Derived.Lib.ConvBytes
set_option linter.unusedVariables false
set_option linter.unusedSimpArgs false
namespace Go.Proofs.YtmmiokljmfkoiaaDoor.Ab
open Go Go.RowKit

/-- internal/stringslite.Index at a text of one byte. -/
def indexOne (s sep : ByteArray) : Option Int := match sep.data.toList with
  | [c] => some (Lib.indexByte s.data.toList c)
  | _ => none
def indexB (s : ByteArray) (c : UInt8) : Int := Lib.indexByte s.data.toList c
/-- impl.readNumber. -/
def readN (s : ByteArray) : Option (Int × Bool) :=
  if s.size ≤ 1099511627776 then some (match Lib.parseIntB 64 s.data.toList with
    | .ok v => (v, (⟨(Lib.itoa v).toArray⟩ : ByteArray) == s)
    | .range => (Lib.intSat 64 s.data.toList, false)
    | _ => (0, false)) else none
end Go.Proofs.YtmmiokljmfkoiaaDoor.Ab
namespace Go.Proofs.YtmmiokljmfkoiaaDoor
open Go Go.RowKit Ab

theorem indexOne_ac (s sep : ByteArray) (r : Int) (h : indexOne s sep = some r) : AC Tryd.prog 66 [.d (.s (.string s)), .d (.s (.string sep))] [] (fun res H' => res = [iV r] ∧ H' = []) := by
  unfold indexOne at h
  split at h
  case h_2 => cases h
  rename_i c hc
  cases h
  have hsep : sep = ⟨#[c]⟩ := by
    rcases sep with ⟨a⟩
    congr 1
    exact Array.ext' hc
  subst hsep
  intro F w rb vs hh hvs
  obtain ⟨x, y, rfl⟩ : ∃ x y, vs = #[x, y] := by
    have := hvs.1
    cases vs with
    | mk l => match l, this with
      | [x, y], _ => exact ⟨x, y, rfl⟩
  have h0 := hvs.2 0 _ x rfl rfl
  have h1 := hvs.2 1 _ y rfl rfl
  cases h1 with
  | d _ _ hd1 =>
    cases hd1
    cases h0 with
    | d _ _ hd =>
      cases hd
      refine (Tryd.stringslite_Index_one s c w).mono ?_
      rintro e w' ⟨rfl, rfl⟩
      exact ⟨_, [], rb, _, rfl, ⟨rfl, rfl⟩, hh, .d _ _ (.s _), Step.refl _ _ _⟩

theorem indexB_ac (s : ByteArray) (c : UInt8) : AC Tryd.prog 31 [.d (.s (.string s)), .d (uD c)] [] (fun res H' => res = [iV (indexB s c)] ∧ H' = []) := by
  intro F w rb vs hh hvs
  obtain ⟨x, y, rfl⟩ : ∃ x y, vs = #[x, y] := by
    have := hvs.1
    cases vs with
    | mk l => match l, this with
      | [x, y], _ => exact ⟨x, y, rfl⟩
  have h0 := hvs.2 0 _ x rfl rfl
  have h1 := hvs.2 1 _ y rfl rfl
  cases h1 with
  | d _ _ hd1 =>
    cases hd1
    cases h0 with
    | d _ _ hd =>
      cases hd
      refine (Tryd.strings_IndexByte s (c.toNat : Int) w).mono ?_
      rintro e w' ⟨rfl, rfl⟩
      refine ⟨_, [], rb, _, rfl, ⟨rfl, rfl⟩, hh, ?_, Step.refl _ _ _⟩
      have : ((c.toNat : Int)).toNat.toUInt8 = c := by simp
      rw [this]
      exact .d _ _ (.s _)

/-- What the library's package variables hold, in blocks that nobody writes. -/
def GK (F : Nat → Prop) (w : World) : Prop :=
  (∀ n ∈ ["strconv.ErrSyntax", "strconv.ErrRange", "internal/strconv.uint64pow10"], ∀ g, Tryd.prog.globalNamed n = some g → F g) ∧
  (∃ tp p, w.var? Tryd.prog "strconv.ErrSyntax" = some #[.iface tp p]) ∧ (∃ tp p, w.var? Tryd.prog "strconv.ErrRange" = some #[.iface tp p]) ∧
  Lib.TabIs Tryd.prog w "internal/strconv.uint64pow10" .u64 Lib.pow10Tab

theorem var_same {P : Program} {w w' : World} {n : String} (h : ∀ g, P.globalNamed n = some g → w'.heap[g]? = w.heap[g]?) : w'.var? P n = w.var? P n := by
  unfold World.var?
  cases hg : P.globalNamed n with
  | none => rfl
  | some g => simp only [Option.bind_some]; rw [h g hg]

theorem gok : GOK GK := by
  rintro F F' w w' ⟨h1, h2, h3, h4⟩ hm hs
  have same : ∀ n ∈ ["strconv.ErrSyntax", "strconv.ErrRange", "internal/strconv.uint64pow10"], w'.var? Tryd.prog n = w.var? Tryd.prog n := fun n hn => var_same fun g hg => hs g (h1 n hn g hg)
  refine ⟨fun n hn g hg => hm g (h1 n hn g hg), ?_, ?_, ?_⟩
  · rw [same _ (by simp)]; exact h2
  · rw [same _ (by simp)]; exact h3
  · unfold Lib.TabIs; rw [same _ (by simp)]; exact h4

set_option maxRecDepth 100000 in
theorem decimal_calls (n : Int) (h0 : -9223372036854775808 ≤ n) (h1 : n ≤ 9223372036854775807) (w : World) (htab : Lib.TabIs Tryd.prog w "internal/strconv.uint64pow10" .u64 Lib.pow10Tab) :
    Calls Tryd.prog 26 #[.int .i64 n] w fun e w' => e = .returned (.string ⟨(Lib.itoa n).toArray⟩) ∧ Below w.heap.size w w' := by
  go_enter Tryd.func26, Tryd.ntmps26
  go_wp2_with (go_at_call 43; refine (Tryd.strconv_FormatInt_10 n h0 h1 _ htab).mono ?_; rintro e w' ⟨rfl, k, os, rfl⟩)
  go_ret
  exact ⟨rfl, Lib.below_grow _ _ (Nat.le_refl _) _ _⟩

theorem tab_below {w w' : World} {n : String} {k : IntKind} {zs : List Int} (h : Lib.TabIs Tryd.prog w n k zs) (hb : Below w.heap.size w w') : Lib.TabIs Tryd.prog w' n k zs := Lib.tabBelow_of_tabIs h w' hb

set_option maxRecDepth 100000 in
set_option maxHeartbeats 1000000 in
theorem readN_ok (s : ByteArray) (hs : s.size ≤ 1099511627776) (v : Int) (h : Lib.parseIntB 64 s.data.toList = .ok v) (w : World) (htab : Lib.TabIs Tryd.prog w "internal/strconv.uint64pow10" .u64 Lib.pow10Tab) :
    Calls Tryd.prog 30 #[.string s] w fun e w' => e = .returned (.tuple #[.int .i64 v, .bool ((⟨(Lib.itoa v).toArray⟩ : ByteArray) == s)]) ∧ Below w.heap.size w w' := by
  have hv := Lib.parseIntB_bounds h
  have h1 : -9223372036854775808 ≤ v := by have := hv.1; simpa using this
  have h2 : v ≤ 9223372036854775807 := by have := hv.2; simp at this; omega
  go_enter Tryd.func30, Tryd.ntmps30
  go_wp2_with (go_at_call 47; refine (Tryd.strconv_ParseInt_10_at64_ok s (by omega) v h _).mono ?_; rintro e w1 ⟨rfl, hw⟩)
  have hb : Below w.heap.size w w1 := by
    rcases hw with rfl | ⟨t, rfl⟩
    · exact Below.refl _ _
    · exact Lib.bytesWorld_below _ _ _
  have htab1 := tab_below htab hb
  go_wp2_with (go_at_call 26; refine (decimal_calls v h1 h2 _ htab1).mono ?_; rintro e w2 ⟨rfl, hb2⟩)
  go_ret2
  refine ⟨?_, hb.trans (hb2.mono hb.size)⟩
  rw [beq_toListBytes ⟨(Lib.itoa v).toArray⟩ s, Lib.toList_data ⟨(Lib.itoa v).toArray⟩]
  rfl

set_option maxRecDepth 100000 in
set_option maxHeartbeats 1000000 in
theorem readN_syntax (s : ByteArray) (hs : s.size ≤ 1099511627776) (h : ∀ v, Lib.parseIntB 64 s.data.toList ≠ .ok v) (h2 : Lib.parseIntB 64 s.data.toList ≠ .range) (w : World) (tp : TypeId) (p : Value) (hvar : w.var? Tryd.prog "strconv.ErrSyntax" = some #[.iface tp p]) :
    Calls Tryd.prog 30 #[.string s] w fun e w' => e = .returned (.tuple #[.int .i64 0, .bool false]) ∧ Below w.heap.size w w' := by
  go_enter Tryd.func30, Tryd.ntmps30
  go_wp2_with (go_at_call 47; refine (Tryd.strconv_ParseInt_10_at64_syntax_var s (by omega) h h2 tp p _ hvar).mono ?_; rintro e w1 ⟨N, rfl, hN, hcell, hb⟩)
  go_ret2
  exact ⟨rfl, hb⟩

set_option maxRecDepth 100000 in
set_option maxHeartbeats 1000000 in
theorem readN_range (s : ByteArray) (hs : s.size ≤ 1099511627776) (h : Lib.parseIntB 64 s.data.toList = .range) (w : World) (tp : TypeId) (p : Value) (hvar : w.var? Tryd.prog "strconv.ErrRange" = some #[.iface tp p]) :
    Calls Tryd.prog 30 #[.string s] w fun e w' => e = .returned (.tuple #[.int .i64 (Lib.intSat 64 s.data.toList), .bool false]) ∧ Below w.heap.size w w' := by
  go_enter Tryd.func30, Tryd.ntmps30
  go_wp2_with (go_at_call 47; refine (Tryd.strconv_ParseInt_10_at64_range_var s (by omega) h tp p _ hvar).mono ?_; rintro e w1 ⟨N, rfl, hN, hcell, hb⟩)
  go_ret2
  refine ⟨?_, hb⟩
  simp

theorem readN_ac (s : ByteArray) (r : Int × Bool) (h : readN s = some r) : ACg GK Tryd.prog 30 [.d (.s (.string s))] [] (fun res H' => res = [iV r.1, bV r.2] ∧ H' = []) := by
  unfold readN at h
  split at h
  case isFalse => cases h
  rename_i hs
  cases h
  intro F w rb vs hgk hh hvs
  obtain ⟨x, rfl⟩ : ∃ x, vs = #[x] := by
    have := hvs.1
    cases vs with
    | mk l => match l, this with
      | [x], _ => exact ⟨x, rfl⟩
  have h0 := hvs.2 0 _ x rfl rfl
  obtain ⟨_, ⟨tp, p, k1⟩, ⟨tq, q, k2⟩, k3⟩ := hgk
  have fin : ∀ (v : Int) (b : Bool) (w' : World), Below w.heap.size w w' → ∃ res H' r' y, (Ending.returned (.tuple #[.int .i64 v, .bool b])) = .returned y ∧ (res = [iV v, bV b] ∧ H' = []) ∧ HRel F w' H' r' ∧ RepRes F w' H' r' res y ∧ Step w [] rb w' H' r' := fun v b w' hb => by
    refine ⟨_, [], rb, _, rfl, ⟨rfl, rfl⟩, hrel_of_below hh hb, ⟨#[.int .i64 v, .bool b], rfl, rfl, fun i c u h1 h2 => ?_⟩, step_of_below hh hb⟩
    match i, h1, h2 with
    | 0, h1, h2 => simp at h1 h2; subst h1; subst h2; exact .d _ _ (.s _)
    | 1, h1, h2 => simp at h1 h2; subst h1; subst h2; exact .d _ _ (.s _)
    | i + 2, h1, h2 => simp at h1
  cases h0 with
  | d _ _ hd =>
    cases hd
    cases hp : Lib.parseIntB 64 s.data.toList with
    | ok v => exact (readN_ok s hs v hp w k3).mono fun e w' ⟨he, hb⟩ => he ▸ fin _ _ w' hb
    | range => exact (readN_range s hs hp w tq q k2).mono fun e w' ⟨he, hb⟩ => he ▸ fin _ _ w' hb
    | _ => exact (readN_syntax s hs (fun v q => by rw [hp] at q; cases q) (fun q => by rw [hp] at q; cases q) w tp p k1).mono fun e w' ⟨he, hb⟩ => he ▸ fin _ _ w' hb
end Go.Proofs.YtmmiokljmfkoiaaDoor
