/- Plain functions of the program and that the program computes them: printed by the own tool gen.py. No conditions. -/
import Derived.Test.YtkonbaijkcaehaaGreatDoorGen24b
set_option linter.unusedVariables false
set_option linter.unusedSimpArgs false
namespace Go.Proofs.YtkonbaijkcaehaaGreatDoor
open Go Go.RowKit Ab

-- loop.example/g01362/laws.FnGameMoves
def laws_FnGameMoves_l0 (k : Nat) (r3 : Int × List Int) (r4 : Option (List Int) × Int) (r6 : Option (List Int) × Int) (r10 : Int × Int) : Nat → Int → Option (Sum (Unit) (Bool))
 | 0, _ => none
 | k0 + 1, x42 => (if decide (x42 < ((r6.1.getD []).length : Int)) then ((if 0 ≤ x42 ∧ x42 < ((r6.1.getD []).length : Int) then (impl_MakeMove k r3.1 r3.2 ((r6.1.getD []).getD x42.toNat 0)).bind fun r45 => (impl_ResultOf k r3.1 r45.1).bind fun r46 => ((if !decide (r45.2 = 0) then some true else (if !decide (r46.2 = 0) then some true else (impl_IsPosition k r3.1 r45.1).bind fun r49 => (if !r49 then some true else (if 0 ≤ x42 ∧ x42 < ((r6.1.getD []).length : Int) then (laws_hasInt k (r4.1.getD []) ((r6.1.getD []).getD x42.toNat 0)).bind fun r52 => some (!(r52 == !decide (r46.1 = w64 (1 - r10.1)))) else none)))) : Option (Bool)).bind fun s53 => (if s53 then (some (.inr false)).bind fun rr => some (.inr rr) else some (.inl ())) else none) : Option (Sum (Unit) (Sum (Unit) (Bool)))).bind fun os55 => (match os55 with | .inl s55 => laws_FnGameMoves_l0 k r3 r4 r6 r10 k0 (w64 (x42 + 1)) | .inr rr => some rr) else some (.inl ()))
def laws_FnGameMoves_l1 (k : Nat) (r3 : Int × List Int) (r4 : Option (List Int) × Int) (r6 : Option (List Int) × Int) (r10 : Int × Int) : Nat → Int → Option (Sum (Unit) (Bool))
 | 0, _ => none
 | k1 + 1, x63 => (if decide (x63 < ((r6.1.getD []).length : Int)) then ((if 0 ≤ x63 ∧ x63 < ((r6.1.getD []).length : Int) then (impl_MakeMove k r3.1 r3.2 ((r6.1.getD []).getD x63.toNat 0)).bind fun r66 => (impl_ResultOf k r3.1 r66.1).bind fun r67 => ((if !decide (r66.2 = 0) then some true else (if !decide (r67.2 = 0) then some true else (impl_IsPosition k r3.1 r66.1).bind fun r70 => (if !r70 then some true else (if 0 ≤ x63 ∧ x63 < ((r6.1.getD []).length : Int) then (laws_hasInt k (r4.1.getD []) ((r6.1.getD []).getD x63.toNat 0)).bind fun r73 => some (!(r73 == !decide (r67.1 = w64 (1 - r10.1)))) else none)))) : Option (Bool)).bind fun s74 => (if s74 then (some (.inr false)).bind fun rr => some (.inr rr) else some (.inl ())) else none) : Option (Sum (Unit) (Sum (Unit) (Bool)))).bind fun os76 => (match os76 with | .inl s76 => laws_FnGameMoves_l1 k r3 r4 r6 r10 k1 (w64 (x63 + 1)) | .inr rr => some rr) else some (.inl ()))
def laws_FnGameMoves (k : Nat) (p0 : List UInt8) : Option (Bool) :=
 (if (laws_big p0) then some true else (spec_DrawSafeMoves k p0).bind fun r3 => (impl_SafeMoves k r3.1 r3.2).bind fun r4 => (spec_SafeMoves k r3.1 r3.2).bind fun r5 => (impl_MovesOf k r3.1 r3.2).bind fun r6 => (spec_MovesOf k r3.1 r3.2).bind fun r7 => (impl_ResultOf k r3.1 r3.2).bind fun r8 => (spec_ResultOf k r3.1 r3.2).bind fun r9 => (impl_MoverOf k r3.1 r3.2).bind fun r10 => (spec_MoverOf k r3.1 r3.2).bind fun r11 => (impl_PositionText k r3.1 r3.2).bind fun r12 => (spec_PositionText k r3.1 r3.2).bind fun r13 => (((if !decide (r4.2 = r5.2) then some true else (laws_likeInts k (r4.1.getD []) r5.1).bind fun r15 => (if !r15 then some true else (if !decide (r6.2 = r7.2) then some true else (laws_likeInts k (r6.1.getD []) r7.1).bind fun r18 => (if !r18 then some true else (if !decide (r8.2 = r9.2) then some true else (if !decide (r8.1 = r9.1) then some true else (if !decide (r10.2 = r11.2) then some true else (if !decide (r10.1 = r11.1) then some true else (if !decide (r12.2 = r13.2) then some true else (if !(r12.1 == r13.1) then some true else (impl_IsPosition k r3.1 r3.2).bind fun r26 => (spec_IsPosition k r3.1 r3.2).bind fun r27 => some (!(r26 == r27)))))))))))) : Option (Bool)).bind fun s28 => (if s28 then some (.inr false) else some (.inl ())) : Option (Sum (Unit) (Bool))).bind fun os30 => (match os30 with | .inl s30 => ((if decide (r4.2 = 0) then (impl_ParsePosition k r12.1).bind fun r32 => (match r32.2.1 with | none => (((if !decide (r32.2.2 = 0) then some true else (if !decide (r32.1 = r3.1) then some true else (laws_likeInts k ([]) r3.2).bind fun r37 => (if !r37 then some true else some (!(decide (0 < ((r6.1.getD []).length : Int)) == decide (r8.1 = (-1))))))) : Option (Bool)).bind fun s39 => (if s39 then (some (.inr false)).bind fun rr => some (.inr rr) else some (.inl ())) : Option (Sum (Unit) (Sum (Unit) (Bool)))).bind fun os41 => (match os41 with | .inl s41 => laws_FnGameMoves_l0 k r3 r4 r6 r10 k 0 | .inr rr => some rr) | some l33 => (((if !decide (r32.2.2 = 0) then some true else (if !decide (r32.1 = r3.1) then some true else (laws_likeInts k l33 r3.2).bind fun r58 => (if !r58 then some true else some (!(decide (0 < ((r6.1.getD []).length : Int)) == decide (r8.1 = (-1))))))) : Option (Bool)).bind fun s60 => (if s60 then (some (.inr false)).bind fun rr => some (.inr rr) else some (.inl ())) : Option (Sum (Unit) (Sum (Unit) (Bool)))).bind fun os62 => (match os62 with | .inl s62 => laws_FnGameMoves_l1 k r3 r4 r6 r10 k 0 | .inr rr => some rr)) else some (.inl ())) : Option (Sum (Unit) (Bool))).bind fun os77 => (match os77 with | .inl s77 => (spec_DrawMakeMove k p0).bind fun r78 => (impl_MakeMove k r78.1 r78.2.1 r78.2.2).bind fun r79 => (spec_MakeMove k r78.1 r78.2.1 r78.2.2).bind fun r80 => (spec_DrawParsePosition k p0).bind fun r81 => (impl_ParsePosition k r81).bind fun r82 => (match r82.2.1 with | none => (spec_ParsePosition k r81).bind fun r85 => ((if decide (r79.2 = r80.2) then (laws_likeInts k r79.1 r80.1).bind fun r87 => (if r87 then (if decide (r82.2.2 = r85.2.2) then (if decide (r82.1 = r85.1) then (laws_likeInts k ([]) r85.2.1).bind fun r91 => some r91 else some false) else some false) else some false) else some false) : Option (Bool)).bind fun s92 => some s92 | some l83 => (spec_ParsePosition k r81).bind fun r93 => ((if decide (r79.2 = r80.2) then (laws_likeInts k r79.1 r80.1).bind fun r95 => (if r95 then (if decide (r82.2.2 = r93.2.2) then (if decide (r82.1 = r93.1) then (laws_likeInts k l83 r93.2.1).bind fun r99 => some r99 else some false) else some false) else some false) else some false) : Option (Bool)).bind fun s100 => some s100) | .inr rr => some rr) | .inr rr => some rr))
set_option maxRecDepth 100000 in
theorem laws_FnGameMoves_ac (k : Nat) (p0 : List UInt8) (r : Bool) (h : laws_FnGameMoves k p0 = some r) : ACg GK Tryz.prog 4 [.d (.sl none (bysD p0))] [] (fun res H' => res = [bV r] ∧ H' = []) := by
 refine AC_of_bodyG gok true Tryz.func4 rfl Tryz.ntmps4 (rvs := [.tmp 2]) rfl rfl (fun G hG hgl => ?_)
 have hm : G.H.length = 0 := by rw [hG]; rfl
 have hz : zeroG G.H = true := by rw [hG]; rfl
 unfold laws_FnGameMoves at h
 refine kR ?_
 refine kN 1 rfl ?_
 refine ACode_seq ?_
 refine kR ?_
 refine kM 1 rfl ?_
 refine kC [] 48 (bV (laws_big p0)) [] rfl Tryz.call5 rfl rfl (laws_big_ac p0) rfl ?_
 refine AOps_nil ?_
 refine kI h rfl (fun h _ => ?_) (fun h _ => ?_)
 ·refine kR ?_
  refine kN 1 rfl ?_
  refine ACode_ret ?_
  cases h
  exact ⟨_, _, fun r a w h => ⟨r, h⟩, _, _, [], _, (.cons (ResV_tmp _ _ rfl) .nil), rfl, rfl, rfl, rfl, rfl⟩
 refine ACode_skip ?_
 refine kR ?_
 refine kM 1 rfl ?_
 obtain ⟨r3, hr3, h⟩ := bindO h
 refine kC [] 51 (.tup [iV r3.1, .vec 0 0]) [.vec 0 (intsD r3.2)] rfl Tryz.call37 rfl rfl (spec_DrawSafeMoves_ac k p0 _ hr3) rfl ?_
 refine kN 5 rfl ?_
 refine kR ?_
 refine kM 2 rfl ?_
 refine AOps_freezeL [4, 53, 56] 0 0 _ (allc (rfl) (allc (rfl) (allc (rfl) (fun _ h => nomatch h)))) rfl ?_
 obtain ⟨r4, hr4, h⟩ := bindO h
 refine kC [] 57 (.tup [.d (.sl none (intsD (r4.1.getD []))), iV r4.2]) [.gone] rfl Tryz.call38 rfl rfl (AC_frz rfl (frz_cons frz_nil) (impl_SafeMoves_ac k r3.1 r3.2 _ hr4)) rfl ?_
 refine kN 5 rfl ?_
 refine kR ?_
 refine kM 2 rfl ?_
 obtain ⟨r5, hr5, h⟩ := bindO h
 refine kC [] 63 (.tup [.d (.sl none (intsD r5.1)), iV r5.2]) [.gone] rfl Tryz.call39 rfl rfl (spec_SafeMoves_ac k r3.1 r3.2 _ hr5) rfl ?_
 refine kN 5 rfl ?_
 refine kR ?_
 refine kM 2 rfl ?_
 obtain ⟨r6, hr6, h⟩ := bindO h
 refine kC [] 69 (.tup [.d (.sl none (intsD (r6.1.getD []))), iV r6.2]) [.gone] rfl Tryz.call40 rfl rfl (AC_frz rfl (frz_cons frz_nil) (impl_MovesOf_ac k r3.1 r3.2 _ hr6)) rfl ?_
 refine kN 5 rfl ?_
 refine kR ?_
 refine kM 2 rfl ?_
 obtain ⟨r7, hr7, h⟩ := bindO h
 refine kC [] 75 (.tup [.d (.sl none (intsD r7.1)), iV r7.2]) [.gone] rfl Tryz.call41 rfl rfl (spec_MovesOf_ac k r3.1 r3.2 _ hr7) rfl ?_
 refine kN 5 rfl ?_
 refine kR ?_
 refine kM 2 rfl ?_
 obtain ⟨r8, hr8, h⟩ := bindO h
 refine kC [] 81 (.tup [iV r8.1, iV r8.2]) [.gone] rfl Tryz.call42 rfl rfl (impl_ResultOf_ac k r3.1 r3.2 _ hr8) rfl ?_
 refine kN 5 rfl ?_
 refine kR ?_
 refine kM 2 rfl ?_
 obtain ⟨r9, hr9, h⟩ := bindO h
 refine kC [] 87 (.tup [iV r9.1, iV r9.2]) [.gone] rfl Tryz.call43 rfl rfl (spec_ResultOf_ac k r3.1 r3.2 _ hr9) rfl ?_
 refine kN 5 rfl ?_
 refine kR ?_
 refine kM 2 rfl ?_
 obtain ⟨r10, hr10, h⟩ := bindO h
 refine kC [] 93 (.tup [iV r10.1, iV r10.2]) [.gone] rfl Tryz.call44 rfl rfl (impl_MoverOf_ac k r3.1 r3.2 _ hr10) rfl ?_
 refine kN 5 rfl ?_
 refine kR ?_
 refine kM 2 rfl ?_
 obtain ⟨r11, hr11, h⟩ := bindO h
 refine kC [] 99 (.tup [iV r11.1, iV r11.2]) [.gone] rfl Tryz.call45 rfl rfl (spec_MoverOf_ac k r3.1 r3.2 _ hr11) rfl ?_
 refine kN 5 rfl ?_
 refine kR ?_
 refine kM 2 rfl ?_
 obtain ⟨r12, hr12, h⟩ := bindO h
 refine kC [] 105 (.tup [.d (.s (.string r12.1)), iV r12.2]) [.gone] rfl Tryz.call46 rfl rfl (impl_PositionText_ac k r3.1 r3.2 _ hr12) rfl ?_
 refine kN 5 rfl ?_
 refine kR ?_
 refine kM 2 rfl ?_
 obtain ⟨r13, hr13, h⟩ := bindO h
 refine kC [] 111 (.tup [.d (.s (.string r13.1)), iV r13.2]) [.gone] rfl Tryz.call47 rfl rfl (spec_PositionText_ac k r3.1 r3.2 _ hr13) rfl ?_
 refine kN 5 rfl ?_
 refine kO (fun s30 => [(0, .d (.sl none (bysD p0))), (3, iV r3.1), (4, .d (.sl none (intsD r3.2))), (5, .d (.sl none (intsD (r4.1.getD [])))), (6, iV r4.2), (9, .d (.sl none (intsD (r6.1.getD [])))), (13, iV r8.1), (17, iV r10.1), (21, .d (.s (.string r12.1)))]) (fun s30 => []) h (fun os30 h hks30 => ?_) (fun s30 h => ?_)
 ·refine kB (fun s28 => [(0, .d (.sl none (bysD p0))), (3, iV r3.1), (4, .d (.sl none (intsD r3.2))), (5, .d (.sl none (intsD (r4.1.getD [])))), (6, iV r4.2), (9, .d (.sl none (intsD (r6.1.getD [])))), (13, iV r8.1), (17, iV r10.1), (21, .d (.s (.string r12.1))), (172, bV s28)]) (fun s28 => []) h (fun s28 h => ?_) (fun s28 h => ?_)
  ·refine (ACode_region ?_)
   refine kM 2 rfl ?_
   refine AOps_q 116 _ rfl rfl rfl (QOp_neq _ _ _ _ _ _ _ rfl rfl rfl) ?_
   refine kM 1 rfl ?_
   refine AOps_case 117 _ rfl (fun hb14 => ?_) (fun hb14 => ?_)
   ·have h := iteT hb14 h
    refine AOps_skip 118 rfl rfl rfl ?_
    refine AOps_skip 119 rfl rfl rfl ?_
    refine AOps_skip 120 rfl rfl rfl ?_
    refine AOps_skip 121 rfl rfl rfl ?_
    refine kM 2 rfl ?_
    refine AOps_skip 124 rfl rfl rfl ?_
    refine AOps_skip 125 rfl rfl rfl ?_
    refine AOps_skip 126 rfl rfl rfl ?_
    refine kM 2 rfl ?_
    refine AOps_skip 129 rfl rfl rfl ?_
    refine AOps_skip 130 rfl rfl rfl ?_
    refine AOps_skip 131 rfl rfl rfl ?_
    refine AOps_skip 132 rfl rfl rfl ?_
    refine kM 2 rfl ?_
    refine AOps_skip 135 rfl rfl rfl ?_
    refine AOps_skip 136 rfl rfl rfl ?_
    refine AOps_skip 137 rfl rfl rfl ?_
    refine kM 2 rfl ?_
    refine AOps_skip 140 rfl rfl rfl ?_
    refine AOps_skip 141 rfl rfl rfl ?_
    refine AOps_skip 142 rfl rfl rfl ?_
    refine kM 2 rfl ?_
    refine AOps_skip 145 rfl rfl rfl ?_
    refine AOps_skip 146 rfl rfl rfl ?_
    refine AOps_skip 147 rfl rfl rfl ?_
    refine kM 2 rfl ?_
    refine AOps_skip 150 rfl rfl rfl ?_
    refine AOps_skip 151 rfl rfl rfl ?_
    refine AOps_skip 152 rfl rfl rfl ?_
    refine kM 2 rfl ?_
    refine AOps_skip 155 rfl rfl rfl ?_
    refine AOps_skip 156 rfl rfl rfl ?_
    refine AOps_skip 157 rfl rfl rfl ?_
    refine kM 2 rfl ?_
    refine AOps_skip 160 rfl rfl rfl ?_
    refine AOps_skip 161 rfl rfl rfl ?_
    refine AOps_skip 162 rfl rfl rfl ?_
    refine kM 2 rfl ?_
    refine AOps_skip 165 rfl rfl rfl ?_
    refine AOps_skip 166 rfl rfl rfl ?_
    refine AOps_skip 167 rfl rfl rfl ?_
    refine AOps_skip 168 rfl rfl rfl ?_
    refine AOps_skip 169 rfl rfl rfl ?_
    refine AOps_skip 170 rfl rfl rfl ?_
    refine AOps_skip 171 rfl rfl rfl ?_
    refine kN 1 rfl ?_
    cases h
    exact Weak_keep 0 hm [0, 3, 4, 5, 6, 9, 13, 17, 21, 172] [] _ _ rfl rfl rfl
   have h := iteF hb14 h
   refine kM 2 rfl ?_
   obtain ⟨r15, hr15, h⟩ := bindO h
   refine kC [] 120 (bV r15) [.gone] rfl Tryz.call20 rfl rfl (laws_likeInts_ac k (r4.1.getD []) r5.1 _ hr15) rfl ?_
   refine AOps_q 121 _ rfl rfl rfl (QOp_not _ _ _ rfl rfl) ?_
   refine kM 2 rfl ?_
   refine AOps_case 123 _ rfl (fun hb16 => ?_) (fun hb16 => ?_)
   ·have h := iteT hb16 h
    refine AOps_skip 124 rfl rfl rfl ?_
    refine AOps_skip 125 rfl rfl rfl ?_
    refine AOps_skip 126 rfl rfl rfl ?_
    refine kM 2 rfl ?_
    refine AOps_skip 129 rfl rfl rfl ?_
    refine AOps_skip 130 rfl rfl rfl ?_
    refine AOps_skip 131 rfl rfl rfl ?_
    refine AOps_skip 132 rfl rfl rfl ?_
    refine kM 2 rfl ?_
    refine AOps_skip 135 rfl rfl rfl ?_
    refine AOps_skip 136 rfl rfl rfl ?_
    refine AOps_skip 137 rfl rfl rfl ?_
    refine kM 2 rfl ?_
    refine AOps_skip 140 rfl rfl rfl ?_
    refine AOps_skip 141 rfl rfl rfl ?_
    refine AOps_skip 142 rfl rfl rfl ?_
    refine kM 2 rfl ?_
    refine AOps_skip 145 rfl rfl rfl ?_
    refine AOps_skip 146 rfl rfl rfl ?_
    refine AOps_skip 147 rfl rfl rfl ?_
    refine kM 2 rfl ?_
    refine AOps_skip 150 rfl rfl rfl ?_
    refine AOps_skip 151 rfl rfl rfl ?_
    refine AOps_skip 152 rfl rfl rfl ?_
    refine kM 2 rfl ?_
    refine AOps_skip 155 rfl rfl rfl ?_
    refine AOps_skip 156 rfl rfl rfl ?_
    refine AOps_skip 157 rfl rfl rfl ?_
    refine kM 2 rfl ?_
    refine AOps_skip 160 rfl rfl rfl ?_
    refine AOps_skip 161 rfl rfl rfl ?_
    refine AOps_skip 162 rfl rfl rfl ?_
    refine kM 2 rfl ?_
    refine AOps_skip 165 rfl rfl rfl ?_
    refine AOps_skip 166 rfl rfl rfl ?_
    refine AOps_skip 167 rfl rfl rfl ?_
    refine AOps_skip 168 rfl rfl rfl ?_
    refine AOps_skip 169 rfl rfl rfl ?_
    refine AOps_skip 170 rfl rfl rfl ?_
    refine AOps_skip 171 rfl rfl rfl ?_
    refine kN 1 rfl ?_
    cases h
    exact Weak_keep 0 hm [0, 3, 4, 5, 6, 9, 13, 17, 21, 172] [] _ _ rfl rfl rfl
   have h := iteF hb16 h
   refine kM 2 rfl ?_
   refine AOps_q 126 _ rfl rfl rfl (QOp_neq _ _ _ _ _ _ _ rfl rfl rfl) ?_
   refine kM 2 rfl ?_
   refine AOps_case 128 _ rfl (fun hb17 => ?_) (fun hb17 => ?_)
   ·have h := iteT hb17 h
    refine AOps_skip 129 rfl rfl rfl ?_
    refine AOps_skip 130 rfl rfl rfl ?_
    refine AOps_skip 131 rfl rfl rfl ?_
    refine AOps_skip 132 rfl rfl rfl ?_
    refine kM 2 rfl ?_
    refine AOps_skip 135 rfl rfl rfl ?_
    refine AOps_skip 136 rfl rfl rfl ?_
    refine AOps_skip 137 rfl rfl rfl ?_
    refine kM 2 rfl ?_
    refine AOps_skip 140 rfl rfl rfl ?_
    refine AOps_skip 141 rfl rfl rfl ?_
    refine AOps_skip 142 rfl rfl rfl ?_
    refine kM 2 rfl ?_
    refine AOps_skip 145 rfl rfl rfl ?_
    refine AOps_skip 146 rfl rfl rfl ?_
    refine AOps_skip 147 rfl rfl rfl ?_
    refine kM 2 rfl ?_
    refine AOps_skip 150 rfl rfl rfl ?_
    refine AOps_skip 151 rfl rfl rfl ?_
    refine AOps_skip 152 rfl rfl rfl ?_
    refine kM 2 rfl ?_
    refine AOps_skip 155 rfl rfl rfl ?_
    refine AOps_skip 156 rfl rfl rfl ?_
    refine AOps_skip 157 rfl rfl rfl ?_
    refine kM 2 rfl ?_
    refine AOps_skip 160 rfl rfl rfl ?_
    refine AOps_skip 161 rfl rfl rfl ?_
    refine AOps_skip 162 rfl rfl rfl ?_
    refine kM 2 rfl ?_
    refine AOps_skip 165 rfl rfl rfl ?_
    refine AOps_skip 166 rfl rfl rfl ?_
    refine AOps_skip 167 rfl rfl rfl ?_
    refine AOps_skip 168 rfl rfl rfl ?_
    refine AOps_skip 169 rfl rfl rfl ?_
    refine AOps_skip 170 rfl rfl rfl ?_
    refine AOps_skip 171 rfl rfl rfl ?_
    refine kN 1 rfl ?_
    cases h
    exact Weak_keep 0 hm [0, 3, 4, 5, 6, 9, 13, 17, 21, 172] [] _ _ rfl rfl rfl
   have h := iteF hb17 h
   refine kM 2 rfl ?_
   obtain ⟨r18, hr18, h⟩ := bindO h
   refine kC [] 131 (bV r18) [.gone] rfl Tryz.call20 rfl rfl (laws_likeInts_ac k (r6.1.getD []) r7.1 _ hr18) rfl ?_
   refine AOps_q 132 _ rfl rfl rfl (QOp_not _ _ _ rfl rfl) ?_
   refine kM 2 rfl ?_
   refine AOps_case 134 _ rfl (fun hb19 => ?_) (fun hb19 => ?_)
   ·have h := iteT hb19 h
    refine AOps_skip 135 rfl rfl rfl ?_
    refine AOps_skip 136 rfl rfl rfl ?_
    refine AOps_skip 137 rfl rfl rfl ?_
    refine kM 2 rfl ?_
    refine AOps_skip 140 rfl rfl rfl ?_
    refine AOps_skip 141 rfl rfl rfl ?_
    refine AOps_skip 142 rfl rfl rfl ?_
    refine kM 2 rfl ?_
    refine AOps_skip 145 rfl rfl rfl ?_
    refine AOps_skip 146 rfl rfl rfl ?_
    refine AOps_skip 147 rfl rfl rfl ?_
    refine kM 2 rfl ?_
    refine AOps_skip 150 rfl rfl rfl ?_
    refine AOps_skip 151 rfl rfl rfl ?_
    refine AOps_skip 152 rfl rfl rfl ?_
    refine kM 2 rfl ?_
    refine AOps_skip 155 rfl rfl rfl ?_
    refine AOps_skip 156 rfl rfl rfl ?_
    refine AOps_skip 157 rfl rfl rfl ?_
    refine kM 2 rfl ?_
    refine AOps_skip 160 rfl rfl rfl ?_
    refine AOps_skip 161 rfl rfl rfl ?_
    refine AOps_skip 162 rfl rfl rfl ?_
    refine kM 2 rfl ?_
    refine AOps_skip 165 rfl rfl rfl ?_
    refine AOps_skip 166 rfl rfl rfl ?_
    refine AOps_skip 167 rfl rfl rfl ?_
    refine AOps_skip 168 rfl rfl rfl ?_
    refine AOps_skip 169 rfl rfl rfl ?_
    refine AOps_skip 170 rfl rfl rfl ?_
    refine AOps_skip 171 rfl rfl rfl ?_
    refine kN 1 rfl ?_
    cases h
    exact Weak_keep 0 hm [0, 3, 4, 5, 6, 9, 13, 17, 21, 172] [] _ _ rfl rfl rfl
   have h := iteF hb19 h
   refine kM 2 rfl ?_
   refine AOps_q 137 _ rfl rfl rfl (QOp_neq _ _ _ _ _ _ _ rfl rfl rfl) ?_
   refine kM 2 rfl ?_
   refine AOps_case 139 _ rfl (fun hb20 => ?_) (fun hb20 => ?_)
   ·have h := iteT hb20 h
    refine AOps_skip 140 rfl rfl rfl ?_
    refine AOps_skip 141 rfl rfl rfl ?_
    refine AOps_skip 142 rfl rfl rfl ?_
    refine kM 2 rfl ?_
    refine AOps_skip 145 rfl rfl rfl ?_
    refine AOps_skip 146 rfl rfl rfl ?_
    refine AOps_skip 147 rfl rfl rfl ?_
    refine kM 2 rfl ?_
    refine AOps_skip 150 rfl rfl rfl ?_
    refine AOps_skip 151 rfl rfl rfl ?_
    refine AOps_skip 152 rfl rfl rfl ?_
    refine kM 2 rfl ?_
    refine AOps_skip 155 rfl rfl rfl ?_
    refine AOps_skip 156 rfl rfl rfl ?_
    refine AOps_skip 157 rfl rfl rfl ?_
    refine kM 2 rfl ?_
    refine AOps_skip 160 rfl rfl rfl ?_
    refine AOps_skip 161 rfl rfl rfl ?_
    refine AOps_skip 162 rfl rfl rfl ?_
    refine kM 2 rfl ?_
    refine AOps_skip 165 rfl rfl rfl ?_
    refine AOps_skip 166 rfl rfl rfl ?_
    refine AOps_skip 167 rfl rfl rfl ?_
    refine AOps_skip 168 rfl rfl rfl ?_
    refine AOps_skip 169 rfl rfl rfl ?_
    refine AOps_skip 170 rfl rfl rfl ?_
    refine AOps_skip 171 rfl rfl rfl ?_
    refine kN 1 rfl ?_
    cases h
    exact Weak_keep 0 hm [0, 3, 4, 5, 6, 9, 13, 17, 21, 172] [] _ _ rfl rfl rfl
   have h := iteF hb20 h
   refine kM 2 rfl ?_
   refine AOps_q 142 _ rfl rfl rfl (QOp_neq _ _ _ _ _ _ _ rfl rfl rfl) ?_
   refine kM 2 rfl ?_
   refine AOps_case 144 _ rfl (fun hb21 => ?_) (fun hb21 => ?_)
   ·have h := iteT hb21 h
    refine AOps_skip 145 rfl rfl rfl ?_
    refine AOps_skip 146 rfl rfl rfl ?_
    refine AOps_skip 147 rfl rfl rfl ?_
    refine kM 2 rfl ?_
    refine AOps_skip 150 rfl rfl rfl ?_
    refine AOps_skip 151 rfl rfl rfl ?_
    refine AOps_skip 152 rfl rfl rfl ?_
    refine kM 2 rfl ?_
    refine AOps_skip 155 rfl rfl rfl ?_
    refine AOps_skip 156 rfl rfl rfl ?_
    refine AOps_skip 157 rfl rfl rfl ?_
    refine kM 2 rfl ?_
    refine AOps_skip 160 rfl rfl rfl ?_
    refine AOps_skip 161 rfl rfl rfl ?_
    refine AOps_skip 162 rfl rfl rfl ?_
    refine kM 2 rfl ?_
    refine AOps_skip 165 rfl rfl rfl ?_
    refine AOps_skip 166 rfl rfl rfl ?_
    refine AOps_skip 167 rfl rfl rfl ?_
    refine AOps_skip 168 rfl rfl rfl ?_
    refine AOps_skip 169 rfl rfl rfl ?_
    refine AOps_skip 170 rfl rfl rfl ?_
    refine AOps_skip 171 rfl rfl rfl ?_
    refine kN 1 rfl ?_
    cases h
    exact Weak_keep 0 hm [0, 3, 4, 5, 6, 9, 13, 17, 21, 172] [] _ _ rfl rfl rfl
   have h := iteF hb21 h
   refine kM 2 rfl ?_
   refine AOps_q 147 _ rfl rfl rfl (QOp_neq _ _ _ _ _ _ _ rfl rfl rfl) ?_
   refine kM 2 rfl ?_
   refine AOps_case 149 _ rfl (fun hb22 => ?_) (fun hb22 => ?_)
   ·have h := iteT hb22 h
    refine AOps_skip 150 rfl rfl rfl ?_
    refine AOps_skip 151 rfl rfl rfl ?_
    refine AOps_skip 152 rfl rfl rfl ?_
    refine kM 2 rfl ?_
    refine AOps_skip 155 rfl rfl rfl ?_
    refine AOps_skip 156 rfl rfl rfl ?_
    refine AOps_skip 157 rfl rfl rfl ?_
    refine kM 2 rfl ?_
    refine AOps_skip 160 rfl rfl rfl ?_
    refine AOps_skip 161 rfl rfl rfl ?_
    refine AOps_skip 162 rfl rfl rfl ?_
    refine kM 2 rfl ?_
    refine AOps_skip 165 rfl rfl rfl ?_
    refine AOps_skip 166 rfl rfl rfl ?_
    refine AOps_skip 167 rfl rfl rfl ?_
    refine AOps_skip 168 rfl rfl rfl ?_
    refine AOps_skip 169 rfl rfl rfl ?_
    refine AOps_skip 170 rfl rfl rfl ?_
    refine AOps_skip 171 rfl rfl rfl ?_
    refine kN 1 rfl ?_
    cases h
    exact Weak_keep 0 hm [0, 3, 4, 5, 6, 9, 13, 17, 21, 172] [] _ _ rfl rfl rfl
   have h := iteF hb22 h
   refine kM 2 rfl ?_
   refine AOps_q 152 _ rfl rfl rfl (QOp_neq _ _ _ _ _ _ _ rfl rfl rfl) ?_
   refine kM 2 rfl ?_
   refine AOps_case 154 _ rfl (fun hb23 => ?_) (fun hb23 => ?_)
   ·have h := iteT hb23 h
    refine AOps_skip 155 rfl rfl rfl ?_
    refine AOps_skip 156 rfl rfl rfl ?_
    refine AOps_skip 157 rfl rfl rfl ?_
    refine kM 2 rfl ?_
    refine AOps_skip 160 rfl rfl rfl ?_
    refine AOps_skip 161 rfl rfl rfl ?_
    refine AOps_skip 162 rfl rfl rfl ?_
    refine kM 2 rfl ?_
    refine AOps_skip 165 rfl rfl rfl ?_
    refine AOps_skip 166 rfl rfl rfl ?_
    refine AOps_skip 167 rfl rfl rfl ?_
    refine AOps_skip 168 rfl rfl rfl ?_
    refine AOps_skip 169 rfl rfl rfl ?_
    refine AOps_skip 170 rfl rfl rfl ?_
    refine AOps_skip 171 rfl rfl rfl ?_
    refine kN 1 rfl ?_
    cases h
    exact Weak_keep 0 hm [0, 3, 4, 5, 6, 9, 13, 17, 21, 172] [] _ _ rfl rfl rfl
   have h := iteF hb23 h
   refine kM 2 rfl ?_
   refine AOps_q 157 _ rfl rfl rfl (QOp_neq _ _ _ _ _ _ _ rfl rfl rfl) ?_
   refine kM 2 rfl ?_
   refine AOps_case 159 _ rfl (fun hb24 => ?_) (fun hb24 => ?_)
   ·have h := iteT hb24 h
    refine AOps_skip 160 rfl rfl rfl ?_
    refine AOps_skip 161 rfl rfl rfl ?_
    refine AOps_skip 162 rfl rfl rfl ?_
    refine kM 2 rfl ?_
    refine AOps_skip 165 rfl rfl rfl ?_
    refine AOps_skip 166 rfl rfl rfl ?_
    refine AOps_skip 167 rfl rfl rfl ?_
    refine AOps_skip 168 rfl rfl rfl ?_
    refine AOps_skip 169 rfl rfl rfl ?_
    refine AOps_skip 170 rfl rfl rfl ?_
    refine AOps_skip 171 rfl rfl rfl ?_
    refine kN 1 rfl ?_
    cases h
    exact Weak_keep 0 hm [0, 3, 4, 5, 6, 9, 13, 17, 21, 172] [] _ _ rfl rfl rfl
   have h := iteF hb24 h
   refine kM 2 rfl ?_
   refine AOps_q 162 _ rfl rfl rfl (QOp_sneq _ _ _ _ _ _ rfl rfl rfl Tryz.underlying9) ?_
   refine kM 2 rfl ?_
   refine AOps_case 164 _ rfl (fun hb25 => ?_) (fun hb25 => ?_)
   ·have h := iteT hb25 h
    refine AOps_skip 165 rfl rfl rfl ?_
    refine AOps_skip 166 rfl rfl rfl ?_
    refine AOps_skip 167 rfl rfl rfl ?_
    refine AOps_skip 168 rfl rfl rfl ?_
    refine AOps_skip 169 rfl rfl rfl ?_
    refine AOps_skip 170 rfl rfl rfl ?_
    refine AOps_skip 171 rfl rfl rfl ?_
    refine kN 1 rfl ?_
    cases h
    exact Weak_keep 0 hm [0, 3, 4, 5, 6, 9, 13, 17, 21, 172] [] _ _ rfl rfl rfl
   have h := iteF hb25 h
   refine kM 2 rfl ?_
   obtain ⟨r26, hr26, h⟩ := bindO h
   refine kC [] 167 (bV r26) [.gone] rfl Tryz.call48 rfl rfl (impl_IsPosition_ac k r3.1 r3.2 _ hr26) rfl ?_
   refine kM 2 rfl ?_
   obtain ⟨r27, hr27, h⟩ := bindO h
   refine kC [] 170 (bV r27) [.gone] rfl Tryz.call49 rfl rfl (spec_IsPosition_ac k r3.1 r3.2 _ hr27) rfl ?_
   refine AOps_q 171 _ rfl rfl rfl (QOp_bneq _ _ _ _ _ _ rfl rfl rfl Tryz.underlying4) ?_
   refine kN 1 rfl ?_
   cases h
   exact Weak_keep 0 hm [0, 3, 4, 5, 6, 9, 13, 17, 21, 172] [] _ _ rfl rfl rfl
  refine kI h rfl (fun h _ => ?_) (fun h _ => ?_)
  ·refine kR ?_
   refine kN 1 rfl ?_
   refine ACode_ret ?_
   cases h
   have h := hks30
   cases h
   exact ⟨_, _, fun r a w h => ⟨r, h⟩, _, _, [], _, (.cons (ResV_tmp _ _ rfl) .nil), rfl, rfl, rfl, rfl, rfl⟩
  refine ACode_skip ?_
  cases h
  exact ⟨_, rfl, Weak_keep 0 hm [0, 3, 4, 5, 6, 9, 13, 17, 21] [] _ _ rfl rfl rfl⟩
 refine kO (fun s77 => [(0, .d (.sl none (bysD p0)))]) (fun s77 => []) h (fun os77 h hks77 => ?_) (fun s77 h => ?_)
 ·refine kR ?_
  refine kM 1 rfl ?_
  refine AOps_q 174 _ rfl rfl rfl (QOp_eql _ _ _ _ _ _ _ rfl rfl rfl) ?_
  refine AOps_nil ?_
  refine kI h rfl (fun h _ => ?_) (fun h _ => ?_)
  ·refine kR ?_
   refine kM 1 rfl ?_
   obtain ⟨r32, hr32, h⟩ := bindO h
   refine AOps_callG [] 177 _ _ _ _ _ _ _ _ _ _ rfl rfl rfl rfl rfl rfl rfl Tryz.call50 rfl (nodupB_sound _ rfl) rfl rfl rfl gok hgl (impl_ParsePosition_ac k r12.1 _ hr32) ?_
   revert h
   cases hx34 : r32.2.1 with
   | none =>
    intro h
    rintro _ _ ⟨rfl, rfl⟩
    refine ⟨(fun _ h => nomatch h), (allc (trivial) (allc (trivial) (allc (trivial) (fun _ h => nomatch h)))), AOps_as 177 (v' := .tup [iV r32.1, .d (.sl (some true) []), iV r32.2.2]) (H' := []) rfl rfl ?_⟩
    refine kN 7 rfl ?_
    refine kO (fun s41 => [(0, .d (.sl none (bysD p0))), (3, iV r3.1), (4, .d (.sl none (intsD r3.2))), (5, .d (.sl none (intsD (r4.1.getD [])))), (9, .d (.sl none (intsD (r6.1.getD [])))), (17, iV r10.1)]) (fun s41 => []) h (fun os41 h hks41 => ?_) (fun s41 h => ?_)
    ·refine kB (fun s39 => [(0, .d (.sl none (bysD p0))), (3, iV r3.1), (4, .d (.sl none (intsD r3.2))), (5, .d (.sl none (intsD (r4.1.getD [])))), (9, .d (.sl none (intsD (r6.1.getD [])))), (17, iV r10.1), (201, bV s39)]) (fun s39 => []) h (fun s39 h => ?_) (fun s39 h => ?_)
     ·refine (ACode_region ?_)
      refine kM 1 rfl ?_
      refine AOps_q 182 _ rfl rfl rfl (QOp_neq _ _ _ _ _ _ _ rfl rfl rfl) ?_
      refine kM 1 rfl ?_
      refine AOps_case 183 _ rfl (fun hb35 => ?_) (fun hb35 => ?_)
      ·have h := iteT hb35 h
       refine AOps_skip 184 rfl rfl rfl ?_
       refine AOps_skip 185 rfl rfl rfl ?_
       refine AOps_skip 186 rfl rfl rfl ?_
       refine kM 2 rfl ?_
       refine AOps_skip 189 rfl rfl rfl ?_
       refine AOps_skip 190 rfl rfl rfl ?_
       refine AOps_skip 191 rfl rfl rfl ?_
       refine AOps_skip 192 rfl rfl rfl ?_
       refine kM 2 rfl ?_
       refine AOps_skip 195 rfl rfl rfl ?_
       refine AOps_skip 196 rfl rfl rfl ?_
       refine AOps_skip 197 rfl rfl rfl ?_
       refine AOps_skip 198 rfl rfl rfl ?_
       refine AOps_skip 199 rfl rfl rfl ?_
       refine AOps_skip 200 rfl rfl rfl ?_
       refine kN 1 rfl ?_
       cases h
       exact Weak_keep 0 hm [0, 3, 4, 5, 9, 17, 201] [] _ _ rfl rfl rfl
      have h := iteF hb35 h
      refine kM 2 rfl ?_
      refine AOps_q 186 _ rfl rfl rfl (QOp_neq _ _ _ _ _ _ _ rfl rfl rfl) ?_
      refine kM 2 rfl ?_
      refine AOps_case 188 _ rfl (fun hb36 => ?_) (fun hb36 => ?_)
      ·have h := iteT hb36 h
       refine AOps_skip 189 rfl rfl rfl ?_
       refine AOps_skip 190 rfl rfl rfl ?_
       refine AOps_skip 191 rfl rfl rfl ?_
       refine AOps_skip 192 rfl rfl rfl ?_
       refine kM 2 rfl ?_
       refine AOps_skip 195 rfl rfl rfl ?_
       refine AOps_skip 196 rfl rfl rfl ?_
       refine AOps_skip 197 rfl rfl rfl ?_
       refine AOps_skip 198 rfl rfl rfl ?_
       refine AOps_skip 199 rfl rfl rfl ?_
       refine AOps_skip 200 rfl rfl rfl ?_
       refine kN 1 rfl ?_
       cases h
       exact Weak_keep 0 hm [0, 3, 4, 5, 9, 17, 201] [] _ _ rfl rfl rfl
      have h := iteF hb36 h
      refine kM 2 rfl ?_
      obtain ⟨r37, hr37, h⟩ := bindO h
      refine kC [] 191 (bV r37) [] rfl Tryz.call20 rfl rfl (laws_likeInts_ac k ([]) r3.2 _ hr37) rfl ?_
      refine AOps_q 192 _ rfl rfl rfl (QOp_not _ _ _ rfl rfl) ?_
      refine kM 2 rfl ?_
      refine AOps_case 194 _ rfl (fun hb38 => ?_) (fun hb38 => ?_)
      ·have h := iteT hb38 h
       refine AOps_skip 195 rfl rfl rfl ?_
       refine AOps_skip 196 rfl rfl rfl ?_
       refine AOps_skip 197 rfl rfl rfl ?_
       refine AOps_skip 198 rfl rfl rfl ?_
       refine AOps_skip 199 rfl rfl rfl ?_
       refine AOps_skip 200 rfl rfl rfl ?_
       refine kN 1 rfl ?_
       cases h
       exact Weak_keep 0 hm [0, 3, 4, 5, 9, 17, 201] [] _ _ rfl rfl rfl
      have h := iteF hb38 h
      refine kM 1 rfl ?_
      refine AOps_q 196 _ rfl rfl rfl (QOp_len_sl _ _ _ _ _ _ _ (intsD_length _) rfl rfl rfl rfl Tryz.underlying34 rfl) ?_
      refine AOps_q 197 _ rfl rfl rfl (QOp_gtr _ _ _ _ _ _ _ rfl rfl rfl) ?_
      refine kM 1 rfl ?_
      refine AOps_q 199 _ rfl rfl rfl (QOp_eql _ _ _ _ _ _ _ rfl rfl rfl) ?_
      refine AOps_q 200 _ rfl rfl rfl (QOp_bneq _ _ _ _ _ _ rfl rfl rfl Tryz.underlying4) ?_
      refine kN 1 rfl ?_
      cases h
      exact Weak_keep 0 hm [0, 3, 4, 5, 9, 17, 201] [] _ _ rfl rfl rfl
     refine kI h rfl (fun h _ => ?_) (fun h _ => ?_)
     ·refine kR ?_
      refine kN 1 rfl ?_
      refine ACode_ret ?_
      obtain ⟨rr, hz101, h2⟩ := bindO h
      obtain rfl := Option.some.inj h2
      obtain rfl := Option.some.inj (show some rr = some _ from hks41)
      have h := hz101
      cases h
      have h := hks77
      cases h
      exact ⟨_, _, fun r a w h => ⟨r, h⟩, _, _, [], _, (.cons (ResV_tmp _ _ rfl) .nil), rfl, rfl, rfl, rfl, rfl⟩
     refine ACode_skip ?_
     cases h
     exact ⟨_, rfl, Weak_keep 0 hm [0, 3, 4, 5, 9, 17] [] _ _ rfl rfl rfl⟩
    refine kR ?_
    refine kN 1 rfl ?_
    refine ACode_block ?_
    refine ACode_loopW (fun k0 E H => ∃ (x42 : Int), E = [(0, .d (.sl none (bysD p0))), (3, iV r3.1), (4, .d (.sl none (intsD r3.2))), (5, .d (.sl none (intsD (r4.1.getD [])))), (9, .d (.sl none (intsD (r6.1.getD [])))), (17, iV r10.1), (28, iV x42)] ∧ H = [] ∧ laws_FnGameMoves_l0 k r3 r4 r6 r10 k0 x42 = some os77) k _ _ (Weak_keep 0 hm [0, 3, 4, 5, 9, 17, 28] [] _ _ rfl rfl rfl) ⟨_, rfl, rfl, h⟩ ?_
    clear h
    rintro k0 E H ⟨x42, rfl, rfl, h⟩
    cases k0 with
    | zero => cases (show (none : Option (Sum (Unit) (Bool))) = some _ from h)
    | succ k0 =>
     rw [laws_FnGameMoves_l0] at h
     refine ACode_seq ?_
     refine kR ?_
     refine kM 2 rfl ?_
     refine AOps_q 204 _ rfl rfl rfl (QOp_len_sl _ _ _ _ _ _ _ (intsD_length _) rfl rfl rfl rfl Tryz.underlying34 rfl) ?_
     refine AOps_q 205 _ rfl rfl rfl (QOp_lss _ _ _ _ _ _ _ rfl rfl rfl) ?_
     refine AOps_nil ?_
     refine kI h rfl (fun h _ => ?_) (fun h _ => ?_)
     ·refine ACode_skip ?_
      refine kO (fun s55 => [(0, .d (.sl none (bysD p0))), (3, iV r3.1), (4, .d (.sl none (intsD r3.2))), (5, .d (.sl none (intsD (r4.1.getD [])))), (9, .d (.sl none (intsD (r6.1.getD [])))), (17, iV r10.1), (28, iV x42)]) (fun s55 => []) h (fun os55 h hks55 => ?_) (fun s55 h => ?_)
      ·refine ACode_block ?_
       refine kR ?_
       refine kM 4 rfl ?_
       obtain ⟨hc44, h⟩ := guardO h
       refine AOps_q 213 _ rfl rfl rfl (QOp_indexAddr_sl _ _ _ _ _ _ _ _ rfl Tryz.underlying34 Tryz.sizeOf2 hc44.1 (by rw [intsD_length]; exact hc44.2) rfl rfl) ?_
       refine AOps_q 214 _ rfl rfl rfl (QOp_load_pv _ _ _ _ _ rfl Tryz.isAgg2 rfl (intsD_get _ _ 0 (by omega))) ?_
       obtain ⟨r45, hr45, h⟩ := bindO h
       refine kC [] 215 (.tup [.d (.sl none (intsD r45.1)), iV r45.2]) [] rfl Tryz.call51 rfl rfl (impl_MakeMove_ac k r3.1 r3.2 ((r6.1.getD []).getD x42.toNat 0) _ hr45) rfl ?_
       refine kN 5 rfl ?_
       refine kR ?_
       refine kM 2 rfl ?_
       obtain ⟨r46, hr46, h⟩ := bindO h
       refine kC [] 221 (.tup [iV r46.1, iV r46.2]) [] rfl Tryz.call42 rfl rfl (impl_ResultOf_ac k r3.1 r45.1 _ hr46) rfl ?_
       refine kN 5 rfl ?_
       refine kB (fun s53 => [(0, .d (.sl none (bysD p0))), (3, iV r3.1), (4, .d (.sl none (intsD r3.2))), (5, .d (.sl none (intsD (r4.1.getD [])))), (9, .d (.sl none (intsD (r6.1.getD [])))), (17, iV r10.1), (28, iV x42), (248, bV s53)]) (fun s53 => []) h (fun s53 h => ?_) (fun s53 h => ?_)
       ·refine (ACode_region ?_)
        refine kM 1 rfl ?_
        refine AOps_q 225 _ rfl rfl rfl (QOp_neq _ _ _ _ _ _ _ rfl rfl rfl) ?_
        refine kM 1 rfl ?_
        refine AOps_case 226 _ rfl (fun hb47 => ?_) (fun hb47 => ?_)
        ·have h := iteT hb47 h
         refine AOps_skip 227 rfl rfl rfl ?_
         refine AOps_skip 228 rfl rfl rfl ?_
         refine kM 2 rfl ?_
         refine AOps_skip 231 rfl rfl rfl ?_
         refine AOps_skip 232 rfl rfl rfl ?_
         refine AOps_skip 233 rfl rfl rfl ?_
         refine AOps_skip 234 rfl rfl rfl ?_
         refine kM 2 rfl ?_
         refine AOps_skip 237 rfl rfl rfl ?_
         refine AOps_skip 238 rfl rfl rfl ?_
         refine AOps_skip 239 rfl rfl rfl ?_
         refine AOps_skip 240 rfl rfl rfl ?_
         refine AOps_skip 241 rfl rfl rfl ?_
         refine AOps_skip 242 rfl rfl rfl ?_
         refine AOps_skip 243 rfl rfl rfl ?_
         refine AOps_skip 244 rfl rfl rfl ?_
         refine AOps_skip 245 rfl rfl rfl ?_
         refine AOps_skip 246 rfl rfl rfl ?_
         refine AOps_skip 247 rfl rfl rfl ?_
         refine kN 1 rfl ?_
         cases h
         exact Weak_keep 0 hm [0, 3, 4, 5, 9, 17, 28, 248] [] _ _ rfl rfl rfl
        have h := iteF hb47 h
        refine kM 1 rfl ?_
        refine AOps_q 228 _ rfl rfl rfl (QOp_neq _ _ _ _ _ _ _ rfl rfl rfl) ?_
        refine kM 2 rfl ?_
        refine AOps_case 230 _ rfl (fun hb48 => ?_) (fun hb48 => ?_)
        ·have h := iteT hb48 h
         refine AOps_skip 231 rfl rfl rfl ?_
         refine AOps_skip 232 rfl rfl rfl ?_
         refine AOps_skip 233 rfl rfl rfl ?_
         refine AOps_skip 234 rfl rfl rfl ?_
         refine kM 2 rfl ?_
         refine AOps_skip 237 rfl rfl rfl ?_
         refine AOps_skip 238 rfl rfl rfl ?_
         refine AOps_skip 239 rfl rfl rfl ?_
         refine AOps_skip 240 rfl rfl rfl ?_
         refine AOps_skip 241 rfl rfl rfl ?_
         refine AOps_skip 242 rfl rfl rfl ?_
         refine AOps_skip 243 rfl rfl rfl ?_
         refine AOps_skip 244 rfl rfl rfl ?_
         refine AOps_skip 245 rfl rfl rfl ?_
         refine AOps_skip 246 rfl rfl rfl ?_
         refine AOps_skip 247 rfl rfl rfl ?_
         refine kN 1 rfl ?_
         cases h
         exact Weak_keep 0 hm [0, 3, 4, 5, 9, 17, 28, 248] [] _ _ rfl rfl rfl
        have h := iteF hb48 h
        refine kM 2 rfl ?_
        obtain ⟨r49, hr49, h⟩ := bindO h
        refine kC [] 233 (bV r49) [] rfl Tryz.call48 rfl rfl (impl_IsPosition_ac k r3.1 r45.1 _ hr49) rfl ?_
        refine AOps_q 234 _ rfl rfl rfl (QOp_not _ _ _ rfl rfl) ?_
        refine kM 2 rfl ?_
        refine AOps_case 236 _ rfl (fun hb50 => ?_) (fun hb50 => ?_)
        ·have h := iteT hb50 h
         refine AOps_skip 237 rfl rfl rfl ?_
         refine AOps_skip 238 rfl rfl rfl ?_
         refine AOps_skip 239 rfl rfl rfl ?_
         refine AOps_skip 240 rfl rfl rfl ?_
         refine AOps_skip 241 rfl rfl rfl ?_
         refine AOps_skip 242 rfl rfl rfl ?_
         refine AOps_skip 243 rfl rfl rfl ?_
         refine AOps_skip 244 rfl rfl rfl ?_
         refine AOps_skip 245 rfl rfl rfl ?_
         refine AOps_skip 246 rfl rfl rfl ?_
         refine AOps_skip 247 rfl rfl rfl ?_
         refine kN 1 rfl ?_
         cases h
         exact Weak_keep 0 hm [0, 3, 4, 5, 9, 17, 28, 248] [] _ _ rfl rfl rfl
        have h := iteF hb50 h
        refine kM 3 rfl ?_
        obtain ⟨hc51, h⟩ := guardO h
        refine AOps_q 240 _ rfl rfl rfl (QOp_indexAddr_sl _ _ _ _ _ _ _ _ rfl Tryz.underlying34 Tryz.sizeOf2 hc51.1 (by rw [intsD_length]; exact hc51.2) rfl rfl) ?_
        refine AOps_q 241 _ rfl rfl rfl (QOp_load_pv _ _ _ _ _ rfl Tryz.isAgg2 rfl (intsD_get _ _ 0 (by omega))) ?_
        obtain ⟨r52, hr52, h⟩ := bindO h
        refine kC [] 242 (bV r52) [] rfl Tryz.call22 rfl rfl (laws_hasInt_ac k (r4.1.getD []) ((r6.1.getD []).getD x42.toNat 0) _ hr52) rfl ?_
        refine kM 2 rfl ?_
        refine AOps_q 245 _ rfl rfl rfl (QOp_sub _ _ _ _ _ _ _ rfl rfl rfl) ?_
        refine AOps_q 246 _ rfl rfl rfl (QOp_neq _ _ _ _ _ _ _ rfl rfl rfl) ?_
        refine AOps_q 247 _ rfl rfl rfl (QOp_bneq _ _ _ _ _ _ rfl rfl rfl Tryz.underlying4) ?_
        refine kN 1 rfl ?_
        cases h
        exact Weak_keep 0 hm [0, 3, 4, 5, 9, 17, 28, 248] [] _ _ rfl rfl rfl
       refine kI h rfl (fun h _ => ?_) (fun h _ => ?_)
       ·refine kR ?_
        refine kN 1 rfl ?_
        refine ACode_ret ?_
        obtain ⟨rr, hz102, h2⟩ := bindO h
        obtain rfl := Option.some.inj h2
        obtain rfl := Option.some.inj (show some rr = some _ from hks55)
        have h := hz102
        cases h
        have h := hks77
        cases h
        exact ⟨_, _, fun r a w h => ⟨r, h⟩, _, _, [], _, (.cons (ResV_tmp _ _ rfl) .nil), rfl, rfl, rfl, rfl, rfl⟩
       refine ACode_skip ?_
       cases h
       exact ⟨_, rfl, Weak_keep 0 hm [0, 3, 4, 5, 9, 17, 28] [] _ _ rfl rfl rfl⟩
      refine (ACode_region ?_)
      refine kM 1 rfl ?_
      refine AOps_q 207 _ rfl rfl rfl (QOp_add _ _ _ _ _ _ _ rfl rfl rfl) ?_
      refine kN 1 rfl ?_
      exact ⟨k0, _, _, Nat.lt_succ_self _, Weak_keep 0 hm [0, 3, 4, 5, 9, 17, 28] [] _ _ rfl rfl rfl, _, rfl, rfl, h⟩
     refine ACode_exit ?_
     cases h
     exact ⟨_, rfl, Weak_keep 0 hm [0] [] _ _ rfl rfl rfl⟩
   | some l33 =>
    intro h
    rintro _ _ ⟨rfl, rfl⟩
    refine ⟨(allc (fun _ _ => trivial) (fun _ h => nomatch h)), (allc (trivial) (allc (trivial) (allc (trivial) (fun _ h => nomatch h)))), AOps_as 177 (v' := .tup [iV r32.1, .vec 0 0, iV r32.2.2]) (H' := [.vec 0 (intsD l33)]) rfl rfl ?_⟩
    refine kN 7 rfl ?_
    refine kO (fun s62 => [(0, .d (.sl none (bysD p0))), (3, iV r3.1), (4, .d (.sl none (intsD r3.2))), (5, .d (.sl none (intsD (r4.1.getD [])))), (9, .d (.sl none (intsD (r6.1.getD [])))), (17, iV r10.1)]) (fun s62 => []) h (fun os62 h hks62 => ?_) (fun s62 h => ?_)
    ·refine kB (fun s60 => [(0, .d (.sl none (bysD p0))), (3, iV r3.1), (4, .d (.sl none (intsD r3.2))), (5, .d (.sl none (intsD (r4.1.getD [])))), (9, .d (.sl none (intsD (r6.1.getD [])))), (17, iV r10.1), (201, bV s60)]) (fun s60 => []) h (fun s60 h => ?_) (fun s60 h => ?_)
     ·refine (ACode_region ?_)
      refine kM 1 rfl ?_
      refine AOps_q 182 _ rfl rfl rfl (QOp_neq _ _ _ _ _ _ _ rfl rfl rfl) ?_
      refine kM 1 rfl ?_
      refine AOps_case 183 _ rfl (fun hb56 => ?_) (fun hb56 => ?_)
      ·have h := iteT hb56 h
       refine AOps_skip 184 rfl rfl rfl ?_
       refine AOps_skip 185 rfl rfl rfl ?_
       refine AOps_skip 186 rfl rfl rfl ?_
       refine kM 2 rfl ?_
       refine AOps_skip 189 rfl rfl rfl ?_
       refine AOps_skip 190 rfl rfl rfl ?_
       refine AOps_skip 191 rfl rfl rfl ?_
       refine AOps_skip 192 rfl rfl rfl ?_
       refine kM 2 rfl ?_
       refine AOps_skip 195 rfl rfl rfl ?_
       refine AOps_skip 196 rfl rfl rfl ?_
       refine AOps_skip 197 rfl rfl rfl ?_
       refine AOps_skip 198 rfl rfl rfl ?_
       refine AOps_skip 199 rfl rfl rfl ?_
       refine AOps_skip 200 rfl rfl rfl ?_
       refine kN 1 rfl ?_
       cases h
       exact Weak_keep 0 hm [0, 3, 4, 5, 9, 17, 201] [] _ _ rfl rfl rfl
      have h := iteF hb56 h
      refine kM 2 rfl ?_
      refine AOps_q 186 _ rfl rfl rfl (QOp_neq _ _ _ _ _ _ _ rfl rfl rfl) ?_
      refine kM 2 rfl ?_
      refine AOps_case 188 _ rfl (fun hb57 => ?_) (fun hb57 => ?_)
      ·have h := iteT hb57 h
       refine AOps_skip 189 rfl rfl rfl ?_
       refine AOps_skip 190 rfl rfl rfl ?_
       refine AOps_skip 191 rfl rfl rfl ?_
       refine AOps_skip 192 rfl rfl rfl ?_
       refine kM 2 rfl ?_
       refine AOps_skip 195 rfl rfl rfl ?_
       refine AOps_skip 196 rfl rfl rfl ?_
       refine AOps_skip 197 rfl rfl rfl ?_
       refine AOps_skip 198 rfl rfl rfl ?_
       refine AOps_skip 199 rfl rfl rfl ?_
       refine AOps_skip 200 rfl rfl rfl ?_
       refine kN 1 rfl ?_
       cases h
       exact Weak_keep 0 hm [0, 3, 4, 5, 9, 17, 201] [] _ _ rfl rfl rfl
      have h := iteF hb57 h
      refine kM 2 rfl ?_
      obtain ⟨r58, hr58, h⟩ := bindO h
      refine AOps_callL [] 191 _ _ _ _ _ _ _ _ _ _ rfl rfl rfl rfl rfl rfl rfl Tryz.call20 rfl (nodupB_sound _ rfl) rfl rfl rfl (laws_likeInts_ac k l33 r3.2 _ hr58) ?_
      rintro _ _ ⟨rfl, rfl⟩
      refine ⟨(fun _ h => nomatch h), (allc (flat_s _) (fun _ h => nomatch h)), AOps_as 191 (v' := bV r58) (H' := [.vec 0 (intsD l33)]) rfl rfl ?_⟩
      refine AOps_q 192 _ rfl rfl rfl (QOp_not _ _ _ rfl rfl) ?_
      refine kM 2 rfl ?_
      refine AOps_case 194 _ rfl (fun hb59 => ?_) (fun hb59 => ?_)
      ·have h := iteT hb59 h
       refine AOps_skip 195 rfl rfl rfl ?_
       refine AOps_skip 196 rfl rfl rfl ?_
       refine AOps_skip 197 rfl rfl rfl ?_
       refine AOps_skip 198 rfl rfl rfl ?_
       refine AOps_skip 199 rfl rfl rfl ?_
       refine AOps_skip 200 rfl rfl rfl ?_
       refine kN 1 rfl ?_
       cases h
       exact Weak_keep 0 hm [0, 3, 4, 5, 9, 17, 201] [] _ _ rfl rfl rfl
      have h := iteF hb59 h
      refine kM 1 rfl ?_
      refine AOps_q 196 _ rfl rfl rfl (QOp_len_sl _ _ _ _ _ _ _ (intsD_length _) rfl rfl rfl rfl Tryz.underlying34 rfl) ?_
      refine AOps_q 197 _ rfl rfl rfl (QOp_gtr _ _ _ _ _ _ _ rfl rfl rfl) ?_
      refine kM 1 rfl ?_
      refine AOps_q 199 _ rfl rfl rfl (QOp_eql _ _ _ _ _ _ _ rfl rfl rfl) ?_
      refine AOps_q 200 _ rfl rfl rfl (QOp_bneq _ _ _ _ _ _ rfl rfl rfl Tryz.underlying4) ?_
      refine kN 1 rfl ?_
      cases h
      exact Weak_keep 0 hm [0, 3, 4, 5, 9, 17, 201] [] _ _ rfl rfl rfl
     refine kI h rfl (fun h _ => ?_) (fun h _ => ?_)
     ·refine kR ?_
      refine kN 1 rfl ?_
      refine ACode_ret ?_
      obtain ⟨rr, hz103, h2⟩ := bindO h
      obtain rfl := Option.some.inj h2
      obtain rfl := Option.some.inj (show some rr = some _ from hks62)
      have h := hz103
      cases h
      have h := hks77
      cases h
      exact ⟨_, _, fun r a w h => ⟨r, h⟩, _, _, [], _, (.cons (ResV_tmp _ _ rfl) .nil), rfl, rfl, rfl, rfl, rfl⟩
     refine ACode_skip ?_
     cases h
     exact ⟨_, rfl, Weak_keep 0 hm [0, 3, 4, 5, 9, 17] [] _ _ rfl rfl rfl⟩
    refine kR ?_
    refine kN 1 rfl ?_
    refine ACode_block ?_
    refine ACode_loopW (fun k1 E H => ∃ (x63 : Int), E = [(0, .d (.sl none (bysD p0))), (3, iV r3.1), (4, .d (.sl none (intsD r3.2))), (5, .d (.sl none (intsD (r4.1.getD [])))), (9, .d (.sl none (intsD (r6.1.getD [])))), (17, iV r10.1), (28, iV x63)] ∧ H = [] ∧ laws_FnGameMoves_l1 k r3 r4 r6 r10 k1 x63 = some os77) k _ _ (Weak_keep 0 hm [0, 3, 4, 5, 9, 17, 28] [] _ _ rfl rfl rfl) ⟨_, rfl, rfl, h⟩ ?_
    clear h
    rintro k1 E H ⟨x63, rfl, rfl, h⟩
    cases k1 with
    | zero => cases (show (none : Option (Sum (Unit) (Bool))) = some _ from h)
    | succ k1 =>
     rw [laws_FnGameMoves_l1] at h
     refine ACode_seq ?_
     refine kR ?_
     refine kM 2 rfl ?_
     refine AOps_q 204 _ rfl rfl rfl (QOp_len_sl _ _ _ _ _ _ _ (intsD_length _) rfl rfl rfl rfl Tryz.underlying34 rfl) ?_
     refine AOps_q 205 _ rfl rfl rfl (QOp_lss _ _ _ _ _ _ _ rfl rfl rfl) ?_
     refine AOps_nil ?_
     refine kI h rfl (fun h _ => ?_) (fun h _ => ?_)
     ·refine ACode_skip ?_
      refine kO (fun s76 => [(0, .d (.sl none (bysD p0))), (3, iV r3.1), (4, .d (.sl none (intsD r3.2))), (5, .d (.sl none (intsD (r4.1.getD [])))), (9, .d (.sl none (intsD (r6.1.getD [])))), (17, iV r10.1), (28, iV x63)]) (fun s76 => []) h (fun os76 h hks76 => ?_) (fun s76 h => ?_)
      ·refine ACode_block ?_
       refine kR ?_
       refine kM 4 rfl ?_
       obtain ⟨hc65, h⟩ := guardO h
       refine AOps_q 213 _ rfl rfl rfl (QOp_indexAddr_sl _ _ _ _ _ _ _ _ rfl Tryz.underlying34 Tryz.sizeOf2 hc65.1 (by rw [intsD_length]; exact hc65.2) rfl rfl) ?_
       refine AOps_q 214 _ rfl rfl rfl (QOp_load_pv _ _ _ _ _ rfl Tryz.isAgg2 rfl (intsD_get _ _ 0 (by omega))) ?_
       obtain ⟨r66, hr66, h⟩ := bindO h
       refine kC [] 215 (.tup [.d (.sl none (intsD r66.1)), iV r66.2]) [] rfl Tryz.call51 rfl rfl (impl_MakeMove_ac k r3.1 r3.2 ((r6.1.getD []).getD x63.toNat 0) _ hr66) rfl ?_
       refine kN 5 rfl ?_
       refine kR ?_
       refine kM 2 rfl ?_
       obtain ⟨r67, hr67, h⟩ := bindO h
       refine kC [] 221 (.tup [iV r67.1, iV r67.2]) [] rfl Tryz.call42 rfl rfl (impl_ResultOf_ac k r3.1 r66.1 _ hr67) rfl ?_
       refine kN 5 rfl ?_
       refine kB (fun s74 => [(0, .d (.sl none (bysD p0))), (3, iV r3.1), (4, .d (.sl none (intsD r3.2))), (5, .d (.sl none (intsD (r4.1.getD [])))), (9, .d (.sl none (intsD (r6.1.getD [])))), (17, iV r10.1), (28, iV x63), (248, bV s74)]) (fun s74 => []) h (fun s74 h => ?_) (fun s74 h => ?_)
       ·refine (ACode_region ?_)
        refine kM 1 rfl ?_
        refine AOps_q 225 _ rfl rfl rfl (QOp_neq _ _ _ _ _ _ _ rfl rfl rfl) ?_
        refine kM 1 rfl ?_
        refine AOps_case 226 _ rfl (fun hb68 => ?_) (fun hb68 => ?_)
        ·have h := iteT hb68 h
         refine AOps_skip 227 rfl rfl rfl ?_
         refine AOps_skip 228 rfl rfl rfl ?_
         refine kM 2 rfl ?_
         refine AOps_skip 231 rfl rfl rfl ?_
         refine AOps_skip 232 rfl rfl rfl ?_
         refine AOps_skip 233 rfl rfl rfl ?_
         refine AOps_skip 234 rfl rfl rfl ?_
         refine kM 2 rfl ?_
         refine AOps_skip 237 rfl rfl rfl ?_
         refine AOps_skip 238 rfl rfl rfl ?_
         refine AOps_skip 239 rfl rfl rfl ?_
         refine AOps_skip 240 rfl rfl rfl ?_
         refine AOps_skip 241 rfl rfl rfl ?_
         refine AOps_skip 242 rfl rfl rfl ?_
         refine AOps_skip 243 rfl rfl rfl ?_
         refine AOps_skip 244 rfl rfl rfl ?_
         refine AOps_skip 245 rfl rfl rfl ?_
         refine AOps_skip 246 rfl rfl rfl ?_
         refine AOps_skip 247 rfl rfl rfl ?_
         refine kN 1 rfl ?_
         cases h
         exact Weak_keep 0 hm [0, 3, 4, 5, 9, 17, 28, 248] [] _ _ rfl rfl rfl
        have h := iteF hb68 h
        refine kM 1 rfl ?_
        refine AOps_q 228 _ rfl rfl rfl (QOp_neq _ _ _ _ _ _ _ rfl rfl rfl) ?_
        refine kM 2 rfl ?_
        refine AOps_case 230 _ rfl (fun hb69 => ?_) (fun hb69 => ?_)
        ·have h := iteT hb69 h
         refine AOps_skip 231 rfl rfl rfl ?_
         refine AOps_skip 232 rfl rfl rfl ?_
         refine AOps_skip 233 rfl rfl rfl ?_
         refine AOps_skip 234 rfl rfl rfl ?_
         refine kM 2 rfl ?_
         refine AOps_skip 237 rfl rfl rfl ?_
         refine AOps_skip 238 rfl rfl rfl ?_
         refine AOps_skip 239 rfl rfl rfl ?_
         refine AOps_skip 240 rfl rfl rfl ?_
         refine AOps_skip 241 rfl rfl rfl ?_
         refine AOps_skip 242 rfl rfl rfl ?_
         refine AOps_skip 243 rfl rfl rfl ?_
         refine AOps_skip 244 rfl rfl rfl ?_
         refine AOps_skip 245 rfl rfl rfl ?_
         refine AOps_skip 246 rfl rfl rfl ?_
         refine AOps_skip 247 rfl rfl rfl ?_
         refine kN 1 rfl ?_
         cases h
         exact Weak_keep 0 hm [0, 3, 4, 5, 9, 17, 28, 248] [] _ _ rfl rfl rfl
        have h := iteF hb69 h
        refine kM 2 rfl ?_
        obtain ⟨r70, hr70, h⟩ := bindO h
        refine kC [] 233 (bV r70) [] rfl Tryz.call48 rfl rfl (impl_IsPosition_ac k r3.1 r66.1 _ hr70) rfl ?_
        refine AOps_q 234 _ rfl rfl rfl (QOp_not _ _ _ rfl rfl) ?_
        refine kM 2 rfl ?_
        refine AOps_case 236 _ rfl (fun hb71 => ?_) (fun hb71 => ?_)
        ·have h := iteT hb71 h
         refine AOps_skip 237 rfl rfl rfl ?_
         refine AOps_skip 238 rfl rfl rfl ?_
         refine AOps_skip 239 rfl rfl rfl ?_
         refine AOps_skip 240 rfl rfl rfl ?_
         refine AOps_skip 241 rfl rfl rfl ?_
         refine AOps_skip 242 rfl rfl rfl ?_
         refine AOps_skip 243 rfl rfl rfl ?_
         refine AOps_skip 244 rfl rfl rfl ?_
         refine AOps_skip 245 rfl rfl rfl ?_
         refine AOps_skip 246 rfl rfl rfl ?_
         refine AOps_skip 247 rfl rfl rfl ?_
         refine kN 1 rfl ?_
         cases h
         exact Weak_keep 0 hm [0, 3, 4, 5, 9, 17, 28, 248] [] _ _ rfl rfl rfl
        have h := iteF hb71 h
        refine kM 3 rfl ?_
        obtain ⟨hc72, h⟩ := guardO h
        refine AOps_q 240 _ rfl rfl rfl (QOp_indexAddr_sl _ _ _ _ _ _ _ _ rfl Tryz.underlying34 Tryz.sizeOf2 hc72.1 (by rw [intsD_length]; exact hc72.2) rfl rfl) ?_
        refine AOps_q 241 _ rfl rfl rfl (QOp_load_pv _ _ _ _ _ rfl Tryz.isAgg2 rfl (intsD_get _ _ 0 (by omega))) ?_
        obtain ⟨r73, hr73, h⟩ := bindO h
        refine kC [] 242 (bV r73) [] rfl Tryz.call22 rfl rfl (laws_hasInt_ac k (r4.1.getD []) ((r6.1.getD []).getD x63.toNat 0) _ hr73) rfl ?_
        refine kM 2 rfl ?_
        refine AOps_q 245 _ rfl rfl rfl (QOp_sub _ _ _ _ _ _ _ rfl rfl rfl) ?_
        refine AOps_q 246 _ rfl rfl rfl (QOp_neq _ _ _ _ _ _ _ rfl rfl rfl) ?_
        refine AOps_q 247 _ rfl rfl rfl (QOp_bneq _ _ _ _ _ _ rfl rfl rfl Tryz.underlying4) ?_
        refine kN 1 rfl ?_
        cases h
        exact Weak_keep 0 hm [0, 3, 4, 5, 9, 17, 28, 248] [] _ _ rfl rfl rfl
       refine kI h rfl (fun h _ => ?_) (fun h _ => ?_)
       ·refine kR ?_
        refine kN 1 rfl ?_
        refine ACode_ret ?_
        obtain ⟨rr, hz104, h2⟩ := bindO h
        obtain rfl := Option.some.inj h2
        obtain rfl := Option.some.inj (show some rr = some _ from hks76)
        have h := hz104
        cases h
        have h := hks77
        cases h
        exact ⟨_, _, fun r a w h => ⟨r, h⟩, _, _, [], _, (.cons (ResV_tmp _ _ rfl) .nil), rfl, rfl, rfl, rfl, rfl⟩
       refine ACode_skip ?_
       cases h
       exact ⟨_, rfl, Weak_keep 0 hm [0, 3, 4, 5, 9, 17, 28] [] _ _ rfl rfl rfl⟩
      refine (ACode_region ?_)
      refine kM 1 rfl ?_
      refine AOps_q 207 _ rfl rfl rfl (QOp_add _ _ _ _ _ _ _ rfl rfl rfl) ?_
      refine kN 1 rfl ?_
      exact ⟨k1, _, _, Nat.lt_succ_self _, Weak_keep 0 hm [0, 3, 4, 5, 9, 17, 28] [] _ _ rfl rfl rfl, _, rfl, rfl, h⟩
     refine ACode_exit ?_
     cases h
     exact ⟨_, rfl, Weak_keep 0 hm [0] [] _ _ rfl rfl rfl⟩
  refine ACode_skip ?_
  cases h
  exact ⟨_, rfl, Weak_keep 0 hm [0] [] _ _ rfl rfl rfl⟩
 refine kR ?_
 refine kM 1 rfl ?_
 obtain ⟨r78, hr78, h⟩ := bindO h
 refine kC [] 251 (.tup [iV r78.1, .vec 0 0, iV r78.2.2]) [.vec 0 (intsD r78.2.1)] rfl Tryz.call52 rfl rfl (spec_DrawMakeMove_ac k p0 _ hr78) rfl ?_
 refine kN 7 rfl ?_
 refine kR ?_
 refine kM 3 rfl ?_
 refine AOps_freezeL [34, 253, 257] 0 0 _ (allc (rfl) (allc (rfl) (allc (rfl) (fun _ h => nomatch h)))) rfl ?_
 obtain ⟨r79, hr79, h⟩ := bindO h
 refine kC [] 259 (.tup [.d (.sl none (intsD r79.1)), iV r79.2]) [.gone] rfl Tryz.call51 rfl rfl (impl_MakeMove_ac k r78.1 r78.2.1 r78.2.2 _ hr79) rfl ?_
 refine kN 5 rfl ?_
 refine kR ?_
 refine kM 3 rfl ?_
 obtain ⟨r80, hr80, h⟩ := bindO h
 refine kC [] 266 (.tup [.d (.sl none (intsD r80.1)), iV r80.2]) [.gone] rfl Tryz.call53 rfl rfl (spec_MakeMove_ac k r78.1 r78.2.1 r78.2.2 _ hr80) rfl ?_
 refine kN 5 rfl ?_
 refine kR ?_
 refine kM 1 rfl ?_
 obtain ⟨r81, hr81, h⟩ := bindO h
 refine kC [] 270 (.d (.s (.string r81))) [.gone] rfl Tryz.call54 rfl rfl (spec_DrawParsePosition_ac k p0 _ hr81) rfl ?_
 refine kN 1 rfl ?_
 refine kR ?_
 refine kM 1 rfl ?_
 obtain ⟨r82, hr82, h⟩ := bindO h
 refine AOps_callG [] 273 _ _ _ _ _ _ _ _ _ _ rfl rfl rfl rfl rfl rfl rfl Tryz.call50 rfl (nodupB_sound _ rfl) rfl rfl rfl gok hgl (impl_ParsePosition_ac k r81 _ hr82) ?_
 revert h
 cases hx84 : r82.2.1 with
 | none =>
  intro h
  rintro _ _ ⟨rfl, rfl⟩
  refine ⟨(fun _ h => nomatch h), (allc (trivial) (allc (trivial) (allc (trivial) (fun _ h => nomatch h)))), AOps_as 273 (v' := .tup [iV r82.1, .d (.sl (some true) []), iV r82.2.2]) (H' := [.gone]) rfl rfl ?_⟩
  refine kN 7 rfl ?_
  refine kR ?_
  refine kM 1 rfl ?_
  obtain ⟨r85, hr85, h⟩ := bindO h
  refine kC [] 279 (.tup [iV r85.1, .d (.sl none (intsD r85.2.1)), iV r85.2.2]) [.gone] rfl Tryz.call55 rfl rfl (spec_ParsePosition_ac k r81 _ hr85) rfl ?_
  refine kN 7 rfl ?_
  refine kB (fun s92 => [(2, bV s92)]) (fun s92 => []) h (fun s92 h => ?_) (fun s92 h => ?_)
  ·refine (ACode_region ?_)
   refine kM 2 rfl ?_
   refine AOps_q 285 _ rfl rfl rfl (QOp_eql _ _ _ _ _ _ _ rfl rfl rfl) ?_
   refine kM 1 rfl ?_
   refine AOps_case 286 _ rfl (fun hb86 => ?_) (fun hb86 => ?_)
   ·have h := iteT hb86 h
    refine kM 2 rfl ?_
    obtain ⟨r87, hr87, h⟩ := bindO h
    refine kC [] 289 (bV r87) [.gone] rfl Tryz.call20 rfl rfl (laws_likeInts_ac k r79.1 r80.1 _ hr87) rfl ?_
    refine kM 2 rfl ?_
    refine AOps_case 291 _ rfl (fun hb88 => ?_) (fun hb88 => ?_)
    ·have h := iteT hb88 h
     refine kM 2 rfl ?_
     refine AOps_q 294 _ rfl rfl rfl (QOp_eql _ _ _ _ _ _ _ rfl rfl rfl) ?_
     refine kM 2 rfl ?_
     refine AOps_case 296 _ rfl (fun hb89 => ?_) (fun hb89 => ?_)
     ·have h := iteT hb89 h
      refine kM 2 rfl ?_
      refine AOps_q 299 _ rfl rfl rfl (QOp_eql _ _ _ _ _ _ _ rfl rfl rfl) ?_
      refine kM 2 rfl ?_
      refine AOps_case 301 _ rfl (fun hb90 => ?_) (fun hb90 => ?_)
      ·have h := iteT hb90 h
       refine kM 2 rfl ?_
       obtain ⟨r91, hr91, h⟩ := bindO h
       refine kC [] 304 (bV r91) [.gone] rfl Tryz.call20 rfl rfl (laws_likeInts_ac k ([]) r85.2.1 _ hr91) rfl ?_
       refine kN 2 rfl ?_
       cases h
       exact Weak_keep 0 hm [2] [] _ _ rfl rfl rfl
      have h := iteF hb90 h
      refine AOps_skip 302 rfl rfl rfl ?_
      refine AOps_skip 303 rfl rfl rfl ?_
      refine AOps_skip 304 rfl rfl rfl ?_
      refine kN 2 rfl ?_
      cases h
      exact Weak_keep 0 hm [2] [] _ _ rfl rfl rfl
     have h := iteF hb89 h
     refine AOps_skip 297 rfl rfl rfl ?_
     refine AOps_skip 298 rfl rfl rfl ?_
     refine AOps_skip 299 rfl rfl rfl ?_
     refine kM 2 rfl ?_
     refine AOps_skip 302 rfl rfl rfl ?_
     refine AOps_skip 303 rfl rfl rfl ?_
     refine AOps_skip 304 rfl rfl rfl ?_
     refine kN 2 rfl ?_
     cases h
     exact Weak_keep 0 hm [2] [] _ _ rfl rfl rfl
    have h := iteF hb88 h
    refine AOps_skip 292 rfl rfl rfl ?_
    refine AOps_skip 293 rfl rfl rfl ?_
    refine AOps_skip 294 rfl rfl rfl ?_
    refine kM 2 rfl ?_
    refine AOps_skip 297 rfl rfl rfl ?_
    refine AOps_skip 298 rfl rfl rfl ?_
    refine AOps_skip 299 rfl rfl rfl ?_
    refine kM 2 rfl ?_
    refine AOps_skip 302 rfl rfl rfl ?_
    refine AOps_skip 303 rfl rfl rfl ?_
    refine AOps_skip 304 rfl rfl rfl ?_
    refine kN 2 rfl ?_
    cases h
    exact Weak_keep 0 hm [2] [] _ _ rfl rfl rfl
   have h := iteF hb86 h
   refine AOps_skip 287 rfl rfl rfl ?_
   refine AOps_skip 288 rfl rfl rfl ?_
   refine AOps_skip 289 rfl rfl rfl ?_
   refine kM 2 rfl ?_
   refine AOps_skip 292 rfl rfl rfl ?_
   refine AOps_skip 293 rfl rfl rfl ?_
   refine AOps_skip 294 rfl rfl rfl ?_
   refine kM 2 rfl ?_
   refine AOps_skip 297 rfl rfl rfl ?_
   refine AOps_skip 298 rfl rfl rfl ?_
   refine AOps_skip 299 rfl rfl rfl ?_
   refine kM 2 rfl ?_
   refine AOps_skip 302 rfl rfl rfl ?_
   refine AOps_skip 303 rfl rfl rfl ?_
   refine AOps_skip 304 rfl rfl rfl ?_
   refine kN 2 rfl ?_
   cases h
   exact Weak_keep 0 hm [2] [] _ _ rfl rfl rfl
  refine ACode_ret ?_
  cases h
  exact ⟨_, _, fun r a w h => ⟨r, h⟩, _, _, [], _, (.cons (ResV_tmp _ _ rfl) .nil), rfl, rfl, rfl, rfl, rfl⟩
 | some l83 =>
  intro h
  rintro _ _ ⟨rfl, rfl⟩
  refine ⟨(allc (fun _ _ => trivial) (fun _ h => nomatch h)), (allc (trivial) (allc (trivial) (allc (trivial) (fun _ h => nomatch h)))), AOps_as 273 (v' := .tup [iV r82.1, .vec 1 0, iV r82.2.2]) (H' := [.gone, .vec 0 (intsD l83)]) rfl rfl ?_⟩
  refine kN 7 rfl ?_
  refine kR ?_
  refine kM 1 rfl ?_
  obtain ⟨r93, hr93, h⟩ := bindO h
  refine kC [] 279 (.tup [iV r93.1, .d (.sl none (intsD r93.2.1)), iV r93.2.2]) [.gone, .vec 0 (intsD l83)] rfl Tryz.call55 rfl rfl (spec_ParsePosition_ac k r81 _ hr93) rfl ?_
  refine kN 7 rfl ?_
  refine kB (fun s100 => [(2, bV s100)]) (fun s100 => []) h (fun s100 h => ?_) (fun s100 h => ?_)
  ·refine (ACode_region ?_)
   refine kM 2 rfl ?_
   refine AOps_q 285 _ rfl rfl rfl (QOp_eql _ _ _ _ _ _ _ rfl rfl rfl) ?_
   refine kM 1 rfl ?_
   refine AOps_case 286 _ rfl (fun hb94 => ?_) (fun hb94 => ?_)
   ·have h := iteT hb94 h
    refine kM 2 rfl ?_
    obtain ⟨r95, hr95, h⟩ := bindO h
    refine kC [] 289 (bV r95) [.gone, .vec 0 (intsD l83)] rfl Tryz.call20 rfl rfl (laws_likeInts_ac k r79.1 r80.1 _ hr95) rfl ?_
    refine kM 2 rfl ?_
    refine AOps_case 291 _ rfl (fun hb96 => ?_) (fun hb96 => ?_)
    ·have h := iteT hb96 h
     refine kM 2 rfl ?_
     refine AOps_q 294 _ rfl rfl rfl (QOp_eql _ _ _ _ _ _ _ rfl rfl rfl) ?_
     refine kM 2 rfl ?_
     refine AOps_case 296 _ rfl (fun hb97 => ?_) (fun hb97 => ?_)
     ·have h := iteT hb97 h
      refine kM 2 rfl ?_
      refine AOps_q 299 _ rfl rfl rfl (QOp_eql _ _ _ _ _ _ _ rfl rfl rfl) ?_
      refine kM 2 rfl ?_
      refine AOps_case 301 _ rfl (fun hb98 => ?_) (fun hb98 => ?_)
      ·have h := iteT hb98 h
       refine kM 2 rfl ?_
       obtain ⟨r99, hr99, h⟩ := bindO h
       refine AOps_callL [] 304 _ _ _ _ _ _ _ _ _ _ rfl rfl rfl rfl rfl rfl rfl Tryz.call20 rfl (nodupB_sound _ rfl) rfl rfl rfl (laws_likeInts_ac k l83 r93.2.1 _ hr99) ?_
       rintro _ _ ⟨rfl, rfl⟩
       refine ⟨(fun _ h => nomatch h), (allc (flat_s _) (fun _ h => nomatch h)), AOps_as 304 (v' := bV r99) (H' := [.gone, .vec 0 (intsD l83)]) rfl rfl ?_⟩
       refine kN 2 rfl ?_
       cases h
       exact Weak_keep 0 hm [2] [] _ _ rfl rfl rfl
      have h := iteF hb98 h
      refine AOps_skip 302 rfl rfl rfl ?_
      refine AOps_skip 303 rfl rfl rfl ?_
      refine AOps_skip 304 rfl rfl rfl ?_
      refine kN 2 rfl ?_
      cases h
      exact Weak_keep 0 hm [2] [] _ _ rfl rfl rfl
     have h := iteF hb97 h
     refine AOps_skip 297 rfl rfl rfl ?_
     refine AOps_skip 298 rfl rfl rfl ?_
     refine AOps_skip 299 rfl rfl rfl ?_
     refine kM 2 rfl ?_
     refine AOps_skip 302 rfl rfl rfl ?_
     refine AOps_skip 303 rfl rfl rfl ?_
     refine AOps_skip 304 rfl rfl rfl ?_
     refine kN 2 rfl ?_
     cases h
     exact Weak_keep 0 hm [2] [] _ _ rfl rfl rfl
    have h := iteF hb96 h
    refine AOps_skip 292 rfl rfl rfl ?_
    refine AOps_skip 293 rfl rfl rfl ?_
    refine AOps_skip 294 rfl rfl rfl ?_
    refine kM 2 rfl ?_
    refine AOps_skip 297 rfl rfl rfl ?_
    refine AOps_skip 298 rfl rfl rfl ?_
    refine AOps_skip 299 rfl rfl rfl ?_
    refine kM 2 rfl ?_
    refine AOps_skip 302 rfl rfl rfl ?_
    refine AOps_skip 303 rfl rfl rfl ?_
    refine AOps_skip 304 rfl rfl rfl ?_
    refine kN 2 rfl ?_
    cases h
    exact Weak_keep 0 hm [2] [] _ _ rfl rfl rfl
   have h := iteF hb94 h
   refine AOps_skip 287 rfl rfl rfl ?_
   refine AOps_skip 288 rfl rfl rfl ?_
   refine AOps_skip 289 rfl rfl rfl ?_
   refine kM 2 rfl ?_
   refine AOps_skip 292 rfl rfl rfl ?_
   refine AOps_skip 293 rfl rfl rfl ?_
   refine AOps_skip 294 rfl rfl rfl ?_
   refine kM 2 rfl ?_
   refine AOps_skip 297 rfl rfl rfl ?_
   refine AOps_skip 298 rfl rfl rfl ?_
   refine AOps_skip 299 rfl rfl rfl ?_
   refine kM 2 rfl ?_
   refine AOps_skip 302 rfl rfl rfl ?_
   refine AOps_skip 303 rfl rfl rfl ?_
   refine AOps_skip 304 rfl rfl rfl ?_
   refine kN 2 rfl ?_
   cases h
   exact Weak_keep 0 hm [2] [] _ _ rfl rfl rfl
  refine ACode_ret ?_
  cases h
  exact ⟨_, _, fun r a w h => ⟨r, h⟩, _, _, [], _, (.cons (ResV_tmp _ _ rfl) .nil), rfl, rfl, rfl, rfl, rfl⟩

end Go.Proofs.YtkonbaijkcaehaaGreatDoor
