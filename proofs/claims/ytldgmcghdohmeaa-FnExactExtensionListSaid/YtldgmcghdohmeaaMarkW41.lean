/- Own library: laws.markInt64SS over a table among the rows. No conditions. -/
import Derived.Test.YtldgmcghdohmeaaMatR
import Derived.Test.YtldgmcghdohmeaaGen41
import Derived.WalkKit
import Derived.LoopTactic
set_option linter.unusedVariables false
set_option linter.unusedSimpArgs false
namespace Go.Proofs.Ytldgmcghdohmeaa
open Go Go.RowKit Ab

/-- j rows marked. -/
def markTo (k : Nat) (T : List (List Int)) (x : Int) : Nat → Option (List (List Int) × Int)
  | 0 => some (T, x)
  | j + 1 => (markTo k T x j).bind fun s => (laws_markInt64S k (s.1.getD j []) s.2).bind fun r => some (s.1.set j r.2, r.1)

theorem markTo_len {k : Nat} {T : List (List Int)} {x : Int} : ∀ {j : Nat} {s : List (List Int) × Int}, markTo k T x j = some s → s.1.length = T.length
  | 0, s, h => by simp [markTo] at h; subst h; rfl
  | j + 1, s, h => by
    unfold markTo at h
    obtain ⟨s0, h0, h⟩ := bindO h
    obtain ⟨r, hr, h⟩ := bindO h
    cases h
    simp [markTo_len h0]
theorem markTo_le {k : Nat} {T : List (List Int)} {x : Int} {j : Nat} : ∀ {n : Nat} {s : List (List Int) × Int}, markTo k T x n = some s → j ≤ n → ∃ s', markTo k T x j = some s'
  | 0, s, h, hj => ⟨s, by rw [show j = 0 by omega]; exact h⟩
  | n + 1, s, h, hj => by
    by_cases e : j = n + 1
    · exact ⟨s, by rw [e]; exact h⟩
    · unfold markTo at h
      obtain ⟨s0, h0, h⟩ := bindO h
      exact markTo_le h0 (by omega)

theorem mark_row (k : Nat) (l l' : List Int) (x x' : Int) (b : Nat) (vs : Array Value) (ty : TypeId) (w : World) (h : laws_markInt64S k l x = some (x', l')) (hb : w.heap[b]? = some (.cells vs ty (0, 0))) (h1 : l.length ≤ vs.size) (h2 : vs.size ≤ maxLen)
    (h3 : vs.toList.take l.length = l.map (Value.int .i64)) :
    Calls Try.prog 10 #[.slice (some ⟨b, 0, none⟩) l.length vs.size, .int .i64 x] w fun e w' => e = .returned (.int .i64 x') ∧ l'.length = l.length ∧ (∃ vs' ty', w'.heap[b]? = some (.cells vs' ty' (0, 0)) ∧ vs'.size = vs.size ∧ vs'.toList.take l'.length = l'.map (Value.int .i64)) ∧
      w'.os = w.os ∧ w'.tape = w.tape ∧ w'.output = w.output ∧ w.heap.size ≤ w'.heap.size ∧ ∀ c, c < w.heap.size → c ≠ b → w'.heap[c]? = w.heap[c]? := by
  have hL : RepL w (imm (fun _ => False) w [.vec 0 (intsD l)] [b]) (intsD l) (vs.toList.take (intsD l).length) := by
    rw [intsD_length, h3]; exact RepL.ofInts l
  have hh : HRel (fun _ => False) w [.vec 0 (intsD l)] [b] := by
    refine ⟨rfl, fun o o' x x' c h1 _ h2 _ _ _ => ?_, fun o x c h1' h2' => ?_, fun _ _ _ _ _ _ h => h.elim, fun _ h => h.elim⟩
    · have e1 : o < 1 := by simpa using (List.getElem?_eq_some_iff.1 h1).1
      have e2 : o' < 1 := by simpa using (List.getElem?_eq_some_iff.1 h2).1
      omega
    · have e1 : o = 0 := by have : o < 1 := by simpa using (List.getElem?_eq_some_iff.1 h1').1
                            omega
      subst e1
      cases h1'
      cases h2'
      exact .vec 0 (intsD l) vs ty hb (by rw [intsD_length]; exact h1) h2 hL
  have hargs : RepVs (fun _ => False) w [.vec 0 (intsD l)] [b] [.vec 0 0, iV x] #[.slice (some ⟨b, 0, none⟩) l.length vs.size, .int .i64 x] := by
    refine ⟨rfl, fun i c v h1' h2' => ?_⟩
    match i, h1', h2' with
    | 0, h1', h2' =>
      simp at h1' h2'; subst h1'; subst h2'
      refine .vec 0 0 _ (by simp) fun g' cs c k1 k2 => ?_
      cases k1; cases k2
      exact ⟨Nat.le_refl _, fun _ => ⟨vs.size, vs, ty, by rw [intsD_length], hb, rfl⟩⟩
    | 1, h1', h2' => simp at h1' h2'; subst h1'; subst h2'; exact .d _ _ (.s _)
    | i + 2, h1', h2' => simp at h1'
  refine (laws_markInt64S_ac k l x _ h (fun _ => False) w [b] _ hh hargs).mono ?_
  rintro e w' ⟨res, H', r', y, rfl, ⟨rfl, rfl⟩, hh', hres, hst⟩
  obtain ⟨b', hb'⟩ := hh'.blk (o := 0) rfl
  obtain ⟨g, cs, b1, a1, a2, a3⟩ := hst.vec 0 0 _ b' (by simp) rfl hb'
  cases a1; cases a2
  rcases a3 with a3 | ⟨_, rfl, hlen, hc⟩
  · exact absurd a3 (Nat.lt_irrefl _)
  · obtain ⟨vs', ty', e1, e2⟩ := hc vs ty hb
    have hO := hh'.obj 0 _ b rfl hb'
    cases hO with
    | vec _ _ vs2 ty2 hb2 hc2 hm2 hl2 =>
      rw [hb2] at e1
      cases e1
      rw [intsD_length] at hl2
      have hv := RepL.ints hl2
      rw [intsD_length, intsD_length] at hlen
      refine ⟨?_, hlen.symm, ⟨vs', ty', hb2, e2, hv⟩, hst.os, hst.tape, hst.output, hst.size, fun c hc hne => (hst.free c ⟨hc, fun o x' k1 _ k2 => ?_⟩).1⟩
      · cases hres with
        | d _ _ hd => cases hd; rfl
      · have e1 : o = 0 := by have : o < 1 := by simpa using (List.getElem?_eq_some_iff.1 k1).1
                              omega
        subst e1
        cases k2
        exact hne rfl

theorem mat_row {M : Rws} {T : List (List Int)} {hd : List (Nat × Nat × Nat)} {j : Nat} (hT : TabF T hd M) (hj : j < T.length) : RowOK M (hd.getD j (0, 0, 0)) (T.getD j []) := hT.2 j (by rw [← hT.1]; exact hj)

set_option maxRecDepth 100000 in
set_option maxHeartbeats 2000000 in
theorem mark_calls (k : Nat) (T T' : List (List Int)) (x x' : Int) (hk : markTo k T x T.length = some (T', x')) (M : Rws) (v : Value) (w : World) (hv : MatM M v T) (hh : Here M w) (hnd : (M.map (·.1)).Nodup) :
    Calls Try.prog 11 #[v, .int .i64 x] w fun e w' => e = .returned (.int .i64 x') ∧ ∃ M', MatM M' v T' ∧ Keep w M w' M' ∧ M'.map (·.1) = M.map (·.1) := by
  obtain ⟨b0, hs, hd, rfl, m1, m2, m2', m3, m4, m5, m6⟩ := hv
  have hmax : maxLen = 9223372036854775807 := rfl
  go_enter Try.func11, Try.ntmps11
  go_wp2
  go_loopw [1, 5] (fun y i wr => ∃ (j : Nat) (s : List (List Int) × Int) (Mj : Rws), j ≤ T.length ∧ markTo k T x j = some s ∧ y = .int .i64 s.2 ∧ i = .int .i64 j ∧ (b0, hs) ∈ Mj ∧ TabF s.1 hd Mj ∧ Keep w M wr Mj ∧ Mj.map (·.1) = M.map (·.1))
    (fun _ i _ => T.length - (intOf i).toNat)
  case atStart => exact ⟨0, (T, x), M, Nat.zero_le _, rfl, rfl, rfl, m1, m6, ⟨rfl, rfl, rfl, Nat.le_refl _, fun _ _ _ => rfl, hnd, fun p hp => .inl (List.mem_map.2 ⟨p, hp, rfl⟩), hh⟩, rfl⟩
  case round =>
    obtain ⟨j, s, Mj, hj, hs', rfl, rfl, q1, q2, q3, q4⟩ := hrel
    have hsl := markTo_len hs'
    by_cases hlt : j < T.length
    · obtain ⟨s1, hs1⟩ := markTo_le hk (show j + 1 ≤ T.length by omega)
      have hs2 := hs1
      unfold markTo at hs2
      rw [hs', Option.bind_some] at hs2
      obtain ⟨⟨y', l'⟩, hr, hs2⟩ := bindO hs2
      cases hs2
      have hrow := mat_row q2 (show j < s.1.length by omega)
      obtain ⟨vs, e1, e2, e3, e4, e5, e6⟩ := hrow
      obtain ⟨ty, hb⟩ := q3.here _ e1
      have hcx := mat_cell (w := wr) (T := T) q1 m3 q3.here hlt (by have := m6.1; omega)
      generalize hL : s.1.getD j [] = L at hr e2 e4 e6
      generalize hp : hd.getD j (0, 0, 0) = p at e1 e2 e3 hb hcx
      obtain ⟨pb, pn, pc⟩ := p
      simp only at e1 e2 e3 hb hcx
      subst e2 e3
      unfold hdV at hcx
      simp only at hcx
      have hR := mark_row k _ l' s.2 y' pb vs ty wr hr hb e4 e5 e6
      go_wp2_with (go_at_call 10; refine hR.mono ?_; rintro e w2 ⟨rfl, r1, ⟨vs', ty', r2, r3, r4⟩, r5, r6, r7, r8, r9⟩)
      go_roundw
      case rel =>
        obtain ⟨M1, M2, hM⟩ := List.append_of_mem e1
        subst hM
        have hb0 : b0 ≠ pb := fun e => m5 (by
          have : (hd.getD j (0, 0, 0)).1 ∈ hd.map (·.1) := List.mem_map.2 ⟨hd[j]'(by have := m6.1; omega), List.getElem_mem _, by simp [show j < hd.length by have := m6.1; omega]⟩
          rw [hp] at this
          rw [e]; exact this)
        refine ⟨j + 1, _, M1 ++ (pb, vs') :: M2, by omega, hs1, rfl, by simp, ?_, ?_, ?_, by rw [← q4]; simp⟩
        · rcases List.mem_append.1 q1 with h | h
          · exact List.mem_append.2 (.inl h)
          · rcases List.mem_cons.1 h with h | h
            · exact absurd (congrArg Prod.fst h) hb0
            · exact List.mem_append.2 (.inr (List.mem_cons_of_mem _ h))
        · have := tab_set (hd := hd) (M1 := M1) (M2 := M2) (vs := vs) (vs' := vs') (j := j) (zs := l') (T := s.1) m4 (by have := m6.1; omega) (by rw [hp]; exact q2) (by rw [hp]; exact r1.symm) (by rw [hp]; exact r3.symm) (by rw [r1, r3]; exact e4) (by rw [r3]; exact e5) r4
          rw [hp] at this
          exact this
        · have hkeep : Keep wr (M1 ++ (pb, vs) :: M2) w2 (M1 ++ (pb, vs') :: M2) := by
            have hmem : ∀ p ∈ M1 ++ (pb, vs') :: M2, p.1 ∈ (M1 ++ (pb, vs) :: M2).map (·.1) := fun p hp' => by
              have : p.1 ∈ (M1 ++ (pb, vs') :: M2).map (·.1) := List.mem_map.2 ⟨p, hp', rfl⟩
              simpa using this
            have hnd' := q3.nd
            refine ⟨r5, r6, r7, r8, fun b hb1 hb2 => r9 b hb1 fun e => hb2 (by simp [e]), by simpa using hnd', fun p hp' => .inl (hmem p hp'), fun p hp' => ?_⟩
            have hne : ∀ q ∈ M1 ++ M2, q.1 ≠ pb := fun q hq e => by
              rw [List.map_append, List.map_cons] at hnd'
              have h3 := List.nodup_append.1 hnd'
              rcases List.mem_append.1 hq with hq | hq
              · exact h3.2.2 q.1 (List.mem_map.2 ⟨q, hq, rfl⟩) pb (by simp) e
              · exact (List.nodup_cons.1 h3.2.1).1 (List.mem_map.2 ⟨q, hq, e⟩)
            have hold : ∀ q ∈ M1 ++ M2, ∃ ty, w2.heap[q.1]? = some (.cells q.2 ty (0, 0)) := fun q hq => by
              obtain ⟨tq, hq'⟩ := q3.here q (by rcases List.mem_append.1 hq with h | h <;> simp [h])
              exact ⟨tq, by rw [r9 q.1 (Array.getElem?_eq_some_iff.1 hq').1 (hne q hq)]; exact hq'⟩
            rcases List.mem_append.1 hp' with h | h
            · exact hold p (List.mem_append.2 (.inl h))
            · rcases List.mem_cons.1 h with rfl | h
              · exact ⟨ty', r2⟩
              · exact hold p (List.mem_append.2 (.inr h))
          exact Keep.trans q3 hkeep (fun p hp' => .inl (by rw [← q4]; exact List.mem_map.2 ⟨p, hp', rfl⟩))
      case measure => simp [intOf]; omega
    · obtain rfl : j = T.length := by omega
      rw [hk] at hs'
      cases hs'
      go_wp2
      refine bodyPost_ret (results_tmp rfl _ _ _) rfl ?_
      exact ⟨rfl, Mj, ⟨b0, hs, hd, by rw [hsl], q1, by rw [hsl]; exact m2, m2', by rw [hsl]; exact m3, m4, m5, q2⟩, q3, q4⟩
end Go.Proofs.Ytldgmcghdohmeaa
