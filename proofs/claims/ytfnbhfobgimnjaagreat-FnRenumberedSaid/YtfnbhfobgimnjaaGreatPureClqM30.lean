/- Plain laws of the program's walk over all cliques. No conditions beyond those that each lemma states. -/
import Derived.Test.YtfnbhfobgimnjaaGreatClqB
import Derived.Test.YtfnbhfobgimnjaaGreatPureCore30
set_option linter.unusedVariables false
set_option linter.unusedSimpArgs false
namespace Go.Proofs.YtfnbhfobgimnjaaGreat
open Go Go.RowKit Ab

/-! ### Walks that stop -/
def runL {α σ : Type} (cb : α → σ → Option (Bool × σ)) : List α → σ → Option (Bool × σ)
  | [], s => some (true, s)
  | a :: t, s => (cb a s).bind fun r => if r.1 then runL cb t r.2 else some (false, r.2)
theorem runL_app {α σ : Type} (cb : α → σ → Option (Bool × σ)) (b : List α) : ∀ (a : List α) (s : σ), runL cb (a ++ b) s = (runL cb a s).bind fun r => if r.1 then runL cb b r.2 else some (false, r.2)
  | [], s => by simp [runL]
  | x :: a, s => by
    rw [List.cons_append, runL, runL]
    cases h : cb x s with
    | none => rfl
    | some r =>
      simp only [Option.bind_some]
      by_cases hr : r.1 = true
      · rw [if_pos hr, if_pos hr]; exact runL_app cb b a r.2
      · rw [if_neg hr, if_neg hr]; simp

/-! ### Points joined with all of a list -/
def aB (x : Col) (c a b : Int) : Bool := decide (a ≠ b ∧ x.cc a b = c)
theorem aB_comm (x : Col) (c a b : Int) : aB x c a b = aB x c b a := by
  unfold aB
  rw [cc_comm x a b]
  by_cases h : a = b
  · subst h; rfl
  · have : ¬ b = a := fun e => h e.symm
    simp [h, this]
def goesB (x : Col) (c : Int) (l : List Int) (q : Int) : Bool := l.all fun i => aB x c i q
def inR (l : List Int) : Prop := ∀ z ∈ l, 0 ≤ z ∧ z < 17

theorem goes_val (k : Nat) (x : Col) (c : Int) (l : List Int) (q : Int) (hk : l.length + 1 ≤ k) (hl : (l.length : Int) ≤ 1099511627776) (hr : inR l) (hq : 0 ≤ q ∧ q < 17) : impl_Colouring_goesWith k x c l q = some (goesB x c l q) := by
  unfold impl_Colouring_goesWith slices_ContainsFunc slices_IndexFunc
  have hget : ∀ i : Nat, i < l.length → l.getD i 0 ∈ l := fun i hi => by
    have e : l.getD i 0 = l[i] := by simp [List.getD, hi]
    rw [e]; exact List.getElem_mem hi
  have hj : ∀ i : Nat, i < l.length → impl_Colouring_goesWith_c1 (l.getD i 0) x q c = some (!decide (l.getD i 0 ≠ q ∧ x.cc (l.getD i 0) q = c)) := by
    intro i hi
    have hz := hr _ (hget i hi)
    generalize l.getD i 0 = v at hz
    unfold impl_Colouring_goesWith_c1 impl_Colouring_joins
    by_cases e : v = q
    · subst e; simp
    · rw [implAt_ne x v q hz.1 hz.2 hq.1 hq.2 e]
      simp [e]
  have := loopI (f := fun k' i (_ : Unit) => slices_IndexFunc_l0 l (fun a0 => impl_Colouring_goesWith_c1 a0 x q c) k' i) (l.length : Int) 0
    (fun i _ => i ≤ l.length ∧ ∀ a : Nat, (a : Int) < i → (l.getD a 0 ≠ q ∧ x.cc (l.getD a 0) q = c)) (fun r => (goesB x c l q = true ∧ r = .inl ()) ∨ (goesB x c l q = false ∧ ∃ i : Int, 0 ≤ i ∧ r = .inr i)) ?_ ?_ k 0 () (by omega) (by omega) ⟨by omega, fun a h => by omega⟩
  · obtain ⟨r, e, h⟩ := this
    rw [e]
    rcases h with ⟨h, rfl⟩ | ⟨h, i, hi, rfl⟩
    · simp [h]
    · simp [h, hi]
  · intro k' i _ h0 h1 ⟨_, q2⟩
    obtain ⟨m, rfl⟩ := nat_of h0
    have hm : m < l.length := by omega
    by_cases hc : l.getD m 0 ≠ q ∧ x.cc (l.getD m 0) q = c
    · left
      refine ⟨(), ?_, by omega, fun a ha => ?_⟩
      · show slices_IndexFunc_l0 l _ (k' + 1) m = _
        rw [slices_IndexFunc_l0, w64_succ h0 h1 (by omega)]
        have := hj m hm
        rw [decide_eq_true hc] at this
        simp only [Int.toNat_natCast, h1, h0, decide_true, if_true, and_self, this, Option.bind_some, Bool.not_true, Bool.false_eq_true, if_false]
      · by_cases e : a = m
        · subst e; exact hc
        · exact q2 a (by omega)
    · right
      refine ⟨.inr m, ?_, .inr ⟨?_, m, h0, rfl⟩⟩
      · show slices_IndexFunc_l0 l _ (k' + 1) m = _
        rw [slices_IndexFunc_l0]
        have := hj m hm
        rw [decide_eq_false hc] at this
        simp only [Int.toNat_natCast, h1, h0, decide_true, if_true, and_self, this, Option.bind_some, Bool.not_false]
      · unfold goesB
        rw [List.all_eq_false]
        exact ⟨_, hget m hm, by unfold aB; simpa using hc⟩
  · intro k' i _ h0 h1 ⟨q1, q2⟩
    refine ⟨.inl (), ?_, .inl ⟨?_, rfl⟩⟩
    · show slices_IndexFunc_l0 l _ (k' + 1) i = _
      rw [slices_IndexFunc_l0]
      have : ¬ i < (l.length : Int) := by omega
      simp [this]
    · unfold goesB
      rw [List.all_eq_true]
      intro z hz
      obtain ⟨a, ha, rfl⟩ := List.getElem_of_mem hz
      have := q2 a (by omega)
      have e : l.getD a 0 = l[a] := by simp [List.getD, ha]
      rw [e] at this
      exact decide_eq_true this

/-! ### Points with which a clique goes on -/
def fromL (l : List Int) : Int := if 0 < l.length then l.getD (l.length - 1) 0 + 1 else 0
theorem fromL_snoc (l : List Int) (q : Int) : fromL (l ++ [q]) = q + 1 := by
  unfold fromL
  rw [if_pos (by simp)]
  have : (l ++ [q]).length - 1 = l.length := by simp
  rw [this, getD_app' _ _ _ _ (Nat.le_refl _)]
  simp
/-- The points with which a clique goes on. -/
def fr (x : Col) (c : Int) (l : List Int) : List Int := (ir (fromL l).toNat x.p.toNat).filter fun q => goesB x c l q
theorem goesB_snoc (x : Col) (c : Int) (l : List Int) (q z : Int) : goesB x c (l ++ [q]) z = (goesB x c l z && aB x c q z) := by
  unfold goesB; simp
theorem fr_snoc (x : Col) (c : Int) (l : List Int) (q : Nat) : fr x c (l ++ [(q : Int)]) = ((ir (q + 1) x.p.toNat).filter fun z => goesB x c l z).filter (aB x c q) := by
  unfold fr
  rw [fromL_snoc, show ((q : Int) + 1).toNat = q + 1 by omega, List.filter_filter]
  apply List.filter_congr
  intro z _
  rw [goesB_snoc, Bool.and_comm]
theorem fr_nil (x : Col) (c : Int) : fr x c [] = ir 0 x.p.toNat := by
  exact List.filter_eq_self.2 fun a _ => rfl

/-! ### A walk over all cliques, as the program does it -/
theorem clq_run {σ : Type} (x : Col) (hp : 1 ≤ x.p ∧ x.p ≤ 17) (c : Int) (cb : List Int → σ → Option (Bool × σ)) (F : Nat → List Int → σ → Option (Bool × σ)) (L : Nat → List Int → Nat → Int → σ → Option (Sum σ (Bool × σ)))
    (hF : ∀ k l s, l.length ≤ 100 → F (k + 1) l s = (cb l s).bind fun r => if !r.1 then some (false, r.2) else
      ((if decide (0 < (l.length : Int)) then (if 0 ≤ w64 ((l.length : Int) - 1) ∧ w64 ((l.length : Int) - 1) < (l.length : Int) then some (w64 ((l.getD (w64 ((l.length : Int) - 1)).toNat 0) + 1)) else none) else some 0) : Option (Int)).bind fun f => (L k l k f r.2).bind fun os => (match os with | .inl s => some (true, s) | .inr rr => some rr))
    (hL : ∀ k l k0 q s, l.length ≤ 100 → L k l (k0 + 1) q s = (if q < x.p then ((impl_Colouring_goesWith k x c l q).bind fun g => if g then (F k (l ++ [q]) s).bind fun r => if r.1 then L k l k0 (w64 (q + 1)) r.2 else some (.inr (false, r.2)) else L k l k0 (w64 (q + 1)) s) else some (.inl s))) :
    ∀ (d k : Nat) (l : List Int) (s : σ), inR l → l.length + d ≤ 100 → 0 ≤ fromL l → fromL l ≤ x.p → x.p - fromL l < d → d + 100 ≤ k → F k l s = runL cb (([] :: ac (aB x c) (fr x c l)).map (l ++ ·)) s := by
  intro d
  induction d with
  | zero => intro k l s _ _ _ h1 h2; omega
  | succ d ih =>
    intro k l s hr hlen h0 h1 h2 hk
    obtain ⟨k, rfl⟩ : ∃ q, k = q + 1 := ⟨k - 1, by omega⟩
    rw [hF k l s (by omega), List.map_cons, List.append_nil, runL]
    cases hcb : cb l s with
    | none => rfl
    | some r =>
      simp only [Option.bind_some]
      by_cases hr1 : r.1 = true
      · rw [hr1]
        simp only [Bool.not_true, Bool.false_eq_true, if_false, if_true]
        have hfrom : ((if decide (0 < (l.length : Int)) then (if 0 ≤ w64 ((l.length : Int) - 1) ∧ w64 ((l.length : Int) - 1) < (l.length : Int) then some (w64 ((l.getD (w64 ((l.length : Int) - 1)).toNat 0) + 1)) else none) else some 0) : Option (Int)) = some (fromL l) := by
          unfold fromL
          by_cases hp0 : 0 < l.length
          · have e : ((l.length : Int) - 1).toNat = l.length - 1 := by omega
            have hz : 0 ≤ l.getD (l.length - 1) 0 ∧ l.getD (l.length - 1) 0 < 17 := by
              have e2 : l.getD (l.length - 1) 0 = l[l.length - 1] := by simp [List.getD, show l.length - 1 < l.length by omega]
              rw [e2]; exact hr _ (List.getElem_mem _)
            rw [w64_id (n := (l.length : Int) - 1) (by omega), e, if_pos (by simpa using hp0), if_pos (by omega), w64_id (by omega), if_pos hp0]
          · have : ¬ 0 < (l.length : Int) := by omega
            simp [hp0, this]
        rw [hfrom]
        simp only [Option.bind_some]
        have loop : ∀ (k0 : Nat) (q : Nat) (s : σ), (x.p - q).toNat < k0 → fromL l ≤ q → (q : Int) ≤ x.p → L k l k0 q s = (runL cb ((ac (aB x c) ((ir q x.p.toNat).filter fun z => goesB x c l z)).map (l ++ ·)) s).bind fun r => if r.1 then some (.inl r.2) else some (.inr (false, r.2)) := by
          intro k0
          induction k0 with
          | zero => intro q s h; omega
          | succ k0 ihq =>
            intro q s g0 g1 g2
            rw [hL k l k0 q s (by omega)]
            by_cases hq : (q : Int) < x.p
            · rw [if_pos hq, ir_next (by omega), List.filter_cons, goes_val k x c l q (by omega) (by omega) hr (by omega)]
              simp only [Option.bind_some]
              have hnext : ∀ s, L k l k0 (w64 ((q : Int) + 1)) s = (runL cb ((ac (aB x c) ((ir (q + 1) x.p.toNat).filter fun z => goesB x c l z)).map (l ++ ·)) s).bind fun r => if r.1 then some (.inl r.2) else some (.inr (false, r.2)) := fun s => by
                rw [w64_id (by omega)]
                exact ihq (q + 1) s (by omega) (by omega) (by omega)
              by_cases hg : goesB x c l (q : Int) = true
              · have hrec := ih k (l ++ [(q : Int)]) s (fun z hz => by
                  rcases List.mem_append.1 hz with hz | hz
                  · exact hr z hz
                  · simp at hz; omega) (by simp; omega) (by rw [fromL_snoc]; omega) (by rw [fromL_snoc]; omega) (by rw [fromL_snoc]; omega) (by omega)
                rw [hg]
                simp only [if_true]
                rw [hrec, ac_cons, List.map_append, runL_app, List.map_map, fr_snoc]
                have hfun : ((fun x => l ++ x) ∘ fun x => (q : Int) :: x) = fun x => (l ++ [(q : Int)]) ++ x := by
                  funext z; simp
                rw [hfun]
                cases hrun : runL cb (([] :: ac (aB x c) (List.filter (aB x c q) (List.filter (fun z => goesB x c l z) (ir (q + 1) x.p.toNat)))).map fun x => (l ++ [(q : Int)]) ++ x) s with
                | none => rfl
                | some r =>
                  simp only [Option.bind_some]
                  by_cases hr2 : r.1 = true
                  · rw [hr2]
                    simp only [if_true]
                    exact hnext r.2
                  · have hr3 : r.1 = false := by simpa using hr2
                    rw [hr3]
                    simp
              · rw [if_neg hg, if_neg hg]
                exact hnext s
            · rw [ir_end (by omega), if_neg hq]
              simp [ac_nil, runL]
        obtain ⟨f, hf⟩ := nat_of h0
        rw [hf, loop k f r.2 (by omega) (by omega) (by omega)]
        have e : fr x c l = (ir f x.p.toNat).filter fun z => goesB x c l z := by
          unfold fr
          rw [hf]; rfl
        rw [e]
        cases hrun : runL cb ((ac (aB x c) ((ir f x.p.toNat).filter fun z => goesB x c l z)).map (l ++ ·)) r.2 with
        | none => rfl
        | some z =>
          simp only [Option.bind_some]
          by_cases hz : z.1 = true
          · rw [if_pos hz]
            simp only [Option.bind_some]
            rw [← hz]
          · have hz' : z.1 = false := by simpa using hz
            rw [if_neg hz]
            simp only [Option.bind_some]
            rw [← hz']
      · have hr3 : r.1 = false := by simpa using hr1
        rw [hr3]
        simp

/-- All points, and all cliques of a colour. -/
def pts (x : Col) : List Int := ir 0 x.p.toNat
def acl (x : Col) (c : Int) : List (List Int) := [] :: ac (aB x c) (pts x)

theorem clq_all {σ : Type} (x : Col) (hp : 1 ≤ x.p ∧ x.p ≤ 17) (c : Int) (cb : List Int → σ → Option (Bool × σ)) (F : Nat → List Int → σ → Option (Bool × σ)) (L : Nat → List Int → Nat → Int → σ → Option (Sum σ (Bool × σ)))
    (hF : ∀ k l s, l.length ≤ 100 → F (k + 1) l s = (cb l s).bind fun r => if !r.1 then some (false, r.2) else
      ((if decide (0 < (l.length : Int)) then (if 0 ≤ w64 ((l.length : Int) - 1) ∧ w64 ((l.length : Int) - 1) < (l.length : Int) then some (w64 ((l.getD (w64 ((l.length : Int) - 1)).toNat 0) + 1)) else none) else some 0) : Option (Int)).bind fun f => (L k l k f r.2).bind fun os => (match os with | .inl s => some (true, s) | .inr rr => some rr))
    (hL : ∀ k l k0 q s, l.length ≤ 100 → L k l (k0 + 1) q s = (if q < x.p then ((impl_Colouring_goesWith k x c l q).bind fun g => if g then (F k (l ++ [q]) s).bind fun r => if r.1 then L k l k0 (w64 (q + 1)) r.2 else some (.inr (false, r.2)) else L k l k0 (w64 (q + 1)) s) else some (.inl s)))
    (k : Nat) (hk : 120 ≤ k) (s : σ) : F k [] s = runL cb (acl x c) s := by
  rw [clq_run x hp c cb F L hF hL 20 k [] s (fun z hz => by simp at hz) (by simp) (by simp [fromL]) (by simp [fromL]; omega) (by simp [fromL]; omega) (by omega), fr_nil]
  have : (([] :: ac (aB x c) (ir 0 x.p.toNat)).map fun z => ([] : List Int) ++ z) = [] :: ac (aB x c) (ir 0 x.p.toNat) := by
    conv => rhs; rw [← List.map_id ([] :: ac (aB x c) (ir 0 x.p.toNat))]
    rfl
  rw [this]; rfl

/-! ### The first list of some length -/
theorem run_grt : ∀ (Ls : List (List Int)) (s : List Int), runL (fun l s => some (impl_Colouring_greatest_c1 l s)) Ls s = some (true, grt Ls s)
  | [], s => rfl
  | a :: t, s => by
    rw [runL]
    simp only [Option.bind_some]
    have e : impl_Colouring_greatest_c1 a s = (true, if s.length < a.length then a else s) := by
      unfold impl_Colouring_greatest_c1 letO
      by_cases h : s.length < a.length
      · have : (s.length : Int) < a.length := by omega
        simp [h, this]
      · have : ¬ (s.length : Int) < a.length := by omega
        simp [h, this]
    rw [e]
    simp only [if_true]
    rw [run_grt t]; rfl

theorem greatest_eq {k : Nat} (hk : 5000 ≤ k) (x : Col) (hp : 1 ≤ x.p ∧ x.p ≤ 17) (c : Int) : impl_Colouring_greatest k x c = some (grt (acl x c) []) := by
  unfold impl_Colouring_greatest
  have := clq_all x hp c (fun l s => some (impl_Colouring_greatest_c1 l s)) (fun k l s => impl_Colouring_cliques_on_greatest_c1 k x c l s) (fun k l k0 q s => impl_Colouring_cliques_on_greatest_c1_l0 k (impl_Colouring_cliques_on_greatest_c1 k) x c l k0 q s)
    (fun k l s _ => by
      show impl_Colouring_cliques_on_greatest_c1 (k + 1) x c l s = _
      rw [impl_Colouring_cliques_on_greatest_c1, impl_Colouring_cliques_on_greatest_c1_body]
      simp only [Option.bind_some]
      congr 1; congr 1; funext f; congr 1; funext os; cases os <;> rfl) (fun k l k0 q s hl => by
      rw [impl_Colouring_cliques_on_greatest_c1_l0]
      by_cases hq : q < x.p
      · simp only [hq, decide_true, if_true]
        cases impl_Colouring_goesWith k x c l q with
        | none => rfl
        | some g =>
          cases g with
          | false => simp
          | true =>
            have hl1 : l.length ≤ 1099511627776 := by omega
            have hl2 : l.length + 1 ≤ 1099511627776 := by omega
            cases l with
            | nil => 
              simp only [Option.bind_some, if_true, List.isEmpty_nil, List.length_cons, List.length_nil, List.nil_append]
              cases impl_Colouring_cliques_on_greatest_c1 k x c [q] s with
              | none => rfl
              | some r => cases h : r.1 <;> simp [h]
            | cons a t =>
              simp only [Option.bind_some, if_true, List.isEmpty_cons, Bool.false_eq_true, if_false, cloneA, hl1, List.length_singleton, hl2]
              cases impl_Colouring_cliques_on_greatest_c1 k x c ((a :: t) ++ [q]) s with
              | none => rfl
              | some r => cases h : r.1 <;> simp [h]
      · simp [hq]) k (by omega) []
  rw [show impl_Colouring_cliques_on_greatest_c1 k x c [] [] = _ from this, run_grt]
  rfl
end Go.Proofs.YtfnbhfobgimnjaaGreat
