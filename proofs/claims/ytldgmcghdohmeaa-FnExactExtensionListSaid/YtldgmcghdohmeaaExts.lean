/- Lists that go on by colours, in order: plain, no program. No conditions beyond those that each lemma states. -/
import Derived.Test.YtldgmcghdohmeaaClqB
set_option linter.unusedVariables false
set_option linter.unusedSimpArgs false
namespace Go.Proofs.Ytldgmcghdohmeaa
open Go Go.RowKit Ab

/-- All lists with n more colours (below K) behind l, each colour as ok allows it, in order. -/
def exts (K : Nat) (ok : List Int → Nat → Bool) : Nat → List Int → List (List Int)
  | 0, l => [l]
  | n + 1, l => (List.range K).flatMap fun c => if ok l c then exts K ok n (l ++ [(c : Int)]) else []

section
variable {K : Nat} {ok : List Int → Nat → Bool} {n : Nat} {l : List Int}
def esub (K : Nat) (ok : List Int → Nat → Bool) (n : Nat) (l : List Int) (c : Nat) : List (List Int) := if ok l c then exts K ok n (l ++ [(c : Int)]) else []
def epre (K : Nat) (ok : List Int → Nat → Bool) (n : Nat) (l : List Int) (c : Nat) : List (List Int) := (List.range c).flatMap (esub K ok n l)
theorem exts_zero : exts K ok 0 l = [l] := by rw [exts]
theorem exts_succ : exts K ok (n + 1) l = epre K ok n l K := by rw [exts]; rfl
theorem epre_zero : epre K ok n l 0 = [] := rfl
theorem epre_succ (c : Nat) : epre K ok n l (c + 1) = epre K ok n l c ++ esub K ok n l c := by
  unfold epre
  rw [List.range_succ, List.flatMap_append]
  simp
theorem epre_more (c d : Nat) : ∃ B, epre K ok n l (c + d) = epre K ok n l c ++ B := by
  induction d with
  | zero => exact ⟨[], by simp⟩
  | succ d ih =>
    obtain ⟨B, e⟩ := ih
    exact ⟨B ++ esub K ok n l (c + d), by rw [← Nat.add_assoc, epre_succ, e, List.append_assoc]⟩
theorem exts_len : ∀ (n : Nat) (l : List Int), ∀ e ∈ exts K ok n l, e.length = l.length + n := by
  intro n
  induction n with
  | zero => intro l e he; rw [exts_zero] at he; simp at he; subst he; simp
  | succ n ih =>
    intro l e he
    rw [exts] at he
    obtain ⟨c, _, hc⟩ := List.mem_flatMap.1 he
    split at hc
    · have := ih _ e hc
      simp at this
      omega
    · simp at hc
end
theorem take_app_le {α : Type} (A B : List α) (m : Nat) (h : A.length ≤ m) : (A ++ B).take m = A ++ B.take (m - A.length) := by
  rw [List.take_append, List.take_of_length_le h]

end Go.Proofs.Ytldgmcghdohmeaa
