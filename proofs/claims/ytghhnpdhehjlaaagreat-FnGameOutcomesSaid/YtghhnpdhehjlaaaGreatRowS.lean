/- A slice of slices of whole numbers that comes in, as data. No conditions. -/
import Derived.Test.YtghhnpdhehjlaaaGreatRow
set_option linter.unusedVariables false
set_option linter.unusedSimpArgs false
namespace Go.Proofs.YtghhnpdhehjlaaaGreat
open Go Go.RowKit Ab Go.ChangeShapes Go.WideShapes

section
variable {H : Type} {enc : TypeId × Value → H} {P : Program} {W : World} {base : Nat}

theorem immW {b : Nat} (h : b < W.heap.size) : imm (fun _ => False) W [] [] b := ⟨⟨h, fun _ _ hx => by simp at hx⟩, id⟩

theorem add_plain {a : Addr} {v : Value} (h : W.cell? (a.add 0) = some v) (i : Nat) : a.add i = ⟨a.block, a.off + i, none⟩ ∧ a = ⟨a.block, a.off, none⟩ := by
  have h0 : a.spot = none := by
    unfold Addr.add at h
    rw [if_pos rfl] at h
    unfold World.cell? at h
    split at h
    · cases hs : a.spot with
      | none => rfl
      | some s => rw [hs] at h; simp at h
    · cases h
  have e : a = ⟨a.block, a.off, none⟩ := by cases a; simp at h0; subst h0; rfl
  refine ⟨?_, e⟩
  unfold Addr.add
  split
  · next h => subst h; rw [Nat.add_zero]; exact e
  · rfl

theorem row_mem {a : Addr} {n i : Nat} (h : i < n) : ∃ y ∈ MemPlace.row a n, y.block = a.block := by
  refine ⟨.cell a.block (a.off + i), ?_, rfl⟩
  unfold MemPlace.row
  exact List.mem_map.2 ⟨i, by simpa using h, rfl⟩

end
end Go.Proofs.YtghhnpdhehjlaaaGreat
