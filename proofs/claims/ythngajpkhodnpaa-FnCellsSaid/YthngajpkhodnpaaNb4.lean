/-
  Walks for NeighboursOf: the tests of the law on slices of cells; the sides out of range.
-/
import Derived.Test.YthngajpkhodnpaaNb3
import Derived.BigRegion
set_option linter.unusedSimpArgs false
set_option linter.unusedVariables false
namespace Go.Proofs.Ythngajpkhodnpaa
open Go.RowKit

/-- a row of n cells, their numbers in a list -/
def HoldsC (w : World) (g n : Nat) (zs : List (Int × Int)) : Prop := ∀ i, i < n → w.cell? ⟨g, i * 2, none⟩ = some (.int .i32 (zs.getD i (0, 0)).1) ∧ w.cell? ⟨g, i * 2 + 1, none⟩ = some (.int .i32 (zs.getD i (0, 0)).2)
theorem HoldsC.kept {w w' : World} {g n : Nat} {zs : List (Int × Int)} (h : HoldsC w g n zs) (hk : Kept w w') : HoldsC w' g n zs := fun i hi => ⟨hk.cell (h i hi).1, hk.cell (h i hi).2⟩
end Go.Proofs.Ythngajpkhodnpaa
