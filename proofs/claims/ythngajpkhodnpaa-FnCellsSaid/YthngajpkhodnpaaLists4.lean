/-
  The law SumOf walked: whatever slice comes in; no condition beside its length.
-/
import Derived.Test.YthngajpkhodnpaaLists3
set_option linter.unusedSimpArgs false
set_option linter.unusedVariables false
namespace Go.Proofs.Ythngajpkhodnpaa
open Go.RowKit

theorem holds_new (w : World) (xs : List Nat) (n : Nat) (hl : xs.length = n) (t : TypeId) : Holds32 (w.alloc (.cells (fl xs) t)) w.heap.size 0 n xs := by
  intro i hi
  rw [Nat.zero_add, World.cell?_alloc_at (fl xs) t _ i rfl, fl_get, List.getElem?_eq_getElem (by omega)]
  simp [List.getD, List.getElem?_eq_getElem (show i < xs.length by omega)]


/-- one statement for both sides: a sum of at most 256 numbers, or the limit -/
def SumR (xs : List Nat) (n s : Nat) (code : Int) : Prop := n ≤ 256 ∧ SumIs xs n s ∧ code = 0 ∨ 256 < n ∧ s = 0 ∧ code = 3
theorem sumR_eqn (xs : List Nat) (n s t : Nat) (c d : Int) (h : SumR xs n s c) (h' : SumR xs n t d) : eqn s t ∧ c = d := by
  rcases h with ⟨h1, h2, h3⟩ | ⟨h1, h2, h3⟩ <;> rcases h' with ⟨k1, k2, k3⟩ | ⟨k1, k2, k3⟩
  · exact ⟨sum_eqn xs n s t h2 k2, by omega⟩
  · omega
  · omega
  · exact ⟨by rw [h2, k2]; exact eqn_refl _, by omega⟩

end Go.Proofs.Ythngajpkhodnpaa
