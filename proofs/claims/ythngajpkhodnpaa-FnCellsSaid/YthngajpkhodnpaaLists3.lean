/-
  The walks of the sums of narrow numbers on both sides, and of the law SumOf; no condition beside the length.
-/
import Derived.Test.YthngajpkhodnpaaLists2
set_option linter.unusedSimpArgs false
set_option linter.unusedVariables false
namespace Go.Proofs.Ythngajpkhodnpaa
open Go.RowKit

/-- what a sum from left to right can be: the first k numbers -/
def SumIs : List Nat → Nat → Nat → Prop
  | xs, 0, s => s = 0
  | xs, 1, s => eqn s (xs.getD 0 0)
  | xs, k + 2, s => ∃ t x w, SumIs xs (k + 1) t ∧ eqn x (xs.getD (k + 1) 0) ∧ s = arB .add .f32 t x w

theorem eqn_refl (x : Nat) : eqn x x := .inl rfl
theorem eqn_symm {x y : Nat} (h : eqn x y) : eqn y x := by rcases h with rfl | h; exact .inl rfl; exact .inr ⟨h.2, h.1⟩
theorem eqn_trans {x y z : Nat} (h : eqn x y) (h' : eqn y z) : eqn x z := by
  rcases h with rfl | h
  · exact h'
  · rcases h' with rfl | h'
    · exact .inr h
    · exact .inr ⟨h.1, h'.2⟩
theorem sum_eqn (xs : List Nat) : ∀ k s t, SumIs xs k s → SumIs xs k t → eqn s t := by
  intro k
  induction k with
  | zero => intro s t h h'; unfold SumIs at h h'; subst h; subst h'; exact eqn_refl _
  | succ k ih =>
    intro s t h h'
    cases k with
    | zero => exact eqn_trans h (eqn_symm h')
    | succ k =>
      obtain ⟨t1, x1, w1, a1, b1, rfl⟩ := h
      obtain ⟨t2, x2, w2, a2, b2, rfl⟩ := h'
      exact ar_eqn .add _ _ _ _ _ _ (ih _ _ a1 a2) (eqn_trans b1 (eqn_symm b2))
theorem sum_first (xs : List Nat) : SumIs xs 1 (xs.getD 0 0) := eqn_refl _
theorem sum_next (xs : List Nat) (k t : Nat) (w : World) (hk : ¬ k = 0) (h : SumIs xs k t) : SumIs xs (k + 1) (arB .add .f32 t (xs.getD k 0) w) := by
  cases k with
  | zero => exact absurd rfl hk
  | succ k => exact ⟨t, _, w, h, eqn_refl _, rfl⟩


end Go.Proofs.Ythngajpkhodnpaa
