/-
  The walks of the sums of products on both sides, and of the law DotOf; no condition beside the lengths.
-/
import Derived.Test.YthngajpkhodnpaaLists4
import Derived.OwnWalk
set_option linter.unusedSimpArgs false
set_option linter.unusedVariables false
namespace Go.Proofs.Ythngajpkhodnpaa
open Go.RowKit

/-- what a sum of terms from left to right can be, the i-th term being one of those that T lets -/
def SumP (T : Nat → Nat → Prop) : Nat → Nat → Prop
  | 0, s => s = 0
  | 1, s => T 0 s
  | k + 2, s => ∃ t x w, SumP T (k + 1) t ∧ T (k + 1) x ∧ s = arB .add .f32 t x w
theorem sumP_eqn (T : Nat → Nat → Prop) (hT : ∀ i x y, T i x → T i y → eqn x y) : ∀ k s t, SumP T k s → SumP T k t → eqn s t := by
  intro k
  induction k with
  | zero => intro s t h h'; unfold SumP at h h'; subst h; subst h'; exact eqn_refl _
  | succ k ih =>
    intro s t h h'
    cases k with
    | zero => exact hT 0 s t h h'
    | succ k =>
      obtain ⟨t1, x1, w1, a1, b1, rfl⟩ := h
      obtain ⟨t2, x2, w2, a2, b2, rfl⟩ := h'
      exact ar_eqn .add _ _ _ _ _ _ (ih _ _ a1 a2) (hT _ _ _ b1 b2)
theorem sumP_next (T : Nat → Nat → Prop) (k t x : Nat) (w : World) (hk : ¬ k = 0) (h : SumP T k t) (hx : T k x) : SumP T (k + 1) (arB .add .f32 t x w) := by
  cases k with
  | zero => exact absurd rfl hk
  | succ k => exact ⟨t, x, w, h, hx, rfl⟩
/-- a product of two lists at a place -/
def DotT (xs ys : List Nat) (i x : Nat) : Prop := ∃ w, eqn x (arB .mul .f32 (xs.getD i 0) (ys.getD i 0) w)
theorem dotT_eqn (xs ys : List Nat) (i x y : Nat) (h : DotT xs ys i x) (h' : DotT xs ys i y) : eqn x y := by
  obtain ⟨w, h⟩ := h; obtain ⟨w', h'⟩ := h'
  exact eqn_trans h (eqn_trans (ar_eqn .mul _ _ _ _ w w' (eqn_refl _) (eqn_refl _)) (eqn_symm h'))
theorem dotT_mk (xs ys : List Nat) (i : Nat) (w : World) : DotT xs ys i (arB .mul .f32 (xs.getD i 0) (ys.getD i 0) w) := ⟨w, eqn_refl _⟩
theorem sum_of_list (xs ys zs : List Nat) (n : Nat) (hz : ∀ i, i < n → DotT xs ys i (zs.getD i 0)) : ∀ k s, k ≤ n → SumIs zs k s → SumP (DotT xs ys) k s := by
  intro k
  induction k with
  | zero => intro s _ h; exact h
  | succ k ih =>
    intro s hk h
    cases k with
    | zero => obtain ⟨w, hw⟩ := hz 0 (by omega); exact ⟨w, eqn_trans h hw⟩
    | succ k =>
      obtain ⟨t, x, w, h1, h2, rfl⟩ := h
      obtain ⟨w', hw⟩ := hz (k + 1) (by omega)
      exact ⟨t, x, w, ih t (by omega) h1, ⟨w', eqn_trans h2 hw⟩, rfl⟩

/-! ### the code of two lists -/
def twoB (n m : Nat) : Int := if 256 < n ∨ 256 < m then 3 else if n = m then 0 else 2

/-! ### the sums -/
theorem twoB_zero (n : Nat) (hn : n ≤ 256) : twoB n n = 0 := by unfold twoB; rw [if_neg (by omega), if_pos rfl]
end Go.Proofs.Ythngajpkhodnpaa
