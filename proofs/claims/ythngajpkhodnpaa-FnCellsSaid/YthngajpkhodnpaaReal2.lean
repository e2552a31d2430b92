/-
  The walks of the functions on narrow numbers, both sides.
-/
import Derived.Test.YthngajpkhodnpaaReal
set_option linter.unusedSimpArgs false
set_option linter.unusedVariables false
namespace Go.Proofs.Ythngajpkhodnpaa
open Go.RowKit

/-! ### the same number -/
theorem same_nan (a b : Nat) (h : nanB a = true) : sameB a b = nanB b := by
  unfold sameB; rw [h, Bool.true_and]
  by_cases hb : a = b
  · subst hb; simp [h]
  · simp [hb]
theorem same_num (a b : Nat) (h : nanB a = false) : sameB a b = (a == b) := by
  unfold sameB; rw [h, Bool.false_and, Bool.false_or]
theorem beq_cast (a b : Nat) : ((a : Int) == (b : Int)) = (a == b) := by
  rw [Bool.eq_iff_iff]; simp; omega


theorem ordS_nan (a b : Nat) (h : nanB a = true) : (FloatKind.f32.format.order a b == some .eq) = false := by
  rw [show FloatKind.f32.format.order a b = none from order_nan_left Ieee.single okS a b (by rw [isnan_single]; exact h)]; rfl
theorem ordS_nan' (a b : Nat) (h : nanB b = true) : (FloatKind.f32.format.order a b == some .eq) = false := by
  rw [show FloatKind.f32.format.order a b = none from order_nan_right Ieee.single okS a b (by rw [isnan_single]; exact h)]; rfl


/-! ### the kind -/
def kindB (a : Nat) : Int := if nanB a then 4 else if finB a then (if a % 2147483648 = 0 then 0 else if a % 2147483648 < 8388608 then 1 else 2) else 3

/-- the tests on a size, as Bools -/
def KT (x : Int) (t1 t2 t3 t4 : Bool) : Prop := decide (2139095040 < x) = t1 ∧ (x == 2139095040) = t2 ∧ (x == 0) = t3 ∧ decide (x < 8388608) = t4
theorem kind_cases (a : Nat) : (nanB a = true ∧ kindB a = 4 ∧ KT ((a : Int) % 2147483648) true false false false)
    ∨ (nanB a = false ∧ finB a = false ∧ kindB a = 3 ∧ KT ((a : Int) % 2147483648) false true false false)
    ∨ (nanB a = false ∧ finB a = true ∧ kindB a = 0 ∧ KT ((a : Int) % 2147483648) false false true true)
    ∨ (nanB a = false ∧ finB a = true ∧ kindB a = 1 ∧ KT ((a : Int) % 2147483648) false false false true)
    ∨ (nanB a = false ∧ finB a = true ∧ kindB a = 2 ∧ KT ((a : Int) % 2147483648) false false false false) := by
  unfold kindB nanB finB KT
  simp only [decide_eq_true_eq, decide_eq_false_iff_not, beq_iff_eq, beq_eq_false_iff_ne]
  by_cases h1 : 2139095040 < a % 2147483648
  · left; refine ⟨h1, by simp [h1], ?_, ?_, ?_, ?_⟩ <;> omega
  · right
    by_cases h2 : a % 2147483648 < 2139095040
    · right
      by_cases h3 : a % 2147483648 = 0
      · left; refine ⟨h1, h2, by simp [h1, h2, h3], ?_, ?_, ?_, ?_⟩ <;> omega
      · right
        by_cases h4 : a % 2147483648 < 8388608
        · left; refine ⟨h1, h2, by simp [h1, h2, h3, h4], ?_, ?_, ?_, ?_⟩ <;> omega
        · right; refine ⟨h1, h2, by simp [h1, h2, h3, h4], ?_, ?_, ?_, ?_⟩ <;> omega
    · left; refine ⟨h1, h2, by simp [h1, h2], ?_, ?_, ?_, ?_⟩ <;> omega


/-! ### the place -/

set_option maxHeartbeats 400000 in
theorem specIn (n lo hi : Int) (w : World) :
    Calls Try.prog 31 #[.int .i64 n, .int .i64 lo, .int .i64 hi] w fun e w' => e = .returned (.bool (decide (lo ≤ n ∧ n ≤ hi))) ∧ w = w' := by
  by_cases h1 : lo ≤ n <;> by_cases h2 : n ≤ hi <;> simp only [h1, h2, true_and, false_and, decide_true, decide_false]
  all_goals
    go_enter Try.func31, Try.ntmps31
    go_wp2
    go_ret
    exact ⟨by simp, rfl⟩
end Go.Proofs.Ythngajpkhodnpaa
