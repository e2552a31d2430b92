/-
  The walks of sameFloat and of the functions that lead from a place to a number, to the next number and to the parts of a number; no condition beside the words' range.
-/
import Derived.Test.YthngajpkhodnpaaReal2
import Derived.RowKit3
set_option linter.unusedSimpArgs false
set_option linter.unusedVariables false
namespace Go.Proofs.Ythngajpkhodnpaa
open Go.RowKit

/-! ### sameFloat: the same number twice -/
theorem quo_zero (w : World) (t : TypeId) {P : Program} : (binOp .quo t (.float .f64 4607182418800017408) (.float .f64 0)).run P w = .ok (.float .f64 9218868437227405312) w :=
  run_float_arith w .quo t .f64 _ _ _ (by decide +kernel)
theorem quo_mzero (w : World) (t : TypeId) {P : Program} : (binOp .quo t (.float .f64 4607182418800017408) (.float .f64 9223372036854775808)).run P w = .ok (.float .f64 18442240474082181120) w :=
  run_float_arith w .quo t .f64 _ _ _ (by decide +kernel)
/-- what sameFloat is handed: bits of a word -/
def W64 (x : Nat) : Prop := x < 18446744073709551616


/-! ### from a place to a number -/
theorem at_neg (k : Int) (h1 : -2147483648 ≤ k) (h2 : k < 0) : (2147483647 - k).toNat = atB k := by unfold atB; rw [if_pos h2]

/-! ### the next number -/
/-- the next greater number, of a number that is no NaN -/
def aboveB (a : Nat) : Nat := if nanB a then a else if a = 2139095040 then a else if a % 2147483648 = 0 then 1 else atB (keyB a + 1)
theorem key_range (a : Nat) (ha : a < 4294967296) (h : nanB a = false) : -2139095041 ≤ keyB a ∧ keyB a ≤ 2139095040 := by
  have := nan_lt_inf a h
  unfold keyB; split <;> omega
end Go.Proofs.Ythngajpkhodnpaa
