/-
  The walks of sameFloat and of the functions that lead from a place to a number, to the next number and to the parts of a number; no condition beside the words' range.
-/
import Derived.Test.YtbceiphiopdegaaReal2
import Derived.RowKit3
set_option linter.unusedSimpArgs false
set_option linter.unusedVariables false
namespace Go.Proofs.Ytbceiphiopdegaa
open Go.RowKit

/-! ### sameFloat: the same number twice -/
theorem quo_zero (w : World) (t : TypeId) {P : Program} : (binOp .quo t (.float .f64 4607182418800017408) (.float .f64 0)).run P w = .ok (.float .f64 9218868437227405312) w :=
  run_float_arith w .quo t .f64 _ _ _ (by decide +kernel)
theorem quo_mzero (w : World) (t : TypeId) {P : Program} : (binOp .quo t (.float .f64 4607182418800017408) (.float .f64 9223372036854775808)).run P w = .ok (.float .f64 18442240474082181120) w :=
  run_float_arith w .quo t .f64 _ _ _ (by decide +kernel)
/-- what sameFloat is handed: bits of a word -/
def W64 (x : Nat) : Prop := x < 18446744073709551616

set_option maxHeartbeats 400000 in
theorem same_nans (x y : Nat) (hx : nan64 x = true) (hy : nan64 y = true) (w : World) :
    Calls Try.prog 27 #[.float .f64 x, .float .f64 y] w fun e w' => e = .returned (.bool true) ∧ w = w' := by
  have h1 := order_self_double x
  have h2 := order_self_double y
  rw [hx] at h1; rw [hy] at h2
  clear hx hy
  go_enter Try.func27, Try.ntmps27
  go_wp2
  go_ret
  exact ⟨rfl, rfl⟩
set_option maxHeartbeats 400000 in
theorem same_p0 (w : World) :
    Calls Try.prog 27 #[.float .f64 0, .float .f64 0] w fun e w' => e = .returned (.bool true) ∧ w = w' := by
  have h1 : (FloatKind.f64.format.order 0 0 != some .eq) = false := by decide +kernel
  have h2 : (FloatKind.f64.format.order 0 0 == some .eq) = true := by decide +kernel
  have h3 : (FloatKind.f64.format.order 9218868437227405312 0 == some .gt) = true := by decide +kernel
  have h4 := fun w t => quo_zero (P := Try.prog) w t
  go_enter Try.func27, Try.ntmps27
  go_wp2
  go_ret
  exact ⟨rfl, rfl⟩
set_option maxHeartbeats 400000 in
theorem same_m0 (w : World) :
    Calls Try.prog 27 #[.float .f64 9223372036854775808, .float .f64 9223372036854775808] w fun e w' => e = .returned (.bool true) ∧ w = w' := by
  have h1 : (FloatKind.f64.format.order 9223372036854775808 9223372036854775808 != some .eq) = false := by decide +kernel
  have h2 : (FloatKind.f64.format.order 9223372036854775808 0 == some .eq) = true := by decide +kernel
  have h3 : (FloatKind.f64.format.order 18442240474082181120 0 == some .gt) = false := by decide +kernel
  have h4 := fun w t => quo_mzero (P := Try.prog) w t
  go_enter Try.func27, Try.ntmps27
  go_wp2
  go_ret
  exact ⟨rfl, rfl⟩
set_option maxHeartbeats 400000 in
theorem same_num64 (x : Nat) (hx : nan64 x = false) (hz : ¬ x % 9223372036854775808 = 0) (w : World) :
    Calls Try.prog 27 #[.float .f64 x, .float .f64 x] w fun e w' => e = .returned (.bool true) ∧ w = w' := by
  have h1 := order_self_double x
  have h2 := order_same_double x
  have h3 := zero_double x
  rw [hx] at h1 h2
  rw [decide_eq_false hz] at h3
  clear hx hz
  go_enter Try.func27, Try.ntmps27
  go_wp2
  go_ret
  exact ⟨by simp [h2], rfl⟩
theorem same_ok (x y : Nat) (hx : W64 x) (h : eqv x y) (w : World) :
    Calls Try.prog 27 #[.float .f64 x, .float .f64 y] w fun e w' => e = .returned (.bool true) ∧ w = w' := by
  rcases h with rfl | h
  · by_cases hn : nan64 x = true
    · exact same_nans x x hn hn w
    · by_cases hz : x % 9223372036854775808 = 0
      · have : x = 0 ∨ x = 9223372036854775808 := by unfold W64 at hx; omega
        rcases this with rfl | rfl
        · exact same_p0 w
        · exact same_m0 w
      · exact same_num64 x (by simpa using hn) hz w
  · exact same_nans x y h.1 h.2 w

/-! ### from a place to a number -/
theorem at_neg (k : Int) (h1 : -2147483648 ≤ k) (h2 : k < 0) : (2147483647 - k).toNat = atB k := by unfold atB; rw [if_pos h2]

/-! ### the next number -/
/-- the next greater number, of a number that is no NaN -/
def aboveB (a : Nat) : Nat := if nanB a then a else if a = 2139095040 then a else if a % 2147483648 = 0 then 1 else atB (keyB a + 1)
theorem key_range (a : Nat) (ha : a < 4294967296) (h : nanB a = false) : -2139095041 ≤ keyB a ∧ keyB a ≤ 2139095040 := by
  have := nan_lt_inf a h
  unfold keyB; split <;> omega
end Go.Proofs.Ytbceiphiopdegaa
