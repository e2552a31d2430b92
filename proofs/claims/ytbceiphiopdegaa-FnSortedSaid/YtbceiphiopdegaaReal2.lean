/-
  The walks of the functions on narrow numbers, both sides.
-/
import Derived.Test.YtbceiphiopdegaaReal
set_option linter.unusedSimpArgs false
set_option linter.unusedVariables false
namespace Go.Proofs.Ytbceiphiopdegaa
open Go.RowKit

/-! ### the same number -/
theorem same_nan (a b : Nat) (h : nanB a = true) : sameB a b = nanB b := by
  unfold sameB; rw [h, Bool.true_and]
  by_cases hb : a = b
  · subst hb; simp [h]
  · simp [hb]
theorem same_num (a b : Nat) (h : nanB a = false) : sameB a b = (a == b) := by
  unfold sameB; rw [h, Bool.false_and, Bool.false_or]
theorem beq_cast (a b : Nat) : ((a : Int) == (b : Int)) = (a == b) := by
  rw [Bool.eq_iff_iff]; simp; omega

set_option maxHeartbeats 400000 in
theorem specSame1 (a b : Nat) (w : World) :
    Calls Try.prog 31 #[.float .f32 a, .float .f32 b] w fun e w' => e = .returned (.bool (sameB a b)) ∧ w = w' := by
  have hb := bits32
  have hc := beq_cast a b
  by_cases h1 : nanB a = true
  · have h2 := same_nan a b h1
    rw [h2]; clear h2
    go_enter Try.func31, Try.ntmps31
    go_wp2_with (go_at_call 32; refine (specIsNaN _ _).mono ?_; rintro e w' ⟨rfl, rfl⟩)
    go_ret
    exact ⟨rfl, rfl⟩
  · have h1 : nanB a = false := by simpa using h1
    by_cases h2 : nanB b = true
    · have h3 : sameB a b = false := by rw [same_num a b h1]; simp; rintro rfl; rw [h1] at h2; cases h2
      rw [h3]; clear h3
      go_enter Try.func31, Try.ntmps31
      go_wp2_with (go_at_call 32; refine (specIsNaN _ _).mono ?_; rintro e w' ⟨rfl, rfl⟩)
      go_ret
      exact ⟨rfl, rfl⟩
    · have h2 : nanB b = false := by simpa using h2
      rw [same_num a b h1]
      go_enter Try.func31, Try.ntmps31
      go_wp2_with (go_at_call 32; refine (specIsNaN _ _).mono ?_; rintro e w' ⟨rfl, rfl⟩)
      go_ret
      exact ⟨rfl, rfl⟩

theorem ordS_nan (a b : Nat) (h : nanB a = true) : (FloatKind.f32.format.order a b == some .eq) = false := by
  rw [show FloatKind.f32.format.order a b = none from order_nan_left Ieee.single okS a b (by rw [isnan_single]; exact h)]; rfl
theorem ordS_nan' (a b : Nat) (h : nanB b = true) : (FloatKind.f32.format.order a b == some .eq) = false := by
  rw [show FloatKind.f32.format.order a b = none from order_nan_right Ieee.single okS a b (by rw [isnan_single]; exact h)]; rfl

set_option maxHeartbeats 400000 in
theorem implSame (a b : Nat) (ha : a < 4294967296) (hb : b < 4294967296) (w : World) :
    Calls Try.prog 60 #[.float .f32 a, .float .f32 b] w fun e w' => e = .returned (.bool (sameB a b)) ∧ w = w' := by
  by_cases h1 : nanB a = true
  · have h2 := same_nan a b h1
    rw [h2]; clear h2
    have h3 := ordS_nan a b h1
    by_cases h2 : nanB b = true
    · rw [h2]
      go_enter Try.func60, Try.ntmps60
      go_wp2_with (go_at_call 45; refine (implIsNaN _ _).mono ?_; rintro e w' ⟨rfl, rfl⟩)
      go_ret
      exact ⟨rfl, rfl⟩
    · have h2 : nanB b = false := by simpa using h2
      rw [h2]
      go_enter Try.func60, Try.ntmps60
      go_wp2_with (go_at_call 45; refine (implIsNaN _ _).mono ?_; rintro e w' ⟨rfl, rfl⟩)
      go_ret
      exact ⟨rfl, rfl⟩
  · have h1 : nanB a = false := by simpa using h1
    have h4 := eq_single a b ha hb
    rw [h1, Bool.not_false, Bool.true_and] at h4
    rw [same_num a b h1, ← h4]
    clear h4
    by_cases h3 : (FloatKind.f32.format.order a b == some .eq) = true
    · rw [h3, Bool.true_and]
      go_enter Try.func60, Try.ntmps60
      go_wp2_with (first | (go_at_call 45; refine (implIsNaN _ _).mono ?_; rintro e w' ⟨rfl, rfl⟩) | (go_at_call 63; refine (implIsNeg _ (by assumption) _).mono ?_; rintro e w' ⟨rfl, rfl⟩))
      go_ret
      exact ⟨rfl, rfl⟩
    · have h3 : (FloatKind.f32.format.order a b == some .eq) = false := by simpa using h3
      rw [h3, Bool.false_and]
      go_enter Try.func60, Try.ntmps60
      go_wp2_with (go_at_call 45; refine (implIsNaN _ _).mono ?_; rintro e w' ⟨rfl, rfl⟩)
      go_ret
      exact ⟨rfl, rfl⟩

/-! ### the kind -/
def kindB (a : Nat) : Int := if nanB a then 4 else if finB a then (if a % 2147483648 = 0 then 0 else if a % 2147483648 < 8388608 then 1 else 2) else 3

/-- the tests on a size, as Bools -/
def KT (x : Int) (t1 t2 t3 t4 : Bool) : Prop := decide (2139095040 < x) = t1 ∧ (x == 2139095040) = t2 ∧ (x == 0) = t3 ∧ decide (x < 8388608) = t4
theorem kind_cases (a : Nat) : (nanB a = true ∧ kindB a = 4 ∧ KT ((a : Int) % 2147483648) true false false false)
    ∨ (nanB a = false ∧ finB a = false ∧ kindB a = 3 ∧ KT ((a : Int) % 2147483648) false true false false)
    ∨ (nanB a = false ∧ finB a = true ∧ kindB a = 0 ∧ KT ((a : Int) % 2147483648) false false true true)
    ∨ (nanB a = false ∧ finB a = true ∧ kindB a = 1 ∧ KT ((a : Int) % 2147483648) false false false true)
    ∨ (nanB a = false ∧ finB a = true ∧ kindB a = 2 ∧ KT ((a : Int) % 2147483648) false false false false) := by
  unfold kindB nanB finB KT
  simp only [decide_eq_true_eq, decide_eq_false_iff_not, beq_iff_eq, beq_eq_false_iff_ne]
  by_cases h1 : 2139095040 < a % 2147483648
  · left; refine ⟨h1, by simp [h1], ?_, ?_, ?_, ?_⟩ <;> omega
  · right
    by_cases h2 : a % 2147483648 < 2139095040
    · right
      by_cases h3 : a % 2147483648 = 0
      · left; refine ⟨h1, h2, by simp [h1, h2, h3], ?_, ?_, ?_, ?_⟩ <;> omega
      · right
        by_cases h4 : a % 2147483648 < 8388608
        · left; refine ⟨h1, h2, by simp [h1, h2, h3, h4], ?_, ?_, ?_, ?_⟩ <;> omega
        · right; refine ⟨h1, h2, by simp [h1, h2, h3, h4], ?_, ?_, ?_, ?_⟩ <;> omega
    · left; refine ⟨h1, h2, by simp [h1, h2], ?_, ?_, ?_, ?_⟩ <;> omega


/-! ### the place -/
set_option maxHeartbeats 400000 in
theorem specOrderKey (a : Nat) (ha : a < 4294967296) (w : World) :
    Calls Try.prog 14 #[.float .f32 a] w fun e w' => e = .returned (.tuple #[.int .i64 (if nanB a then 0 else keyB a), .int .i64 (if nanB a then 2 else 0)]) ∧ w = w' := by
  cases h1 : nanB a
  all_goals
    simp only [if_true, if_false, Bool.false_eq_true]
    go_enter Try.func14, Try.ntmps14
    go_wp2_with (first | (go_at_call 32; refine (specIsNaN _ _).mono ?_; rintro e w' ⟨rfl, rfl⟩) | (go_at_call 33; refine (specKey a ha _).mono ?_; rintro e w' ⟨rfl, rfl⟩))
    go_ret2
    exact ⟨rfl, rfl⟩

end Go.Proofs.Ytbceiphiopdegaa
