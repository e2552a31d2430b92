/-
  The walks of the small functions on narrow numbers.
-/
import Derived.Test.YtklblcilkoobbaaRows
import Derived.Test.YtklblcilkoobbaaFloat
import Derived.WalkKit
import Derived.WalkSpells
import Derived.WalkLawsBesides
set_option linter.unusedSimpArgs false
set_option linter.unusedVariables false
namespace Go.Proofs.Ytklblcilkoobbaa
open Go.RowKit

theorem bits32 (b : Nat) (w : World) : (callFunc 41 #[.float .f32 b]).run Try.prog w = .ok (.value (.int .u32 b)) w := by kernel_rfl
theorem from32 (n : Int) (w : World) : (callFunc 59 #[.int .u32 n]).run Try.prog w = .ok (.value (.float .f32 n.toNat)) w := by kernel_rfl

set_option maxHeartbeats 400000 in
theorem implIsNaN (a : Nat) (w : World) :
    Calls Try.prog 39 #[.float .f32 a] w fun e w' => e = .returned (.bool (nanB a)) ∧ w = w' := by
  have h1 := order_self_single a
  go_enter Try.func39, Try.ntmps39
  go_wp2
  go_ret
  exact ⟨rfl, rfl⟩
set_option maxHeartbeats 400000 in
theorem specIsNaN (a : Nat) (w : World) :
    Calls Try.prog 42 #[.float .f32 a] w fun e w' => e = .returned (.bool (nanB a)) ∧ w = w' := by
  have h1 := order_self_single a
  go_enter Try.func42, Try.ntmps42
  go_wp2
  go_ret
  exact ⟨rfl, rfl⟩
set_option maxHeartbeats 400000 in
theorem implIsNeg (a : Nat) (ha : a < 4294967296) (w : World) :
    Calls Try.prog 40 #[.float .f32 a] w fun e w' => e = .returned (.bool (ng a)) ∧ w = w' := by
  have h1 := and_sign_ne a ha
  have hb := bits32
  go_enter Try.func40, Try.ntmps40
  go_wp2
  go_ret
  exact ⟨rfl, rfl⟩
set_option maxHeartbeats 400000 in
theorem implSize (a : Nat) (ha : a < 4294967296) (w : World) :
    Calls Try.prog 44 #[.float .f32 a] w fun e w' => e = .returned (.int .u32 ((a : Int) % 2147483648)) ∧ w = w' := by
  have h1 := andNot_sign a ha
  have hb := bits32
  go_enter Try.func44, Try.ntmps44
  go_wp2
  go_ret
  exact ⟨rfl, rfl⟩
set_option maxHeartbeats 400000 in
theorem specFinite (a : Nat) (w : World) :
    Calls Try.prog 43 #[.float .f32 a] w fun e w' => e = .returned (.bool (finB a)) ∧ ∃ n, w' = w.drewN n := by
  have h1 := sub_self_B a
  have h2 := fun t w => run_ar (P := Try.prog) .sub (by simp) t .f32 a a w
  go_enter Try.func43, Try.ntmps43
  go_wp2
  go_ret
  exact ⟨rfl, arW_is _ _ _ _ _⟩
set_option maxHeartbeats 400000 in
theorem implFinite (a : Nat) (ha : a < 4294967296) (w : World) :
    Calls Try.prog 52 #[.float .f32 a] w fun e w' => e = .returned (.bool (finB a)) ∧ w = w' := by
  have h1 : decide ((a : Int) % 2147483648 < 2139095040) = finB a := by unfold finB; rw [decide_eq_decide]; omega
  go_enter Try.func52, Try.ntmps52
  go_wp2_with (go_at_call 44; refine (implSize a ha _).mono ?_; rintro e w' ⟨rfl, rfl⟩)
  go_ret
  exact ⟨rfl, rfl⟩
set_option maxHeartbeats 400000 in
theorem specKey (a : Nat) (ha : a < 4294967296) (w : World) :
    Calls Try.prog 45 #[.float .f32 a] w fun e w' => e = .returned (.int .i64 (keyB a)) ∧ w = w' := by
  have h1 := and_i64_31 (a : Int) (by omega) (by omega)
  have hb := bits32
  by_cases h : 2147483648 ≤ a
  · have h2 : keyB a = -1 - (a : Int) % 2147483648 := by unfold keyB; rw [if_pos h]; omega
    have h3 : ((a : Int) / 2147483648 == 1) = true := by rw [beq_iff_eq]; omega
    rw [h2]; clear h2
    go_enter Try.func45, Try.ntmps45
    go_wp2
    go_ret
    exact ⟨rfl, rfl⟩
  · have h2 : keyB a = (a : Int) := by unfold keyB; rw [if_neg h]
    have h3 : ((a : Int) / 2147483648 == 1) = false := by rw [beq_eq_false_iff_ne]; omega
    rw [h2]; clear h2
    go_enter Try.func45, Try.ntmps45
    go_wp2
    go_ret
    exact ⟨rfl, rfl⟩
set_option maxHeartbeats 400000 in
theorem implKey (a : Nat) (ha : a < 4294967296) (w : World) :
    Calls Try.prog 46 #[.float .f32 a] w fun e w' => e = .returned (.int .i64 (keyB a)) ∧ w = w' := by
  by_cases h : 2147483648 ≤ a
  · have h2 : keyB a = -((a : Int) % 2147483648) - 1 := by unfold keyB; rw [if_pos h]; omega
    have h3 : ng a = true := by unfold ng; simp [h]
    rw [h2]; clear h2
    go_enter Try.func46, Try.ntmps46
    go_wp2_with (first | (go_at_call 44; refine (implSize a ha _).mono ?_; rintro e w' ⟨rfl, rfl⟩) | (go_at_call 40; refine (implIsNeg a ha _).mono ?_; rintro e w' ⟨rfl, rfl⟩))
    go_ret
    exact ⟨rfl, rfl⟩
  · have h2 : keyB a = (a : Int) % 2147483648 := by unfold keyB; rw [if_neg h]; omega
    have h3 : ng a = false := by unfold ng; simp [h]
    rw [h2]; clear h2
    go_enter Try.func46, Try.ntmps46
    go_wp2_with (first | (go_at_call 44; refine (implSize a ha _).mono ?_; rintro e w' ⟨rfl, rfl⟩) | (go_at_call 40; refine (implIsNeg a ha _).mono ?_; rintro e w' ⟨rfl, rfl⟩))
    go_ret
    exact ⟨rfl, rfl⟩
end Go.Proofs.Ytklblcilkoobbaa
