/-
  The walks of the small functions on narrow numbers.
-/
import Derived.Test.YtjhmamkbdcfcoaaRows
import Derived.Test.YtjhmamkbdcfcoaaFloat
import Derived.WalkKit
import Derived.WalkSpells
import Derived.WalkLawsBesides
set_option linter.unusedSimpArgs false
set_option linter.unusedVariables false
namespace Go.Proofs.Ytjhmamkbdcfcoaa
open Go.RowKit

theorem bits32 (b : Nat) (w : World) : (callFunc 55 #[.float .f32 b]).run Try.prog w = .ok (.value (.int .u32 b)) w := by kernel_rfl
theorem from32 (n : Int) (w : World) : (callFunc 39 #[.int .u32 n]).run Try.prog w = .ok (.value (.float .f32 n.toNat)) w := by kernel_rfl

set_option maxHeartbeats 400000 in
theorem implIsNaN (a : Nat) (w : World) :
    Calls Try.prog 54 #[.float .f32 a] w fun e w' => e = .returned (.bool (nanB a)) ∧ w = w' := by
  have h1 := order_self_single a
  go_enter Try.func54, Try.ntmps54
  go_wp2
  go_ret
  exact ⟨rfl, rfl⟩
set_option maxHeartbeats 400000 in
theorem specIsNaN (a : Nat) (w : World) :
    Calls Try.prog 56 #[.float .f32 a] w fun e w' => e = .returned (.bool (nanB a)) ∧ w = w' := by
  have h1 := order_self_single a
  go_enter Try.func56, Try.ntmps56
  go_wp2
  go_ret
  exact ⟨rfl, rfl⟩
set_option maxHeartbeats 400000 in
theorem implSize (a : Nat) (ha : a < 4294967296) (w : World) :
    Calls Try.prog 52 #[.float .f32 a] w fun e w' => e = .returned (.int .u32 ((a : Int) % 2147483648)) ∧ w = w' := by
  have h1 := andNot_sign a ha
  have hb := bits32
  go_enter Try.func52, Try.ntmps52
  go_wp2
  go_ret
  exact ⟨rfl, rfl⟩
set_option maxHeartbeats 400000 in
theorem specFinite (a : Nat) (w : World) :
    Calls Try.prog 46 #[.float .f32 a] w fun e w' => e = .returned (.bool (finB a)) ∧ ∃ n, w' = w.drewN n := by
  have h1 := sub_self_B a
  have h2 := fun t w => run_ar (P := Try.prog) .sub (by simp) t .f32 a a w
  go_enter Try.func46, Try.ntmps46
  go_wp2
  go_ret
  exact ⟨rfl, arW_is _ _ _ _ _⟩
set_option maxHeartbeats 400000 in
theorem implFinite (a : Nat) (ha : a < 4294967296) (w : World) :
    Calls Try.prog 48 #[.float .f32 a] w fun e w' => e = .returned (.bool (finB a)) ∧ w = w' := by
  have h1 : decide ((a : Int) % 2147483648 < 2139095040) = finB a := by unfold finB; rw [decide_eq_decide]; omega
  go_enter Try.func48, Try.ntmps48
  go_wp2_with (go_at_call 52; refine (implSize a ha _).mono ?_; rintro e w' ⟨rfl, rfl⟩)
  go_ret
  exact ⟨rfl, rfl⟩
end Go.Proofs.Ytjhmamkbdcfcoaa
