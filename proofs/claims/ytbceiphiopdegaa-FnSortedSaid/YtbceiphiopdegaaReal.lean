/-
  The walks of the small functions on narrow numbers.
-/
import Derived.Test.YtbceiphiopdegaaRows
import Derived.Test.YtbceiphiopdegaaFloat
import Derived.WalkKit
import Derived.WalkSpells
import Derived.WalkLawsBesides
set_option linter.unusedSimpArgs false
set_option linter.unusedVariables false
namespace Go.Proofs.Ytbceiphiopdegaa
open Go.RowKit

theorem bits32 (b : Nat) (w : World) : (callFunc 54 #[.float .f32 b]).run Try.prog w = .ok (.value (.int .u32 b)) w := by kernel_rfl
theorem from32 (n : Int) (w : World) : (callFunc 49 #[.int .u32 n]).run Try.prog w = .ok (.value (.float .f32 n.toNat)) w := by kernel_rfl

set_option maxHeartbeats 400000 in
theorem implIsNaN (a : Nat) (w : World) :
    Calls Try.prog 45 #[.float .f32 a] w fun e w' => e = .returned (.bool (nanB a)) ∧ w = w' := by
  have h1 := order_self_single a
  go_enter Try.func45, Try.ntmps45
  go_wp2
  go_ret
  exact ⟨rfl, rfl⟩
set_option maxHeartbeats 400000 in
theorem specIsNaN (a : Nat) (w : World) :
    Calls Try.prog 32 #[.float .f32 a] w fun e w' => e = .returned (.bool (nanB a)) ∧ w = w' := by
  have h1 := order_self_single a
  go_enter Try.func32, Try.ntmps32
  go_wp2
  go_ret
  exact ⟨rfl, rfl⟩
set_option maxHeartbeats 400000 in
theorem implIsNeg (a : Nat) (ha : a < 4294967296) (w : World) :
    Calls Try.prog 63 #[.float .f32 a] w fun e w' => e = .returned (.bool (ng a)) ∧ w = w' := by
  have h1 := and_sign_ne a ha
  have hb := bits32
  go_enter Try.func63, Try.ntmps63
  go_wp2
  go_ret
  exact ⟨rfl, rfl⟩
set_option maxHeartbeats 400000 in
theorem implSize (a : Nat) (ha : a < 4294967296) (w : World) :
    Calls Try.prog 64 #[.float .f32 a] w fun e w' => e = .returned (.int .u32 ((a : Int) % 2147483648)) ∧ w = w' := by
  have h1 := andNot_sign a ha
  have hb := bits32
  go_enter Try.func64, Try.ntmps64
  go_wp2
  go_ret
  exact ⟨rfl, rfl⟩
set_option maxHeartbeats 400000 in
theorem specKey (a : Nat) (ha : a < 4294967296) (w : World) :
    Calls Try.prog 33 #[.float .f32 a] w fun e w' => e = .returned (.int .i64 (keyB a)) ∧ w = w' := by
  have h1 := and_i64_31 (a : Int) (by omega) (by omega)
  have hb := bits32
  by_cases h : 2147483648 ≤ a
  · have h2 : keyB a = -1 - (a : Int) % 2147483648 := by unfold keyB; rw [if_pos h]; omega
    have h3 : ((a : Int) / 2147483648 == 1) = true := by rw [beq_iff_eq]; omega
    rw [h2]; clear h2
    go_enter Try.func33, Try.ntmps33
    go_wp2
    go_ret
    exact ⟨rfl, rfl⟩
  · have h2 : keyB a = (a : Int) := by unfold keyB; rw [if_neg h]
    have h3 : ((a : Int) / 2147483648 == 1) = false := by rw [beq_eq_false_iff_ne]; omega
    rw [h2]; clear h2
    go_enter Try.func33, Try.ntmps33
    go_wp2
    go_ret
    exact ⟨rfl, rfl⟩
set_option maxHeartbeats 400000 in
theorem implKey (a : Nat) (ha : a < 4294967296) (w : World) :
    Calls Try.prog 46 #[.float .f32 a] w fun e w' => e = .returned (.int .i64 (keyB a)) ∧ w = w' := by
  by_cases h : 2147483648 ≤ a
  · have h2 : keyB a = -((a : Int) % 2147483648) - 1 := by unfold keyB; rw [if_pos h]; omega
    have h3 : ng a = true := by unfold ng; simp [h]
    rw [h2]; clear h2
    go_enter Try.func46, Try.ntmps46
    go_wp2_with (first | (go_at_call 64; refine (implSize a ha _).mono ?_; rintro e w' ⟨rfl, rfl⟩) | (go_at_call 63; refine (implIsNeg a ha _).mono ?_; rintro e w' ⟨rfl, rfl⟩))
    go_ret
    exact ⟨rfl, rfl⟩
  · have h2 : keyB a = (a : Int) % 2147483648 := by unfold keyB; rw [if_neg h]; omega
    have h3 : ng a = false := by unfold ng; simp [h]
    rw [h2]; clear h2
    go_enter Try.func46, Try.ntmps46
    go_wp2_with (first | (go_at_call 64; refine (implSize a ha _).mono ?_; rintro e w' ⟨rfl, rfl⟩) | (go_at_call 63; refine (implIsNeg a ha _).mono ?_; rintro e w' ⟨rfl, rfl⟩))
    go_ret
    exact ⟨rfl, rfl⟩
end Go.Proofs.Ytbceiphiopdegaa
