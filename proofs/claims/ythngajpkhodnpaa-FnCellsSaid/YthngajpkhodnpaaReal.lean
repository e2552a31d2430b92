/-
  The walks of the small functions on narrow numbers.
-/
import Derived.Test.YthngajpkhodnpaaRows
import Derived.Test.YthngajpkhodnpaaFloat
import Derived.WalkKit
import Derived.WalkSpells
import Derived.WalkLawsBesides
set_option linter.unusedSimpArgs false
set_option linter.unusedVariables false
namespace Go.Proofs.Ythngajpkhodnpaa
open Go.RowKit

theorem bits32 (b : Nat) (w : World) : (callFunc 36 #[.float .f32 b]).run Try.prog w = .ok (.value (.int .u32 b)) w := by kernel_rfl

set_option maxHeartbeats 400000 in
theorem implSize (a : Nat) (ha : a < 4294967296) (w : World) :
    Calls Try.prog 32 #[.float .f32 a] w fun e w' => e = .returned (.int .u32 ((a : Int) % 2147483648)) ∧ w = w' := by
  have h1 := andNot_sign a ha
  have hb := bits32
  go_enter Try.func32, Try.ntmps32
  go_wp2
  go_ret
  exact ⟨rfl, rfl⟩
set_option maxHeartbeats 400000 in
theorem specFinite (a : Nat) (w : World) :
    Calls Try.prog 30 #[.float .f32 a] w fun e w' => e = .returned (.bool (finB a)) ∧ ∃ n, w' = w.drewN n := by
  have h1 := sub_self_B a
  have h2 := fun t w => run_ar (P := Try.prog) .sub (by simp) t .f32 a a w
  go_enter Try.func30, Try.ntmps30
  go_wp2
  go_ret
  exact ⟨rfl, arW_is _ _ _ _ _⟩
set_option maxHeartbeats 400000 in
theorem implFinite (a : Nat) (ha : a < 4294967296) (w : World) :
    Calls Try.prog 27 #[.float .f32 a] w fun e w' => e = .returned (.bool (finB a)) ∧ w = w' := by
  have h1 : decide ((a : Int) % 2147483648 < 2139095040) = finB a := by unfold finB; rw [decide_eq_decide]; omega
  go_enter Try.func27, Try.ntmps27
  go_wp2_with (go_at_call 32; refine (implSize a ha _).mono ?_; rintro e w' ⟨rfl, rfl⟩)
  go_ret
  exact ⟨rfl, rfl⟩
end Go.Proofs.Ythngajpkhodnpaa
