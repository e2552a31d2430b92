/-
  The walks of the small functions on narrow numbers.
-/
import Derived.Test.YtononoebghbajaaDoorRows
import Derived.Test.YtononoebghbajaaDoorFloat
import Derived.WalkKit
import Derived.WalkSpells
import Derived.WalkLawsBesides
set_option linter.unusedSimpArgs false
set_option linter.unusedVariables false
namespace Go.Proofs.YtononoebghbajaaDoor
open Go.RowKit

theorem bits32 (b : Nat) (w : World) : (callFunc 20 #[.float .f32 b]).run Tryd.prog w = .ok (.value (.int .u32 b)) w := by kernel_rfl
theorem from32 (n : Int) (w : World) : (callFunc 24 #[.int .u32 n]).run Tryd.prog w = .ok (.value (.float .f32 n.toNat)) w := by kernel_rfl

set_option maxHeartbeats 400000 in
theorem implIsNaN (a : Nat) (w : World) :
    Calls Tryd.prog 18 #[.float .f32 a] w fun e w' => e = .returned (.bool (nanB a)) ∧ w = w' := by
  have h1 := order_self_single a
  go_enter Tryd.func18, Tryd.ntmps18
  go_wp2
  go_ret
  exact ⟨rfl, rfl⟩
set_option maxHeartbeats 400000 in
theorem specIsNaN (a : Nat) (w : World) :
    Calls Tryd.prog 28 #[.float .f32 a] w fun e w' => e = .returned (.bool (nanB a)) ∧ w = w' := by
  have h1 := order_self_single a
  go_enter Tryd.func28, Tryd.ntmps28
  go_wp2
  go_ret
  exact ⟨rfl, rfl⟩
end Go.Proofs.YtononoebghbajaaDoor
