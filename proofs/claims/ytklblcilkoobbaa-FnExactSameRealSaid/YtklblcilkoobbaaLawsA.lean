/-
  The walks of the laws SameReal, KindOf, OrderKey and of the law of constants.
-/
import Derived.Test.YtklblcilkoobbaaReal2
import Derived.RowKit3
set_option linter.unusedSimpArgs false
set_option linter.unusedVariables false
namespace Go.Proofs.Ytklblcilkoobbaa
open Go.RowKit

theorem lt32 {a : Nat} (h : (Lit.float .f32 a).wf = true) : a < 4294967296 := by simpa [Lit.wf] using h
theorem Grown.drewN {W w' : World} (h : Grown W w') (n : Nat) : Grown W (w'.drewN n) := h

set_option maxHeartbeats 400000 in
theorem spec15 (a b : Nat) (w : World) :
    Calls Try.prog 15 #[.float .f32 a, .float .f32 b] w fun e w' => e = .returned (.bool (sameB a b)) ∧ w = w' := by
  go_enter Try.func15, Try.ntmps15
  go_wp2_with (go_at_call 38; refine (specSame1 _ _ _).mono ?_; rintro e w' ⟨rfl, rfl⟩)
  go_ret
  exact ⟨rfl, rfl⟩

set_option maxHeartbeats 400000 in
theorem law_FnExactSameReal (a : Nat) (wa : (Lit.float .f32 a).wf = true) (b : Nat) (wb : (Lit.float .f32 b).wf = true) (w : World) :
    Calls Try.prog 4 #[.float .f32 a, .float .f32 b] w fun e w' => e = .returned (.bool true) ∧ Grown w w' := by
  have ha := lt32 wa
  have hb := lt32 wb
  clear wa wb
  cases h : sameB a b
  all_goals
    go_enter Try.func4, Try.ntmps4
    go_wp2_with (first | (go_at_call 15; refine (spec15 _ _ _).mono ?_; rintro e w' ⟨rfl, rfl⟩) | (go_at_call 16; refine (implSame _ _ ha hb _).mono ?_; rintro e w' ⟨rfl, rfl⟩))
    go_ret
    exact ⟨rfl, Grown.refl _⟩

set_option maxHeartbeats 400000 in
theorem law_FnExactKindOf (a : Nat) (wa : (Lit.float .f32 a).wf = true) (w : World) :
    Calls Try.prog 5 #[.float .f32 a] w fun e w' => e = .returned (.bool true) ∧ Grown w w' := by
  have ha := lt32 wa
  clear wa
  go_enter Try.func5, Try.ntmps5
  go_wp2_with (first | (go_at_call 17; refine (specKind _ ha _).mono ?_; rintro e w' ⟨rfl, n, rfl⟩) | (go_at_call 18; refine (implKind _ ha _).mono ?_; rintro e w' ⟨rfl, rfl⟩))
  go_ret
  exact ⟨rfl, Grown.drewN (Grown.refl _) _⟩

set_option maxHeartbeats 400000 in
theorem law_FnExactOrderKey (a : Nat) (wa : (Lit.float .f32 a).wf = true) (w : World) :
    Calls Try.prog 6 #[.float .f32 a] w fun e w' => e = .returned (.bool true) ∧ Grown w w' := by
  have ha := lt32 wa
  clear wa
  cases h : nanB a
  all_goals
    go_enter Try.func6, Try.ntmps6
    go_wp2_with (first | (go_at_call 19; refine (specOrderKey _ ha _).mono ?_; rintro e w' ⟨rfl, rfl⟩) | (go_at_call 20; refine (implOrderKey _ ha _).mono ?_; rintro e w' ⟨rfl, rfl⟩))
    go_ret
    exact ⟨rfl, Grown.refl _⟩

set_option maxHeartbeats 400000 in
theorem law_FnExactConstants (w : World) :
    Calls Try.prog 3 #[] w fun e w' => e = .returned (.bool true) ∧ Grown w w' := by
  go_enter Try.func3, Try.ntmps3
  go_wp2
  go_ret
  exact ⟨rfl, Grown.refl _⟩
end Go.Proofs.Ytklblcilkoobbaa
