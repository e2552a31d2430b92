/-
  The walks of FlipMap and IdentityMap on both sides, of eqMap, and of their laws: closed computations; no condition.
-/
import Derived.Test.YtjhmamkbdcfcoaaCplx
set_option linter.unusedSimpArgs false
set_option linter.unusedVariables false
namespace Go.Proofs.Ytjhmamkbdcfcoaa
open Go.RowKit

set_option maxHeartbeats 400000 in
theorem eqMapOk (a b c d e f g h : Nat) (w : World) :
    Calls Try.prog 12 #[.agg #[.complex .f32 a b, .complex .f32 c d, .complex .f32 e f, .complex .f32 g h], .agg #[.complex .f32 a b, .complex .f32 c d, .complex .f32 e f, .complex .f32 g h]] w fun e w' => e = .returned (.bool true) ∧ Grown w w' := by
  have hc := fun a b w => run_ccv (P := Try.prog) 22 35 a b w (by kernel_rfl) Try.underlying35
  go_enter Try.func12, Try.ntmps12
  go_wp2_with (go_at_call 18; refine (cvC2 _ _ _ _ (.inl rfl) (.inl rfl) _ _ _ _ _).mono ?_; rintro e w' ⟨rfl, rfl⟩)
  go_ret
  exact ⟨rfl, by repeat (first | exact Grown.refl _ | apply grown_cvW | apply Grown.alloc)⟩
set_option maxHeartbeats 400000 in
theorem specFlipMap (w : World) :
    Calls Try.prog 10 #[] w fun e w' => e = .returned (.agg #[.complex .f32 0 0, .complex .f32 1065353216 0, .complex .f32 1065353216 0, .complex .f32 0 0]) ∧ w' = w.alloc (.cells #[.complex .f32 0 0, .complex .f32 1065353216 0, .complex .f32 1065353216 0, .complex .f32 0 0] 24) := by
  go_enter Try.func10, Try.ntmps10
  go_wp2
  exact bodyPost_ret (v := .agg #[.complex .f32 0 0, .complex .f32 1065353216 0, .complex .f32 1065353216 0, .complex .f32 0 0]) (by simp [results, Try.results10, go_sem]) rfl ⟨rfl, rfl⟩
set_option maxHeartbeats 400000 in
theorem implFlipMap (w : World) :
    Calls Try.prog 11 #[] w fun e w' => e = .returned (.agg #[.complex .f32 0 0, .complex .f32 1065353216 0, .complex .f32 1065353216 0, .complex .f32 0 0]) ∧ w' = w.alloc (.cells #[.complex .f32 0 0, .complex .f32 1065353216 0, .complex .f32 1065353216 0, .complex .f32 0 0] 24) := by
  go_enter Try.func11, Try.ntmps11
  go_wp2
  exact bodyPost_ret (v := .agg #[.complex .f32 0 0, .complex .f32 1065353216 0, .complex .f32 1065353216 0, .complex .f32 0 0]) (by simp [results, Try.results11, go_sem]) rfl ⟨rfl, rfl⟩
set_option maxHeartbeats 400000 in
theorem law_FnExactFlipMap (w : World) :
    Calls Try.prog 3 #[] w fun e w' => e = .returned (.bool true) ∧ Grown w w' := by
  go_enter Try.func3, Try.ntmps3
  go_wp2_with (first | (go_at_call 10; refine (specFlipMap _).mono ?_; rintro e w1 ⟨rfl, rfl⟩) | (go_at_call 11; refine (implFlipMap _).mono ?_; rintro e w2 ⟨rfl, rfl⟩) | (go_at_call 12; refine (eqMapOk _ _ _ _ _ _ _ _ _).mono ?_; rintro e w3 ⟨rfl, hg3⟩))
  go_ret
  exact ⟨rfl, grown_trans (by repeat (first | exact Grown.refl _ | apply Grown.alloc)) hg3⟩
set_option maxHeartbeats 400000 in
theorem specIdentityMap (w : World) :
    Calls Try.prog 13 #[] w fun e w' => e = .returned (.agg #[.complex .f32 1065353216 0, .complex .f32 0 0, .complex .f32 0 0, .complex .f32 1065353216 0]) ∧ w' = w.alloc (.cells #[.complex .f32 1065353216 0, .complex .f32 0 0, .complex .f32 0 0, .complex .f32 1065353216 0] 24) := by
  go_enter Try.func13, Try.ntmps13
  go_wp2
  exact bodyPost_ret (v := .agg #[.complex .f32 1065353216 0, .complex .f32 0 0, .complex .f32 0 0, .complex .f32 1065353216 0]) (by simp [results, Try.results13, go_sem]) rfl ⟨rfl, rfl⟩
set_option maxHeartbeats 400000 in
theorem implIdentityMap (w : World) :
    Calls Try.prog 14 #[] w fun e w' => e = .returned (.agg #[.complex .f32 1065353216 0, .complex .f32 0 0, .complex .f32 0 0, .complex .f32 1065353216 0]) ∧ w' = w.alloc (.cells #[.complex .f32 1065353216 0, .complex .f32 0 0, .complex .f32 0 0, .complex .f32 1065353216 0] 24) := by
  go_enter Try.func14, Try.ntmps14
  go_wp2
  exact bodyPost_ret (v := .agg #[.complex .f32 1065353216 0, .complex .f32 0 0, .complex .f32 0 0, .complex .f32 1065353216 0]) (by simp [results, Try.results14, go_sem]) rfl ⟨rfl, rfl⟩
set_option maxHeartbeats 400000 in
theorem law_FnExactIdentityMap (w : World) :
    Calls Try.prog 4 #[] w fun e w' => e = .returned (.bool true) ∧ Grown w w' := by
  go_enter Try.func4, Try.ntmps4
  go_wp2_with (first | (go_at_call 13; refine (specIdentityMap _).mono ?_; rintro e w1 ⟨rfl, rfl⟩) | (go_at_call 14; refine (implIdentityMap _).mono ?_; rintro e w2 ⟨rfl, rfl⟩) | (go_at_call 12; refine (eqMapOk _ _ _ _ _ _ _ _ _).mono ?_; rintro e w3 ⟨rfl, hg3⟩))
  go_ret
  exact ⟨rfl, grown_trans (by repeat (first | exact Grown.refl _ | apply Grown.alloc)) hg3⟩
end Go.Proofs.Ytjhmamkbdcfcoaa
