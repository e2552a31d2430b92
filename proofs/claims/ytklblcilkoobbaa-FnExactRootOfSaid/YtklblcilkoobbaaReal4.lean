/-
  The walks of the functions of the seat of narrow numbers that remain: places, parts, opposites, zeros for subnormal numbers, square roots; no condition beside the words' range.
-/
import Derived.Test.YtklblcilkoobbaaReal3
set_option linter.unusedSimpArgs false
set_option linter.unusedVariables false
namespace Go.Proofs.Ytklblcilkoobbaa
open Go.RowKit

theorem lt32 {a : Nat} (h : (Lit.float .f32 a).wf = true) : a < 4294967296 := by simpa [Lit.wf] using h
theorem grown_drewN {W w' : World} (h : Grown W w') (n : Nat) : Grown W (w'.drewN n) := h
theorem grown_cvW {W w' : World} (h : Grown W w') (a : Nat) : Grown W (cvW a w') := by obtain ⟨n, hn⟩ := cvW_is a w'; rw [hn]; exact grown_drewN h n
theorem cvB_lt (a : Nat) (w : World) : W64 (cvB a w) := by
  unfold W64 cvB
  split
  · have : ∀ t : Nat, (t % 2) * 2 ^ 63 + 0x7ff0000000000000 + 1 + (t / 2) % (2 ^ 52 - 1) < 18446744073709551616 := by
      intro t
      have h1 : t / 2 % (2 ^ 52 - 1) < 4503599627370495 := Nat.mod_lt _ (by decide)
      have h2 : t % 2 < 2 := Nat.mod_lt _ (by decide)
      generalize t / 2 % (2 ^ 52 - 1) = u at *
      generalize t % 2 = v at *
      have h3 : v = 0 ∨ v = 1 := by omega
      rcases h3 with rfl | rfl <;> omega
    exact this _
  · rename_i h
    have h' : nanB a = false := by simpa using h
    have := wide_some a h'
    generalize wideB a = x at *
    unfold floatToFloatBits at this
    rw [if_neg (by decide)] at this
    split at this
    · cases this
    · cases this; exact Ieee.Format.write_lt Ieee.double _
    · split at this
      · cases this
      · cases this; exact Ieee.Format.write_lt Ieee.double _

/-! ### places -/
def inKey (k : Int) : Bool := decide (-2139095041 ≤ k ∧ k ≤ 2139095040)
set_option maxHeartbeats 400000 in
theorem specFromOrderKey (k : Int) (w : World) :
    Calls Try.prog 21 #[.int .i64 k] w fun e w' => e = .returned (.tuple #[.float .f32 (if inKey k then atB k else 0), .int .i64 (if inKey k then 0 else 2)]) ∧ w = w' := by
  have hi : decide (-2139095041 ≤ k ∧ k ≤ 2139095040) = inKey k := rfl
  cases h1 : inKey k
  · simp only [if_true, if_false, Bool.false_eq_true]
    rw [h1] at hi
    go_enter Try.func21, Try.ntmps21
    go_wp2_with (first | (go_at_call 47; refine (specIn _ _ _ _).mono ?_; rw [hi]; rintro e w' ⟨rfl, rfl⟩))
    go_ret2
    exact ⟨rfl, rfl⟩
  · simp only [if_true, if_false, Bool.false_eq_true]
    rw [h1] at hi
    have h2 := of_decide_eq_true hi
    obtain ⟨h3, h4⟩ := h2
    go_enter Try.func21, Try.ntmps21
    go_wp2_with (first | (go_at_call 47; refine (specIn _ _ _ _).mono ?_; rw [hi]; rintro e w' ⟨rfl, rfl⟩) | (go_at_call 48; refine (specFromKey _ (by omega) (by omega) _).mono ?_; rintro e w' ⟨rfl, rfl⟩))
    go_ret2
    exact ⟨rfl, rfl⟩
set_option maxHeartbeats 400000 in
theorem implFromOrderKey (k : Int) (w : World) :
    Calls Try.prog 22 #[.int .i64 k] w fun e w' => e = .returned (.tuple #[.float .f32 (if inKey k then atB k else 0), .int .i64 (if inKey k then 0 else 2)]) ∧ w = w' := by
  have hi : decide (-2139095041 ≤ k ∧ k ≤ 2139095040) = inKey k := rfl
  cases h1 : inKey k
  · simp only [if_true, if_false, Bool.false_eq_true]
    rw [h1] at hi
    go_enter Try.func22, Try.ntmps22
    go_wp2_with (first | (go_at_call 49; refine (implIn _ _ _ _).mono ?_; rw [hi]; rintro e w' ⟨rfl, rfl⟩))
    go_ret2
    exact ⟨rfl, rfl⟩
  · simp only [if_true, if_false, Bool.false_eq_true]
    rw [h1] at hi
    have h2 := of_decide_eq_true hi
    obtain ⟨h3, h4⟩ := h2
    go_enter Try.func22, Try.ntmps22
    go_wp2_with (first | (go_at_call 49; refine (implIn _ _ _ _).mono ?_; rw [hi]; rintro e w' ⟨rfl, rfl⟩) | (go_at_call 50; refine (implAtKey _ (by omega) (by omega) _).mono ?_; rintro e w' ⟨rfl, rfl⟩))
    go_ret2
    exact ⟨rfl, rfl⟩

/-! ### parts -/
/-- a law's last step: both sides widened, held against each other -/
theorem cv2 (a b : Nat) (h : eqn a b) (w w' w'' : World) :
    Calls Try.prog 23 #[.float .f64 (cvB a w), .float .f64 (cvB b w')] w'' fun e w' => e = .returned (.bool true) ∧ w'' = w' :=
  same_ok _ _ (cvB_lt _ _) (cv_eqv a b w w' h) w''

set_option maxHeartbeats 400000 in
theorem law_FnExactFromOrderKey (k : Int) (wk : (Lit.int .i64 k).wf = true) (w : World) :
    Calls Try.prog 7 #[.int .i64 k] w fun e w' => e = .returned (.bool true) ∧ Grown w w' := by
  clear wk
  have hc := fun a w => run_cv (P := Try.prog) 23 32 a w (by kernel_rfl) Try.underlying32
  go_enter Try.func7, Try.ntmps7
  go_wp2_with (first | (go_at_call 21; refine (specFromOrderKey _ _).mono ?_; rintro e w' ⟨rfl, rfl⟩) | (go_at_call 22; refine (implFromOrderKey _ _).mono ?_; rintro e w' ⟨rfl, rfl⟩) | (go_at_call 23; refine (cv2 _ _ (.inl rfl) _ _ _).mono ?_; rintro e w' ⟨rfl, rfl⟩))
  all_goals
    go_ret
    exact ⟨rfl, grown_cvW (grown_cvW (Grown.refl _) _) _⟩
set_option maxHeartbeats 400000 in
theorem spec26 (a : Nat) (ha : a < 4294967296) (w : World) :
    Calls Try.prog 26 #[.float .f32 a] w fun e w' => e = .returned (.float .f32 (aboveB a)) ∧ w = w' := by
  go_enter Try.func26, Try.ntmps26
  go_wp2_with (go_at_call 54; refine (specAbove _ ha _).mono ?_; rintro e w' ⟨rfl, rfl⟩)
  go_ret
  exact ⟨rfl, rfl⟩
set_option maxHeartbeats 400000 in
theorem law_FnExactNextAbove (a : Nat) (wa : (Lit.float .f32 a).wf = true) (w : World) :
    Calls Try.prog 9 #[.float .f32 a] w fun e w' => e = .returned (.bool true) ∧ Grown w w' := by
  have ha := lt32 wa
  clear wa
  have hc := fun a w => run_cv (P := Try.prog) 23 32 a w (by kernel_rfl) Try.underlying32
  go_enter Try.func9, Try.ntmps9
  go_wp2_with (first | (go_at_call 26; refine (spec26 _ ha _).mono ?_; rintro e w' ⟨rfl, rfl⟩) | (go_at_call 27; refine (implAbove _ ha _).mono ?_; rintro e w' ⟨rfl, rfl⟩) | (go_at_call 23; refine (cv2 _ _ (.inl rfl) _ _ _).mono ?_; rintro e w' ⟨rfl, rfl⟩))
  go_ret
  exact ⟨rfl, grown_cvW (grown_cvW (Grown.refl _) _) _⟩

theorem above_lt (a : Nat) (ha : a < 4294967296) : aboveB a < 4294967296 := by
  unfold aboveB
  split
  · exact ha
  · rename_i h
    have h1 : nanB a = false := by simpa using h
    obtain ⟨k1, k2⟩ := key_range a ha h1
    split
    · exact ha
    · split
      · omega
      · exact at_lt _ (by omega) (by omega)
set_option maxHeartbeats 400000 in
theorem spec30 (a : Nat) (ha : a < 4294967296) (w : World) :
    Calls Try.prog 30 #[.float .f32 a] w fun e w' => e = .returned (.float .f32 (flipB (aboveB (flipB a)))) ∧ w = w' := by
  have h1 := neg_float a ha
  have h2 := neg_float (aboveB (flipB a)) (above_lt _ (flip_lt _ ha))
  go_enter Try.func30, Try.ntmps30
  go_wp2_with (go_at_call 54; refine (specAbove _ (flip_lt _ ha) _).mono ?_; rintro e w' ⟨rfl, rfl⟩)
  go_ret
  exact ⟨rfl, rfl⟩
set_option maxHeartbeats 400000 in
theorem impl31 (a : Nat) (ha : a < 4294967296) (w : World) :
    Calls Try.prog 31 #[.float .f32 a] w fun e w' => e = .returned (.float .f32 (flipB (aboveB (flipB a)))) ∧ w = w' := by
  have h1 := neg_float a ha
  have h2 := neg_float (aboveB (flipB a)) (above_lt _ (flip_lt _ ha))
  go_enter Try.func31, Try.ntmps31
  go_wp2_with (go_at_call 27; refine (implAbove _ (flip_lt _ ha) _).mono ?_; rintro e w' ⟨rfl, rfl⟩)
  go_ret
  exact ⟨rfl, rfl⟩
set_option maxHeartbeats 400000 in
theorem law_FnExactNextBelow (a : Nat) (wa : (Lit.float .f32 a).wf = true) (w : World) :
    Calls Try.prog 11 #[.float .f32 a] w fun e w' => e = .returned (.bool true) ∧ Grown w w' := by
  have ha := lt32 wa
  clear wa
  have hc := fun a w => run_cv (P := Try.prog) 23 32 a w (by kernel_rfl) Try.underlying32
  go_enter Try.func11, Try.ntmps11
  go_wp2_with (first | (go_at_call 30; refine (spec30 _ ha _).mono ?_; rintro e w' ⟨rfl, rfl⟩) | (go_at_call 31; refine (impl31 _ ha _).mono ?_; rintro e w' ⟨rfl, rfl⟩) | (go_at_call 23; refine (cv2 _ _ (.inl rfl) _ _ _).mono ?_; rintro e w' ⟨rfl, rfl⟩))
  go_ret
  exact ⟨rfl, grown_cvW (grown_cvW (Grown.refl _) _) _⟩

/-! ### parts -/
def fracB (a : Nat) : Int := if a % 2147483648 < 8388608 then (a : Int) % 2147483648 else (a : Int) % 8388608 + 8388608
def expB (a : Nat) : Int := if a % 2147483648 < 8388608 then -149 else (a : Int) % 2147483648 / 8388608 - 150
set_option maxHeartbeats 400000 in
theorem specParts (a : Nat) (ha : a < 4294967296) (w : World) :
    Calls Try.prog 51 #[.float .f32 a] w fun e w' => e = .returned (.tuple #[.bool (ng a), .int .i64 (fracB a), .int .i64 (expB a)]) ∧ w = w' := by
  have hb := bits32
  have h1 := and_i64_8 ((a : Int) / 8388608) (by omega) (by omega)
  have h2 := and_i64_23 (a : Int) (by omega) (by omega)
  have h3 : ((a : Int) / 2147483648 == 1) = ng a := by unfold ng; rw [Bool.eq_iff_iff, beq_iff_eq, decide_eq_true_eq]; omega
  by_cases h : a % 2147483648 < 8388608
  · have e1 : fracB a = (a : Int) % 8388608 := by unfold fracB; rw [if_pos h]; omega
    have e2 : expB a = -149 := by unfold expB; rw [if_pos h]
    have h4 : ((a : Int) / 8388608 % 256 == 0) = true := by rw [beq_iff_eq]; omega
    rw [e1, e2]; clear e1 e2
    go_enter Try.func51, Try.ntmps51
    go_wp2
    go_ret3
    exact ⟨rfl, rfl⟩
  · have e1 : fracB a = (a : Int) % 8388608 + 8388608 := by unfold fracB; rw [if_neg h]
    have e2 : expB a = (a : Int) / 8388608 % 256 - 150 := by unfold expB; rw [if_neg h]; omega
    have h4 : ((a : Int) / 8388608 % 256 == 0) = false := by rw [beq_eq_false_iff_ne]; omega
    rw [e1, e2]; clear e1 e2
    go_enter Try.func51, Try.ntmps51
    go_wp2
    go_ret3
    exact ⟨rfl, rfl⟩
set_option maxHeartbeats 400000 in
theorem implSplit (a : Nat) (ha : a < 4294967296) (w : World) :
    Calls Try.prog 53 #[.float .f32 a] w fun e w' => e = .returned (.tuple #[.int .i64 (fracB a), .int .i64 (expB a)]) ∧ w = w' := by
  have h1 : bits .and .u32 ((a : Int) % 2147483648) 8388607 = (a : Int) % 8388608 := by rw [and_u32_23 ((a : Int) % 2147483648) (by omega) (by omega)]; omega
  have h2 := or_u32_23 ((a : Int) % 8388608) (by omega) (by omega)
  by_cases h : a % 2147483648 < 8388608
  · have e1 : fracB a = (a : Int) % 2147483648 := by unfold fracB; rw [if_pos h]
    have e2 : expB a = -149 := by unfold expB; rw [if_pos h]
    have h4 : decide ((a : Int) % 2147483648 < 8388608) = true := by rw [decide_eq_true_eq]; omega
    rw [e1, e2]; clear e1 e2
    go_enter Try.func53, Try.ntmps53
    go_wp2_with (go_at_call 44; refine (implSize a ha _).mono ?_; rintro e w' ⟨rfl, rfl⟩)
    go_ret2
    exact ⟨rfl, rfl⟩
  · have e1 : fracB a = (a : Int) % 8388608 + 8388608 := by unfold fracB; rw [if_neg h]
    have e2 : expB a = (a : Int) % 2147483648 / 8388608 - 150 := by unfold expB; rw [if_neg h]
    have h4 : decide ((a : Int) % 2147483648 < 8388608) = false := by rw [decide_eq_false_iff_not]; omega
    rw [e1, e2]; clear e1 e2
    go_enter Try.func53, Try.ntmps53
    go_wp2_with (go_at_call 44; refine (implSize a ha _).mono ?_; rintro e w' ⟨rfl, rfl⟩)
    go_ret2
    exact ⟨rfl, rfl⟩
set_option maxHeartbeats 400000 in
theorem specSplitReal (a : Nat) (ha : a < 4294967296) (w : World) :
    Calls Try.prog 24 #[.float .f32 a] w fun e w' => e = .returned (.tuple #[.bool (finB a && ng a), .int .i64 (if finB a then fracB a else 0), .int .i64 (if finB a then expB a else 0), .int .i64 (if finB a then 0 else 2)]) ∧ ∃ n, w' = w.drewN n := by
  cases h : finB a
  all_goals
    simp only [if_true, if_false, Bool.false_eq_true, Bool.true_and, Bool.false_and]
    go_enter Try.func24, Try.ntmps24
    go_wp2_with (first | (go_at_call 43; refine (specFinite _ _).mono ?_; rintro e w' ⟨rfl, n, rfl⟩) | (go_at_call 51; refine (specParts a ha _).mono ?_; rintro e w' ⟨rfl, rfl⟩))
  · exact bodyPost_ret (v := .tuple #[.bool false, .int .i64 0, .int .i64 0, .int .i64 2]) (by simp [results, Try.results24, go_sem]) rfl ⟨rfl, _, rfl⟩
  · exact bodyPost_ret (v := .tuple #[.bool (ng a), .int .i64 (fracB a), .int .i64 (expB a), .int .i64 0]) (by simp [results, Try.results24, go_sem]) rfl ⟨rfl, _, rfl⟩
set_option maxHeartbeats 400000 in
theorem implSplitReal (a : Nat) (ha : a < 4294967296) (w : World) :
    Calls Try.prog 25 #[.float .f32 a] w fun e w' => e = .returned (.tuple #[.bool (finB a && ng a), .int .i64 (if finB a then fracB a else 0), .int .i64 (if finB a then expB a else 0), .int .i64 (if finB a then 0 else 2)]) ∧ w = w' := by
  cases h : finB a
  all_goals
    simp only [if_true, if_false, Bool.false_eq_true, Bool.true_and, Bool.false_and]
    go_enter Try.func25, Try.ntmps25
    go_wp2_with (first | (go_at_call 52; refine (implFinite _ ha _).mono ?_; rintro e w' ⟨rfl, rfl⟩) | (go_at_call 53; refine (implSplit a ha _).mono ?_; rintro e w' ⟨rfl, rfl⟩) | (go_at_call 40; refine (implIsNeg a ha _).mono ?_; rintro e w' ⟨rfl, rfl⟩))
  · exact bodyPost_ret (v := .tuple #[.bool false, .int .i64 0, .int .i64 0, .int .i64 2]) (by simp [results, Try.results25, go_sem]) rfl ⟨rfl, rfl⟩
  · exact bodyPost_ret (v := .tuple #[.bool (ng a), .int .i64 (fracB a), .int .i64 (expB a), .int .i64 0]) (by simp [results, Try.results25, go_sem]) rfl ⟨rfl, rfl⟩
set_option maxHeartbeats 400000 in
theorem law_FnExactSplitReal (a : Nat) (wa : (Lit.float .f32 a).wf = true) (w : World) :
    Calls Try.prog 8 #[.float .f32 a] w fun e w' => e = .returned (.bool true) ∧ Grown w w' := by
  have ha := lt32 wa
  clear wa
  cases h : finB a <;> cases h' : ng a
  all_goals
    go_enter Try.func8, Try.ntmps8
    go_wp2_with (first | (go_at_call 24; refine (specSplitReal _ ha _).mono ?_; rintro e w' ⟨rfl, n, rfl⟩) | (go_at_call 25; refine (implSplitReal _ ha _).mono ?_; rintro e w' ⟨rfl, rfl⟩))
    go_ret
    exact ⟨rfl, grown_drewN (Grown.refl _) _⟩
end Go.Proofs.Ytklblcilkoobbaa
