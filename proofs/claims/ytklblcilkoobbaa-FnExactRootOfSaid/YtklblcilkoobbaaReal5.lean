/-
  The walks of FlushReal and RootOf on both sides, and of their laws; no condition beside the words' range.
-/
import Derived.Test.YtklblcilkoobbaaReal4
import Derived.Lib.Hide
set_option linter.unusedSimpArgs false
set_option linter.unusedVariables false
namespace Go.Proofs.Ytklblcilkoobbaa
open Go.RowKit

/-! ### zeros for subnormal numbers -/
set_option maxHeartbeats 400000 in
theorem implOpposite (b : Bool) (a : Nat) (ha : a < 4294967296) (w : World) :
    Calls Try.prog 56 #[.bool b, .float .f32 a] w fun e w' => e = .returned (.float .f32 (if b then flipB a else a)) ∧ w = w' := by
  have h1 := neg_float a ha
  cases b
  all_goals
    simp only [if_true, if_false, Bool.false_eq_true]
    go_enter Try.func56, Try.ntmps56
    go_wp2
    go_ret
    exact ⟨rfl, rfl⟩

/-- the zero with a sign -/
def zeroB (s : Bool) : Nat := if s then 2147483648 else 0
theorem implOpp0 (b : Bool) (w : World) :
    Calls Try.prog 56 #[.bool b, .float .f32 0] w fun e w' => e = .returned (.float .f32 (zeroB b)) ∧ w = w' := implOpposite b 0 (by decide) w
def flushB (a : Nat) : Nat := if kindB a = 1 then zeroB (ng a) else a

theorem bits64 (b : Nat) (w : World) : (callFunc 61 #[.float .f64 b]).run Try.prog w = .ok (.value (.int .u64 b)) w := by kernel_rfl
theorem from64 (n : Int) (w : World) : (callFunc 60 #[.int .u64 n]).run Try.prog w = .ok (.value (.float .f64 n.toNat)) w := by kernel_rfl
def zero64 (s : Bool) : Nat := if s then 9223372036854775808 else 0
theorem and_top (x : Nat) (hx : W64 x) : bits .and .u64 (x : Int) 9223372036854775808 = if 9223372036854775808 ≤ x then 9223372036854775808 else 0 := by
  unfold W64 at hx
  rw [show (9223372036854775808 : Int) = ((9223372036854775808 : Nat) : Int) from rfl, u64_and_nat x 9223372036854775808 hx (by decide), show (9223372036854775808 : Nat) = 2 ^ 63 from rfl, nat_bit]
  by_cases h : 2 ^ 63 ≤ x
  · rw [if_pos h, show x / 2 ^ 63 % 2 = 1 by omega]
  · rw [if_neg h, show x / 2 ^ 63 % 2 = 0 by omega]; rfl
set_option maxHeartbeats 400000 in
theorem copysign0 (x : Nat) (hx : W64 x) (w : World) :
    Calls Try.prog 55 #[.float .f64 0, .float .f64 x] w fun e w' => e = .returned (.float .f64 (zero64 (decide (9223372036854775808 ≤ x)))) ∧ w = w' := by
  have hb := bits64
  have hc := from64
  have h1 := and_top x hx
  have h2 : bits .andNot .u64 0 9223372036854775808 = 0 := by decide +kernel
  have h3 : bits .or .u64 0 9223372036854775808 = 9223372036854775808 := by decide +kernel
  have h4 : bits .or .u64 0 0 = 0 := by decide +kernel
  clear hx
  by_cases h : 9223372036854775808 ≤ x
  · rw [if_pos h] at h1
    rw [decide_eq_true h]
    clear h
    go_enter Try.func55, Try.ntmps55
    go_wp2
    go_ret
    exact ⟨rfl, rfl⟩
  · rw [if_neg h] at h1
    rw [decide_eq_false h]
    clear h
    go_enter Try.func55, Try.ntmps55
    go_wp2
    go_ret
    exact ⟨rfl, rfl⟩
theorem wide_sign (a : Nat) (ha : a < 4294967296) (h : nanB a = false) : decide (9223372036854775808 ≤ wideB a) = ng a := by
  obtain ⟨r, h1, _, h2, _⟩ := widen a (by rw [isnan_single]; exact h)
  have e : wideB a = r := by unfold wideB; rw [h1]; rfl
  have hw : W64 (cvB a default) := cvB_lt a default
  unfold cvB at hw
  rw [h, if_neg (by decide), e] at hw
  unfold W64 at hw
  rw [sgn_single a ha] at h2
  rw [e, ← h2]
  unfold sgn
  rw [swD, Bool.eq_iff_iff, decide_eq_true_eq, beq_iff_eq]
  omega
theorem kind_one (a : Nat) (h : kindB a = 1) : nanB a = false := by
  unfold kindB at h
  by_cases h' : nanB a = true
  · rw [if_pos h'] at h; cases h
  · simpa using h'
theorem narrow_p0 (w : World) : (convert 32 23 (.float .f64 0)).run Try.prog w = .ok (.float .f32 0) w :=
  run_convert_float_float w _ _ .f64 .f32 0 0 (by kernel_rfl) Try.underlying23 (by decide +kernel)
theorem narrow_m0 (w : World) : (convert 32 23 (.float .f64 9223372036854775808)).run Try.prog w = .ok (.float .f32 2147483648) w :=
  run_convert_float_float w _ _ .f64 .f32 9223372036854775808 2147483648 (by kernel_rfl) Try.underlying23 (by decide +kernel)
theorem narrow_z (s : Bool) (w : World) : (convert 32 23 (.float .f64 (zero64 s))).run Try.prog w = .ok (.float .f32 (zeroB s)) w := by
  cases s
  · exact narrow_p0 w
  · exact narrow_m0 w
set_option maxHeartbeats 400000 in
theorem specFlush (a : Nat) (ha : a < 4294967296) (w : World) :
    Calls Try.prog 28 #[.float .f32 a] w fun e w' => e = .returned (.float .f32 (flushB a)) ∧ ∃ n, w' = w.drewN n := by
  by_cases h : kindB a = 1
  · have hn := kind_one a h
    have hc := fun w => run_convert_float_float (P := Try.prog) w 23 32 .f32 .f64 a _ (by kernel_rfl) Try.underlying32 (wide_some a hn)
    have hz := narrow_z
    have hw : W64 (wideB a) := by
      have hw : W64 (cvB a default) := cvB_lt a default
      unfold cvB at hw
      rwa [hn, if_neg (by decide)] at hw
    have hs := wide_sign a ha hn
    have e : flushB a = zeroB (ng a) := by unfold flushB; rw [if_pos h]
    rw [e]; clear e hn
    have h' : (kindB a != 1) = false := by simp [h]
    clear h
    go_enter Try.func28, Try.ntmps28
    go_wp2_with (first | (go_at_call 17; refine (specKind _ ha _).mono ?_; rintro e w' ⟨rfl, n, rfl⟩) | (go_at_call 55; refine (copysign0 _ hw _).mono ?_; rw [hs]; rintro e w' ⟨rfl, rfl⟩))
    go_ret
    exact ⟨rfl, _, rfl⟩
  · have e : flushB a = a := by unfold flushB; rw [if_neg h]
    rw [e]; clear e
    have h' : (kindB a != 1) = true := by simp [h]
    clear h
    go_enter Try.func28, Try.ntmps28
    go_wp2_with (first | (go_at_call 17; refine (specKind _ ha _).mono ?_; rintro e w' ⟨rfl, n, rfl⟩))
    go_ret
    exact ⟨rfl, _, rfl⟩
set_option maxHeartbeats 400000 in
theorem implFlush (a : Nat) (ha : a < 4294967296) (w : World) :
    Calls Try.prog 29 #[.float .f32 a] w fun e w' => e = .returned (.float .f32 (flushB a)) ∧ w = w' := by
  by_cases h : kindB a = 1
  · have e : flushB a = zeroB (ng a) := by unfold flushB; rw [if_pos h]
    rw [e]; clear e
    have h' : (kindB a == 1) = true := by simp [h]
    clear h
    go_enter Try.func29, Try.ntmps29
    go_wp2_with (first | (go_at_call 18; refine (implKind _ ha _).mono ?_; rintro e w' ⟨rfl, rfl⟩) | (go_at_call 40; refine (implIsNeg _ ha _).mono ?_; rintro e w' ⟨rfl, rfl⟩) | (go_at_call 56; refine (implOpp0 _ _).mono ?_; rintro e w' ⟨rfl, rfl⟩))
    go_ret
    exact ⟨rfl, rfl⟩
  · have e : flushB a = a := by unfold flushB; rw [if_neg h]
    rw [e]; clear e
    have h' : (kindB a == 1) = false := by simp [h]
    clear h
    go_enter Try.func29, Try.ntmps29
    go_wp2_with (first | (go_at_call 18; refine (implKind _ ha _).mono ?_; rintro e w' ⟨rfl, rfl⟩))
    go_ret
    exact ⟨rfl, rfl⟩
set_option maxHeartbeats 400000 in
theorem law_FnExactFlushReal (a : Nat) (wa : (Lit.float .f32 a).wf = true) (w : World) :
    Calls Try.prog 10 #[.float .f32 a] w fun e w' => e = .returned (.bool true) ∧ Grown w w' := by
  have ha := lt32 wa
  clear wa
  have hc := fun a w => run_cv (P := Try.prog) 23 32 a w (by kernel_rfl) Try.underlying32
  go_enter Try.func10, Try.ntmps10
  go_wp2_with (first | (go_at_call 28; refine (specFlush _ ha _).mono ?_; rintro e w' ⟨rfl, n, rfl⟩) | (go_at_call 29; refine (implFlush _ ha _).mono ?_; rintro e w' ⟨rfl, rfl⟩) | (go_at_call 23; refine (cv2 _ _ (.inl rfl) _ _ _).mono ?_; rintro e w' ⟨rfl, rfl⟩))
  go_ret
  exact ⟨rfl, grown_cvW (grown_cvW (grown_drewN (Grown.refl _) _) _) _⟩

/-! ### square roots -/
theorem sqrt_entry (x : Nat) (w : World) {P : Program} : (Extern.MathSqrt.sqrt #[.float .f64 x]).run P w =
    match Ieee.double.sqrt x with
    | some r => .ok (.float .f64 r) w
    | none => .ok (.float .f64 (nvArith .f64 x x w)) w.drew := by
  change Sem.run P (match Ieee.double.sqrt x with
    | some r => pure (Value.float .f64 r)
    | none => do pure (Value.float .f64 (← choose (.nanBits .f64 x x)))) w = _
  cases Ieee.double.sqrt x with
  | some r => rfl
  | none => simp [Question.forced, nvArith]
theorem run_sqrt_some (x q : Nat) (h : Ieee.double.sqrt x = some q) (w : World) : (callFunc 62 #[.float .f64 x]).run Try.prog w = .ok (.value (.float .f64 q)) w := by
  rw [run_callFunc_extern (fn := Try.f62) (e := Extern.MathSqrt.sqrt) (by kernel_rfl) (by kernel_rfl) (by kernel_rfl) (by kernel_rfl) (by kernel_rfl)]
  rw [sqrt_entry, h]; rfl
theorem run_sqrt_none (x : Nat) (h : Ieee.double.sqrt x = none) (w : World) : (callFunc 62 #[.float .f64 x]).run Try.prog w = .ok (.value (.float .f64 (nvArith .f64 x x w))) w.drew := by
  rw [run_callFunc_extern (fn := Try.f62) (e := Extern.MathSqrt.sqrt) (by kernel_rfl) (by kernel_rfl) (by kernel_rfl) (by kernel_rfl) (by kernel_rfl)]
  rw [sqrt_entry, h]; rfl

/-- the root of a number, narrowed: none, where it is a NaN -/
def rootB (a : Nat) : Option Nat := if nanB a then none else (Ieee.double.sqrt (wideB a)).bind fun q => floatToFloatBits .f64 q .f32
def rootIs (a u : Nat) : Prop := rootB a = some u ∨ rootB a = none ∧ nanB u = true
theorem rootIs_eqn (a u v : Nat) (h : rootIs a u) (h' : rootIs a v) : eqn u v := by
  rcases h with h | h <;> rcases h' with h' | h'
  · rw [h] at h'; cases h'; exact .inl rfl
  · rw [h] at h'; cases h'.1
  · rw [h'] at h; cases h.1
  · exact .inr ⟨h.2, h'.2⟩
theorem sqrt_nan (x : Nat) (h : nan64 x = true) : Ieee.double.sqrt x = none := by
  unfold Ieee.Format.sqrt
  rw [read_nan Ieee.double okD x (by rw [← isnan_double] at h; simpa [isnan] using h)]
  rfl
theorem run_nv (x y : Nat) (w w' : World) : (convert 32 23 (.float .f64 (nvArith .f64 x y w))).run Try.prog w' = .ok (.float .f32 (nvConv .f32 (nvArith .f64 x y w) w')) w'.drew :=
  run_conv_nan w' _ _ .f64 .f32 _ (by kernel_rfl) Try.underlying23 (by decide) okD (by have := nvArith64 x y w; rw [← isnan_double] at this; exact this)

/-- what the two bodies share, as the walk sees it: one of three ways -/
theorem root_ways (a : Nat) : (∃ q t, nanB a = false ∧ Ieee.double.sqrt (wideB a) = some q ∧ floatToFloatBits .f64 q .f32 = some t ∧ rootB a = some t)
    ∨ rootB a = none ∧ ∀ w, Ieee.double.sqrt (cvB a w) = none := by
  by_cases h : nanB a = true
  · exact .inr ⟨by unfold rootB; rw [if_pos h], fun w => sqrt_nan _ (by unfold cvB; rw [if_pos h]; exact nvConv64 _ _)⟩
  · have h : nanB a = false := by simpa using h
    cases hq : Ieee.double.sqrt (wideB a) with
    | none =>
      refine .inr ⟨by unfold rootB; rw [h, if_neg (by decide), hq]; rfl, fun w => ?_⟩
      unfold cvB; rw [h, if_neg (by decide)]; exact hq
    | some q =>
      obtain ⟨r, h1, _, _, h2⟩ := widen a (by rw [isnan_single]; exact h)
      have e : wideB a = r := by unfold wideB; rw [h1]; rfl
      rw [e] at hq
      obtain ⟨t, ht, _⟩ := root_narrow r q (by rcases h2 with h2 | h2; exact .inl h2; exact .inr ⟨_, h2⟩) hq
      refine .inl ⟨q, t, h, by first | exact hq | (rw [e]; exact hq) | rfl, ht, ?_⟩
      unfold rootB; rw [h, if_neg (by decide), e, hq]; exact ht
set_option maxHeartbeats 400000 in
theorem sqrt_some (x q : Nat) (h : Ieee.double.sqrt x = some q) (w : World) :
    Calls Try.prog 58 #[.float .f64 x] w fun e w' => e = .returned (.float .f64 q) ∧ w = w' := by
  have h1 := run_sqrt_some x q h
  clear h
  go_enter Try.func58, Try.ntmps58
  go_wp2
  go_ret
  exact ⟨rfl, rfl⟩
set_option maxHeartbeats 400000 in
theorem sqrt_none (x : Nat) (h : Ieee.double.sqrt x = none) (w : World) :
    Calls Try.prog 58 #[.float .f64 x] w fun e w' => e = .returned (.float .f64 (nvArith .f64 x x w)) ∧ w.drew = w' := by
  have h1 := run_sqrt_none x h
  clear h
  go_enter Try.func58, Try.ntmps58
  go_wp2
  go_ret
  exact ⟨rfl, rfl⟩
set_option maxHeartbeats 400000 in
theorem specRoot1 (a : Nat) (w : World) :
    Calls Try.prog 57 #[.float .f32 a] w fun e w' => ∃ u, e = .returned (.float .f32 u) ∧ rootIs a u ∧ Grown w w' := by
  rcases root_ways a with ⟨q, t, h1, h2, h3, h4⟩ | ⟨h1, h2⟩
  · have hc := fun w => run_convert_float_float (P := Try.prog) w 23 32 .f32 .f64 a _ (by kernel_rfl) Try.underlying32 (wide_some a h1)
    have hd := fun w => run_convert_float_float (P := Try.prog) w 32 23 .f64 .f32 q t (by kernel_rfl) Try.underlying23 h3
    have H : Hid (rootIs a t) := .inl h4
    have H2 := Lib.hid h2
    clear h1 h2 h3 h4
    go_enter Try.func57, Try.ntmps57
    go_wp2_with (go_at_call 58; refine (sqrt_some _ _ H2.out _).mono ?_; rintro e w' ⟨rfl, rfl⟩)
    go_ret
    exact ⟨_, rfl, H.out, Grown.refl _⟩
  · have hc := fun a w => run_cv (P := Try.prog) 23 32 a w (by kernel_rfl) Try.underlying32
    have hd := fun x y w => run_nv x y w
    have H : Hid (rootB a = none ∧ True) := ⟨h1, trivial⟩
    have H2 := Lib.hid h2
    clear h1 h2
    go_enter Try.func57, Try.ntmps57
    go_wp2_with (go_at_call 58; refine (sqrt_none _ (H2.out _) _).mono ?_; rintro e w' ⟨rfl, rfl⟩)
    go_ret
    exact ⟨_, rfl, .inr ⟨H.out.1, nvConv32 _ _⟩, grown_drewN (grown_cvW (Grown.refl _) _) 2⟩
set_option maxHeartbeats 400000 in
theorem implRoot (a : Nat) (w : World) :
    Calls Try.prog 37 #[.float .f32 a] w fun e w' => ∃ u, e = .returned (.float .f32 u) ∧ rootIs a u ∧ Grown w w' := by
  rcases root_ways a with ⟨q, t, h1, h2, h3, h4⟩ | ⟨h1, h2⟩
  · have hc := fun w => run_convert_float_float (P := Try.prog) w 23 32 .f32 .f64 a _ (by kernel_rfl) Try.underlying32 (wide_some a h1)
    have hd := fun w => run_convert_float_float (P := Try.prog) w 32 23 .f64 .f32 q t (by kernel_rfl) Try.underlying23 h3
    have H : Hid (rootIs a t) := .inl h4
    have H2 := Lib.hid h2
    clear h1 h2 h3 h4
    go_enter Try.func37, Try.ntmps37
    go_wp2_with (go_at_call 58; refine (sqrt_some _ _ H2.out _).mono ?_; rintro e w' ⟨rfl, rfl⟩)
    go_ret
    exact ⟨_, rfl, H.out, Grown.refl _⟩
  · have hc := fun a w => run_cv (P := Try.prog) 23 32 a w (by kernel_rfl) Try.underlying32
    have hd := fun x y w => run_nv x y w
    have H : Hid (rootB a = none ∧ True) := ⟨h1, trivial⟩
    have H2 := Lib.hid h2
    clear h1 h2
    go_enter Try.func37, Try.ntmps37
    go_wp2_with (go_at_call 58; refine (sqrt_none _ (H2.out _) _).mono ?_; rintro e w' ⟨rfl, rfl⟩)
    go_ret
    exact ⟨_, rfl, .inr ⟨H.out.1, nvConv32 _ _⟩, grown_drewN (grown_cvW (Grown.refl _) _) 2⟩
set_option maxHeartbeats 400000 in
theorem specRoot (a : Nat) (w : World) :
    Calls Try.prog 36 #[.float .f32 a] w fun e w' => ∃ u, e = .returned (.float .f32 u) ∧ rootIs a u ∧ Grown w w' := by
  go_enter Try.func36, Try.ntmps36
  go_wp2_with (go_at_call 57; refine (specRoot1 _ _).mono ?_; rintro e w' ⟨u, rfl, hu, hg⟩)
  go_ret
  exact ⟨_, rfl, hu, hg⟩
theorem grown_trans {W w w' : World} (h : Grown W w) (h' : Grown w w') : Grown W w' :=
  ⟨World.keptBut_trans h.1 h'.1, fun a => (h'.2.1 a).trans (h.2.1 a), Nat.le_trans h.2.2 h'.2.2⟩
set_option maxHeartbeats 400000 in
theorem law_FnExactRootOf (a : Nat) (wa : (Lit.float .f32 a).wf = true) (w : World) :
    Calls Try.prog 14 #[.float .f32 a] w fun e w' => e = .returned (.bool true) ∧ Grown w w' := by
  clear wa
  have hc := fun a w => run_cv (P := Try.prog) 23 32 a w (by kernel_rfl) Try.underlying32
  go_enter Try.func14, Try.ntmps14
  go_wp2_with (first | (go_at_call 36; refine (specRoot _ _).mono ?_; rintro e w1 ⟨u, rfl, hu, hg1⟩) | (go_at_call 37; refine (implRoot _ _).mono ?_; rintro e w2 ⟨v, rfl, hv, hg2⟩) | (go_at_call 23; refine (cv2 _ _ (rootIs_eqn _ _ _ (by assumption) (by assumption)) _ _ _).mono ?_; rintro e w' ⟨rfl, rfl⟩))
  go_ret
  exact ⟨rfl, grown_cvW (grown_cvW (grown_trans hg1 hg2) _) _⟩
end Go.Proofs.Ytklblcilkoobbaa
