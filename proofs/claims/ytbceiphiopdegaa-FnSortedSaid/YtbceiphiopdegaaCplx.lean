/-
  Laws of the walk for complex numbers: the conversion complex128(z) as a total function of the world; the walk of sameComplex; no condition.
-/
import Derived.Test.YtbceiphiopdegaaReal3
set_option linter.unusedSimpArgs false
set_option linter.unusedVariables false
namespace Go.Proofs.Ytbceiphiopdegaa
open Go.RowKit

theorem grown_drewN {W w' : World} (h : Grown W w') (n : Nat) : Grown W (w'.drewN n) := h
theorem grown_cvW {W w' : World} (h : Grown W w') (a : Nat) : Grown W (cvW a w') := by obtain ⟨n, hn⟩ := cvW_is a w'; rw [hn]; exact grown_drewN h n
theorem grown_trans {W w w' : World} (h : Grown W w) (h' : Grown w w') : Grown W w' :=
  ⟨World.keptBut_trans h.1 h'.1, fun a => (h'.2.1 a).trans (h.2.1 a), Nat.le_trans h.2.2 h'.2.2⟩
theorem lt32 {a : Nat} (h : (Lit.float .f32 a).wf = true) : a < 4294967296 := by simpa [Lit.wf] using h
theorem cvB_lt (a : Nat) (w : World) : W64 (cvB a w) := by
  unfold W64 cvB
  split
  · have : ∀ t : Nat, (t % 2) * 2 ^ 63 + 0x7ff0000000000000 + 1 + (t / 2) % (2 ^ 52 - 1) < 18446744073709551616 := by
      intro t
      have h1 : t / 2 % (2 ^ 52 - 1) < 4503599627370495 := Nat.mod_lt _ (by decide)
      have h2 : t % 2 < 2 := Nat.mod_lt _ (by decide)
      generalize t / 2 % (2 ^ 52 - 1) = u at *
      generalize t % 2 = v at *
      have h3 : v = 0 ∨ v = 1 := by omega
      rcases h3 with rfl | rfl <;> omega
    exact this _
  · rename_i h
    have h' : nanB a = false := by simpa using h
    have := wide_some a h'
    generalize wideB a = x at *
    unfold floatToFloatBits at this
    rw [if_neg (by decide)] at this
    split at this
    · cases this
    · cases this; exact Ieee.Format.write_lt Ieee.double _
    · split at this
      · cases this
      · cases this; exact Ieee.Format.write_lt Ieee.double _
/-- a law's last step: both sides widened, held against each other -/
theorem cv2 (a b : Nat) (h : eqn a b) (w w' w'' : World) :
    Calls Try.prog 27 #[.float .f64 (cvB a w), .float .f64 (cvB b w')] w'' fun e w' => e = .returned (.bool true) ∧ w'' = w' :=
  same_ok _ _ (cvB_lt _ _) (cv_eqv a b w w' h) w''

theorem run_ftf_nan {P : Program} (w : World) (s k : FloatKind) (b : Nat) (hne : s ≠ k) (hok : s.format.binade ≤ s.format.infRung) (h : isnan s.format b = true) :
    (Conv.floatToFloat s b k).run P w = .ok (.float k (nvConv k b w)) w.drew := by
  have hd' : s.decode b = .nan (sgn s.format b) (rung s.format b - s.format.infRung) := read_nan s.format hok b (by simpa [isnan] using h)
  simp [Conv.floatToFloat, hne, hd', Question.forced, nvConv]
theorem run_ftf {P : Program} (a : Nat) (w : World) : (Conv.floatToFloat .f32 a .f64).run P w = .ok (.float .f64 (cvB a w)) (cvW a w) := by
  unfold cvB cvW
  cases h : nanB a
  · exact run_floatToFloat w (wide_some a h)
  · exact run_ftf_nan w .f32 .f64 a (by decide) okS (by rw [← isnan_single] at h; exact h)
theorem run_ccv {P : Program} (src dst : TypeId) (a b : Nat) (w : World) (hs : (P.underlying src).isSome = true) (hd : P.underlying dst = some (.complex .f64)) :
    (convert src dst (.complex .f32 a b)).run P w = .ok (.complex .f64 (cvB a w) (cvB b (cvW a w))) (cvW b (cvW a w)) := by
  obtain ⟨u, hs'⟩ := Option.isSome_iff_exists.1 hs
  cases u <;> simp [convert, run_underlying hs', run_underlying hd, Conv.complexToComplex, run_ftf]

end Go.Proofs.Ytbceiphiopdegaa
