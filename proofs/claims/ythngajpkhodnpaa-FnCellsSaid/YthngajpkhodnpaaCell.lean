/-
  Plain laws for FnCells: the numbers of cells and corners, by reckoning; no program in sight.
-/
import Derived.Test.YthngajpkhodnpaaFloat
set_option linter.unusedSimpArgs false
set_option linter.unusedVariables false
namespace Go.Proofs.Ythngajpkhodnpaa

/-- the greatest whole number that is at most a wide number, no NaN -/
def flo (x : Nat) : Option Nat := match FloatKind.f64.decode x with
  | .nan _ _ => none
  | d => some (FloatKind.f64.encode (d.integral .down))
def loC : Nat := 13965662444475908096
def hiC : Nat := 4742290407621132288
def geB (x y : Nat) : Bool := FloatKind.f64.format.order x y == some .gt || FloatKind.f64.format.order x y == some .eq
def leB (x y : Nat) : Bool := FloatKind.f64.format.order x y == some .lt || FloatKind.f64.format.order x y == some .eq
/-- the number of a cell -/
def partB (a S : Nat) : Option Int :=
  (floatToFloatBits .f32 a .f64).bind fun A => (floatToFloatBits .f32 S .f64).bind fun T => (floatBits .quo .f64 A T).bind fun Q => (flo Q).bind fun L =>
    if geB L loC = true ∧ leB L hiC = true then floatToIntVal .f64 L .i32 else none
/-- the corner of a number -/
def cornB (c : Int) (S : Nat) : Option Nat :=
  (floatToFloatBits .f32 S .f64).bind fun T => (floatBits .mul .f64 (floatOfInt .f64 c) T).bind fun P => floatToFloatBits .f64 P .f32
def xq (m : Nat) : Nat := (floatBits .quo .f32 (floatOfInt .f32 ((m : Int) - 64)) 1090519040).getD 0
def sq (s : Nat) : Nat := (floatBits .quo .f32 (floatOfInt .f32 (1 + (s : Int))) 1082130432).getD 0
def chk (m s : Nat) : Bool :=
  match partB (xq m) (sq s) with
  | none => false
  | some c => decide (-64 ≤ c) && decide (c ≤ 64) && match cornB c (sq s), cornB (c + 1) (sq s) with
    | some cb, some nb => finB cb && (FloatKind.f32.format.order cb (xq m) == some .gt) == false && (FloatKind.f32.format.order nb (xq m) == some .lt || FloatKind.f32.format.order nb (xq m) == some .eq) == false && partB cb (sq s) == some c
    | _, _ => false
theorem chk1 : ∀ m, m < 129 → ∀ s, s < 4 → chk m s = true := by decide +kernel
theorem chk2 : ∀ m, m < 129 → ∀ s, s < 4 → chk m (4 + s) = true := by decide +kernel
theorem chk3 : ∀ m, m < 129 → ∀ s, s < 4 → chk m (8 + s) = true := by decide +kernel
theorem chk4 : ∀ m, m < 129 → ∀ s, s < 4 → chk m (12 + s) = true := by decide +kernel
theorem chk_all (m s : Nat) (hm : m < 129) (hs : s < 16) : chk m s = true := by
  by_cases h1 : s < 4
  · exact chk1 m hm s h1
  by_cases h2 : s < 8
  · have := chk2 m hm (s - 4) (by omega)
    rwa [show 4 + (s - 4) = s by omega] at this
  by_cases h3 : s < 12
  · have := chk3 m hm (s - 8) (by omega)
    rwa [show 8 + (s - 8) = s by omega] at this
  · have := chk4 m hm (s - 12) (by omega)
    rwa [show 12 + (s - 12) = s by omega] at this
end Go.Proofs.Ythngajpkhodnpaa
