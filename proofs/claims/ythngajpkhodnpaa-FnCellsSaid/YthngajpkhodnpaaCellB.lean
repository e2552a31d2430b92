/-
  Plain laws for FnCells: what the reckoning of cells gives, taken apart; no program in sight.
-/
import Derived.Test.YthngajpkhodnpaaCell
set_option linter.unusedSimpArgs false
set_option linter.unusedVariables false
namespace Go.Proofs.Ythngajpkhodnpaa

theorem xq_chk : ∀ m : Nat, m < 129 → ((floatBits .quo .f32 (floatOfInt .f32 ((m : Int) - 64)) 1090519040).isSome && finB (xq m) && decide (xq m < 4294967296)) = true := by decide +kernel
theorem sq_chk : ∀ s : Nat, s < 16 → ((floatBits .quo .f32 (floatOfInt .f32 (1 + (s : Int))) 1082130432).isSome && finB (sq s) && decide (sq s < 4294967296) && (FloatKind.f32.format.order (sq s) 0 == some .gt)) = true := by decide +kernel
theorem xq_ok (m : Nat) (hm : m < 129) : floatBits .quo .f32 (floatOfInt .f32 ((m : Int) - 64)) 1090519040 = some (xq m) ∧ finB (xq m) = true ∧ xq m < 4294967296 := by
  have h := xq_chk m hm
  simp only [Bool.and_eq_true, decide_eq_true_eq] at h
  obtain ⟨⟨h1, h2⟩, h3⟩ := h
  refine ⟨?_, h2, h3⟩
  obtain ⟨r, hr⟩ := Option.isSome_iff_exists.1 h1
  unfold xq
  rw [hr]
  rfl
theorem sq_ok (s : Nat) (hs : s < 16) : floatBits .quo .f32 (floatOfInt .f32 (1 + (s : Int))) 1082130432 = some (sq s) ∧ finB (sq s) = true ∧ sq s < 4294967296 ∧ (FloatKind.f32.format.order (sq s) 0 == some .gt) = true := by
  have h := sq_chk s hs
  simp only [Bool.and_eq_true, decide_eq_true_eq] at h
  obtain ⟨⟨⟨h1, h2⟩, h3⟩, h4⟩ := h
  refine ⟨?_, h2, h3, h4⟩
  obtain ⟨r, hr⟩ := Option.isSome_iff_exists.1 h1
  unfold sq
  rw [hr]
  rfl
/-- the number of a cell, step by step -/
def PartOK (a S : Nat) (c : Int) : Prop := ∃ A T Q L, floatToFloatBits .f32 a .f64 = some A ∧ floatToFloatBits .f32 S .f64 = some T ∧ floatBits .quo .f64 A T = some Q ∧ flo Q = some L ∧ geB L loC = true ∧ leB L hiC = true ∧ floatToIntVal .f64 L .i32 = some c
/-- a corner, step by step -/
def CornOK (c : Int) (S b : Nat) : Prop := ∃ T P, floatToFloatBits .f32 S .f64 = some T ∧ floatBits .mul .f64 (floatOfInt .f64 c) T = some P ∧ floatToFloatBits .f64 P .f32 = some b
theorem partB_ok {a S : Nat} {c : Int} (h : partB a S = some c) : PartOK a S c := by
  unfold partB at h
  simp only [Option.bind_eq_some_iff] at h
  obtain ⟨A, h1, T, h2, Q, h3, L, h4, h5⟩ := h
  split at h5
  · rename_i h6
    exact ⟨A, T, Q, L, h1, h2, h3, h4, h6.1, h6.2, h5⟩
  · cases h5
theorem cornB_ok {c : Int} {S b : Nat} (h : cornB c S = some b) : CornOK c S b := by
  unfold cornB at h
  simp only [Option.bind_eq_some_iff] at h
  obtain ⟨T, h1, P, h2, h3⟩ := h
  exact ⟨T, P, h1, h2, h3⟩
/-- all that the law asks of one part of a point -/
theorem cell_law (m s : Nat) (hm : m < 129) (hs : s < 16) : ∃ (c : Int) (cb nb : Nat), -64 ≤ c ∧ c ≤ 64 ∧ PartOK (xq m) (sq s) c ∧ CornOK c (sq s) cb ∧ CornOK (c + 1) (sq s) nb ∧ finB cb = true ∧
    (FloatKind.f32.format.order cb (xq m) == some .gt) = false ∧ (FloatKind.f32.format.order nb (xq m) == some .lt || FloatKind.f32.format.order nb (xq m) == some .eq) = false ∧ PartOK cb (sq s) c := by
  have h := chk_all m s hm hs
  unfold chk at h
  cases h1 : partB (xq m) (sq s) with
  | none => rw [h1] at h; cases h
  | some c =>
    rw [h1] at h
    simp only [Bool.and_eq_true, decide_eq_true_eq] at h
    obtain ⟨⟨a1, a2⟩, h⟩ := h
    cases h2 : cornB c (sq s) with
    | none => rw [h2] at h; cases h
    | some cb =>
      cases h3 : cornB (c + 1) (sq s) with
      | none => rw [h2, h3] at h; cases h
      | some nb =>
        rw [h2, h3] at h
        simp only [Bool.and_eq_true, beq_iff_eq] at h
        obtain ⟨⟨⟨b1, b2⟩, b3⟩, b4⟩ := h
        exact ⟨c, cb, nb, a1, a2, partB_ok h1, cornB_ok h2, cornB_ok h3, b1, by simpa using b2, by simpa using b3, partB_ok b4⟩
end Go.Proofs.Ythngajpkhodnpaa
