/-
  Plain laws for sorting in place: what swaps within a range leave; a row of narrow numbers that the call owns.
-/
import Derived.Test.YtbceiphiopdegaaPSort
set_option linter.unusedSimpArgs false
set_option linter.unusedVariables false
namespace Go.Proofs.Ytbceiphiopdegaa.Pt
open Go.RowKit

/-- in order within [a, b) -/
def Srt (a b : Nat) (xs : List Nat) : Prop := ∀ u v, a ≤ u → u < v → v < b → keyC (va xs u) ≤ keyC (va xs v)
theorem Srt.mono {a b a' b' : Nat} {xs : List Nat} (h : Srt a b xs) (ha : a ≤ a') (hb : b' ≤ b) : Srt a' b' xs := fun u v h1 h2 h3 => h u v (by omega) h2 (by omega)
theorem Srt.congr {a b : Nat} {xs ys : List Nat} (h : Srt a b xs) (he : ∀ k, a ≤ k → k < b → va ys k = va xs k) : Srt a b ys := fun u v h1 h2 h3 => by
  rw [he u h1 (by omega), he v (by omega) h3]; exact h u v h1 h2 h3

/-- a row of N numbers that the call owns, in block g -/
def Row (g N cap : Nat) (w0 : World) (xs : List Nat) (w : World) : Prop :=
  xs.length = N ∧ (∀ x ∈ xs, x < B64) ∧ w.ownsRow 0 37 1 (.slice (some ⟨g, 0, none⟩) N cap) N (xs.map cxv) ∧ Below g w0 w
theorem Row.cell {g N cap : Nat} {w0 w : World} {xs : List Nat} (h : Row g N cap w0 xs w) (i : Nat) (hi : i < N) : w.cell? ⟨g, i, none⟩ = some (.complex .f32 (reP (va xs i)) (imP (va xs i))) := by
  rw [World.ownsRow.cellAt h.2.2.1 i (by omega), List.getElem?_map, va_get xs i (by rw [h.1]; exact hi)]; rfl
theorem Row.frozen {g N cap : Nat} {w0 w : World} {xs : List Nat} (h : Row g N cap w0 xs w) (i : Nat) : w.frozen? ⟨g, i, none⟩ = false := World.ownsRow.frozenAt h.2.2.1 i
theorem Row.lt {g N cap : Nat} {w0 w : World} {xs : List Nat} (h : Row g N cap w0 xs w) (i : Nat) (hi : i < N) : va xs i < B64 := by
  have hl : i < xs.length := by rw [h.1]; exact hi
  have e : va xs i = xs[i] := by simp [va, List.getD, hl]
  rw [e]; exact h.2.1 _ (List.getElem_mem _)
theorem Row.set {g N cap : Nat} {w0 w : World} {xs : List Nat} (h : Row g N cap w0 xs w) (i x : Nat) (hx : x < B64) : Row g N cap w0 (xs.set i x) (w.setCell ⟨g, i, none⟩ (.complex .f32 (reP x) (imP x))) := by
  refine ⟨by rw [List.length_set]; exact h.1, fun y hy => ?_, ?_, Below.setCell (p := ⟨g, i, none⟩) h.2.2.2 (Nat.le_refl _) _⟩
  · rcases mem_set hy with rfl | hy
    · exact hx
    · exact h.2.1 _ hy
  · rw [List.map_set]
    exact (World.ownsRow.stored h.2.2.1 i _).1
theorem Row.drewN {g N cap : Nat} {w0 w : World} {xs : List Nat} (h : Row g N cap w0 xs w) (m : Nat) : Row g N cap w0 xs (w.drewN m) := ⟨h.1, h.2.1, h.2.2.1, ⟨h.2.2.2.os, h.2.2.2.tape, h.2.2.2.output, h.2.2.2.size, h.2.2.2.block⟩⟩
theorem Row.swap {g N cap : Nat} {w0 w : World} {xs : List Nat} (h : Row g N cap w0 xs w) (i j : Nat) (hi : i < N) (hj : j < N) :
    Row g N cap w0 (swp xs i j) ((w.setCell ⟨g, i, none⟩ (.complex .f32 (reP (va xs j)) (imP (va xs j)))).setCell ⟨g, j, none⟩ (.complex .f32 (reP (va xs i)) (imP (va xs i)))) := (h.set i _ (h.lt j hj)).set j _ (h.lt i hi)
end Go.Proofs.Ytbceiphiopdegaa.Pt
