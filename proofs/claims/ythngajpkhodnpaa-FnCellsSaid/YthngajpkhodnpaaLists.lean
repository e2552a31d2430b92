/-
  The walks over slices of narrow numbers: eqFloat32S, toFloat32S; no condition beside the lengths.
-/
import Derived.Test.YthngajpkhodnpaaCplx
import Derived.Test.YthngajpkhodnpaaFrame
import Derived.RegionTactic
import Derived.ChangeAlike
import Derived.Deep.RegionWith
import Derived.Deep.RegionHeld3
import Derived.Lib.Hide
set_option linter.unusedSimpArgs false
set_option linter.unusedVariables false
namespace Go.Proofs.Ythngajpkhodnpaa
open Go.RowKit

/-- some draws later -/
def Drawn (w w' : World) : Prop := ∃ m, w' = w.drewN m
theorem Drawn.refl (w : World) : Drawn w w := ⟨0, rfl⟩
theorem Drawn.drewN {w w' : World} (h : Drawn w w') (m : Nat) : Drawn w (w'.drewN m) := by obtain ⟨n, rfl⟩ := h; exact ⟨n + m, World.drewN_drewN _ _ _⟩
theorem Drawn.cvW {w w' : World} (h : Drawn w w') (a : Nat) : Drawn w (cvW a w') := by obtain ⟨n, hn⟩ := cvW_is a w'; rw [hn]; exact h.drewN n
theorem Drawn.arW {w w' : World} (h : Drawn w w') (op : BinOp) (k : FloatKind) (x y : Nat) : Drawn w (arW op k x y w') := by obtain ⟨n, hn⟩ := arW_is op k x y w'; rw [hn]; exact h.drewN n
theorem Kept.drawn {w w1 w2 : World} (h : Kept w w1) (h' : Drawn w1 w2) : Kept w w2 := by obtain ⟨n, rfl⟩ := h'; exact h.drewN n
theorem Drawn.grown {w w' : World} (h : Drawn w w') : Grown w w' := by obtain ⟨n, rfl⟩ := h; exact grown_drewN (Grown.refl _) n


end Go.Proofs.Ythngajpkhodnpaa
