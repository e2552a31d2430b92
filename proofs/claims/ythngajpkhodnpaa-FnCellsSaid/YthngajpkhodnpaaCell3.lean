/-
  Walks for FnCells: cells and corners.
-/
import Derived.Test.YthngajpkhodnpaaCell2
import Derived.Test.YthngajpkhodnpaaNb
import Derived.Outline
set_option linter.unusedSimpArgs false
set_option linter.unusedVariables false
namespace Go.Proofs.Ythngajpkhodnpaa
open Go.RowKit

theorem new2 {w w2 : World} {u v : Value} {t : TypeId} (K : Kept (w.alloc (.cells #[u, v] t)) w2) : w2.cell? ⟨w.heap.size, 0, none⟩ = some u ∧ w2.cell? ⟨w.heap.size, 1, none⟩ = some v ∧ w2.frozen? ⟨w.heap.size, 0, none⟩ = false ∧ w2.frozen? ⟨w.heap.size, 1, none⟩ = false := by
  have hlt : w.heap.size < (w.alloc (.cells #[u, v] t)).heap.size := by rw [World.size_alloc]; omega
  refine ⟨K.cell (World.cell?_alloc_at _ _ _ _ rfl), K.cell (World.cell?_alloc_at _ _ _ _ rfl), ?_, ?_⟩
  · rw [Below.frozen K (p := ⟨w.heap.size, 0, none⟩) hlt]; exact World.frozen?_alloc_new _ _ _ _
  · rw [Below.frozen K (p := ⟨w.heap.size, 1, none⟩) hlt]; exact World.frozen?_alloc_new _ _ _ _
set_option maxHeartbeats 4000000 in
theorem specCell (x y S : Nat) (c d : Int) (hx : finB x = true) (hy : finB y = true) (hS : finB S = true) (hp : (FloatKind.f32.format.order S 0 == some .gt) = true) (h1 : PartOK x S c) (h2 : PartOK y S d) (w : World) :
    Calls Try.prog 8 #[.complex .f32 x y, .float .f32 S] w fun e w' => e = .returned (.tuple #[c2 c d, .int .i64 0]) ∧ Kept w w' := by
  have HS := Lib.hid (specSide S hS hp)
  have HF := Lib.hid (specFin2 x y hx hy)
  have HA := Lib.hid (specPart x S c h1)
  have HB := Lib.hid (specPart y S d h2)
  clear hx hy hS hp h1 h2
  go_enter Try.func8, Try.ntmps8
  go_wp2_with fail
  refine (HS.out _).mono ?_
  rintro _ w1 ⟨rfl, hk⟩
  have K1 := Lib.hid hk
  clear hk HS
  go_wp2_with fail
  refine (HF.out _).mono ?_
  rintro _ w2 ⟨rfl, hk⟩
  have K2 := Lib.hid (Kept.trans K1.out hk)
  obtain ⟨l0, l1, f0, f1⟩ := new2 K2.out
  clear hk HF K1
  go_wp2_with fail
  refine (HA.out _).mono ?_
  rintro _ _ ⟨rfl, rfl⟩
  go_wp2_with fail
  refine (HB.out _).mono ?_
  rintro _ _ ⟨rfl, rfl⟩
  go_wp2
  refine bodyPost_ret (v := .tuple #[c2 c d, .int .i64 0]) (by simp [results, Try.results8, go_sem, *]) rfl ⟨rfl, ?_⟩
  exact Kept.setCell (Kept.setCell (Kept.trans ((Kept.refl w).alloc _) K2.out) (Nat.le_refl _) _) (Nat.le_refl _) _
end Go.Proofs.Ythngajpkhodnpaa
