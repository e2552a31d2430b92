/-
  Tools over slices of narrow numbers: the like of numbers, copies, comparing.
-/
import Derived.Test.YtbceiphiopdegaaLists2
set_option linter.unusedSimpArgs false
set_option linter.unusedVariables false
namespace Go.Proofs.Ytbceiphiopdegaa
open Go.RowKit

theorem eqn_refl (x : Nat) : eqn x x := .inl rfl
theorem eqn_symm {x y : Nat} (h : eqn x y) : eqn y x := by rcases h with rfl | h; exact .inl rfl; exact .inr ⟨h.2, h.1⟩
theorem eqn_trans {x y z : Nat} (h : eqn x y) (h' : eqn y z) : eqn x z := by
  rcases h with rfl | h
  · exact h'
  · rcases h' with rfl | h'
    · exact .inr h
    · exact .inr ⟨h.1, h'.2⟩
theorem holds_new (w : World) (xs : List Nat) (n : Nat) (hl : xs.length = n) (t : TypeId) : Holds32 (w.alloc (.cells (fl xs) t)) w.heap.size 0 n xs := by
  intro i hi
  rw [Nat.zero_add, World.cell?_alloc_at (fl xs) t _ i rfl, fl_get, List.getElem?_eq_getElem (by omega)]
  simp [List.getD, List.getElem?_eq_getElem (show i < xs.length by omega)]

theorem toF_any (a : Option Addr) (n c : Nat) (xs : List Nat) (w : World) (hn : n ≤ 1048576) (h : Src w a n xs) :
    Calls Try.prog 6 #[.slice a n c] w fun e w' => ∃ g, e = .returned (.slice (some ⟨g, 0, none⟩) n n) ∧ Holds32 w' g 0 n xs ∧ Kept w w' := by
  obtain ⟨h1, _, h2 | ⟨g, o, h3, h4⟩⟩ := h
  · subst h2
    refine (toF0 a c w).mono ?_
    rintro e w' ⟨rfl, rfl⟩
    exact ⟨_, rfl, fun i hi => absurd hi (Nat.not_lt_zero _), (Kept.refl w).alloc _⟩
  · subst h3
    refine (toF xs g o n c w hn h4 h1).mono ?_
    rintro e w' ⟨rfl, rfl⟩
    exact ⟨_, rfl, holds_new w xs n h1 _, (Kept.refl w).alloc _⟩
theorem eqF_self (xs : List Nat) (g g' n : Nat) (w : World) (hn : n ≤ 1048576) (h1 : Holds32 w g 0 n xs) (h2 : Holds32 w g' 0 n xs) :
    Calls Try.prog 8 #[.slice (some ⟨g, 0, none⟩) n n, .slice (some ⟨g', 0, none⟩) n n] w fun e w' => e = .returned (.bool true) ∧ Drawn w w' :=
  eqF xs xs g 0 g' 0 n n n w hn h1 h2 (fun i _ => eqn_refl _)

end Go.Proofs.Ytbceiphiopdegaa
