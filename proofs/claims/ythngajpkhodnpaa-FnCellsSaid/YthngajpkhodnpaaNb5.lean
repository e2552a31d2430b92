/-
  Walks for NeighboursOf: the marks that the law lays into a row of cells, and their test; the two sides out of range.
-/
import Derived.Test.YthngajpkhodnpaaNb4
import Derived.Laws.OwnMore
import Derived.Deep.AppendLies
set_option linter.unusedSimpArgs false
set_option linter.unusedVariables false
namespace Go.Proofs.Ythngajpkhodnpaa
open Go.RowKit

/-- the row whose first m numbers are marked -/
def mk (xs : List Value) (m : Nat) : List Value := (List.range m).map (fun (j : Nat) => Value.int .i32 ((j : Int) + 1)) ++ xs.drop m
theorem mk_zero (xs : List Value) : mk xs 0 = xs := by simp [mk]
theorem mk_lo (xs : List Value) (m j : Nat) (h : j < m) : (mk xs m)[j]? = some (.int .i32 ((j : Int) + 1)) := by
  unfold mk
  rw [List.getElem?_append_left (by simpa using h)]
  simp [h]
theorem mk_hi (xs : List Value) (m j : Nat) (h : m ≤ j) : (mk xs m)[j]? = xs[j]? := by
  unfold mk
  rw [List.getElem?_append_right (by simpa using h)]
  simp only [List.length_map, List.length_range, List.getElem?_drop]
  congr 1
  omega
theorem mk_len (xs : List Value) (m : Nat) (h : m ≤ xs.length) : (mk xs m).length = xs.length := by
  unfold mk
  simp
  omega
theorem mk_set (xs : List Value) (m : Nat) (h : m < xs.length) : (mk xs m).set m (.int .i32 ((m : Int) + 1)) = mk xs (m + 1) := by
  apply List.ext_getElem?
  intro j
  rw [List.getElem?_set]
  by_cases h1 : m = j
  · subst h1
    rw [if_pos rfl, if_pos (by rw [mk_len _ _ (by omega)]; exact h), mk_lo _ _ _ (by omega)]
  · rw [if_neg h1]
    by_cases h2 : j < m
    · rw [mk_lo _ _ _ h2, mk_lo _ _ _ (by omega)]
    · rw [mk_hi _ _ _ (by omega), mk_hi _ _ _ (by omega)]
/-- a row of eight cells, with what marks it bears -/
def RowM (B g cap : Nat) (xs : List Value) (w : World) (m : Nat) (wr : World) : Prop :=
  wr.ownsRow B 29 2 (.slice (some ⟨g, 0, none⟩) 8 cap) 8 (mk xs m) ∧ Below g w wr
theorem RowM.step {B g cap : Nat} {xs : List Value} {w wr : World} {m : Nat} (hx : xs.length = 16) (hm : m < 16) (h : RowM B g cap xs w m wr) : RowM B g cap xs w (m + 1) (wr.setCell ⟨g, m, none⟩ (.int .i32 ((m : Int) + 1))) := by
  have h1 := (World.ownsRow.stored h.1 m (.int .i32 ((m : Int) + 1))).1
  rw [mk_set xs m (by omega)] at h1
  exact ⟨h1, Below.setCell h.2 (Nat.le_refl _) _⟩
theorem RowM.drew {B g cap : Nat} {xs : List Value} {w wr : World} {m : Nat} (h : RowM B g cap xs w m wr) : RowM B g cap xs w m wr.drew := ⟨h.1, Below.drew h.2⟩
theorem RowM.cell {B g cap : Nat} {xs : List Value} {w wr : World} {m : Nat} (hx : xs.length = 16) (hi : ∀ z ∈ xs, ∃ x, z = .int .i32 x) (h : RowM B g cap xs w m wr) (hm : m ≤ 16) (j : Nat) (hj : j < 16) : ∃ z, wr.cell? ⟨g, j, none⟩ = some (.int .i32 z) := by
  rw [World.ownsRow.cellAt h.1 j (by omega)]
  by_cases h1 : j < m
  · exact ⟨_, mk_lo _ _ _ h1⟩
  · rw [mk_hi _ _ _ (by omega)]
    obtain ⟨x, hx'⟩ := hi (xs[j]'(by omega)) (List.getElem_mem _)
    exact ⟨x, by rw [List.getElem?_eq_getElem (by omega), hx']⟩
theorem RowM.kept0 {B g cap : Nat} {xs : List Value} {w w' : World} (h : RowM B g cap xs w 0 w) (hk : Kept w w') : RowM B g cap xs w' 0 w' :=
  ⟨World.ownsRow.kept (row := none) h.1 ⟨hk.os, hk.tape, hk.output, hk.size, fun k hk' _ => hk.block k hk'⟩ (.inr (by simp [Value.ownBlock])), Below.refl _ _⟩
def Marked (g : Nat) (w : World) : Prop := ∀ j : Nat, j < 16 → w.cell? ⟨g, j, none⟩ = some (.int .i32 ((j : Int) + 1))
theorem RowM.marked {B g cap : Nat} {xs : List Value} {w wr : World} (h : RowM B g cap xs w 16 wr) : Marked g wr := fun j hj => by
  rw [World.ownsRow.cellAt h.1 j (by omega)]
  exact mk_lo _ _ _ hj
theorem Marked.kept {g : Nat} {w w' : World} (h : Marked g w) (hk : Kept w w') : Marked g w' := fun j hj => hk.cell (h j hj)
end Go.Proofs.Ythngajpkhodnpaa
