/-
  SortPoints: both sides agree; a list marked, and held against its marks.
-/
import Derived.Test.YtbceiphiopdegaaPSortS
import Derived.Test.YtbceiphiopdegaaSortL
set_option linter.unusedSimpArgs false
set_option linter.unusedVariables false
namespace Go.Proofs.Ytbceiphiopdegaa.Pt
open Go.RowKit

/-- how many of a list's places lie under k -/
def cnt (xs : List Nat) (k : Int) : Nat := xs.countP (fun x => decide (keyC x < k))
theorem cnt_perm {xs ys : List Nat} (h : xs.Perm ys) (k : Int) : cnt xs k = cnt ys k := h.countP_eq _
theorem cnt_le : ∀ (xs : List Nat) (i : Nat) (k : Int), (∀ j, i ≤ j → j < xs.length → k ≤ keyC (va xs j)) → cnt xs k ≤ i
  | [], i, k, _ => by simp [cnt]
  | x :: r, 0, k, h => by
    have h1 : cnt r k ≤ 0 := cnt_le r 0 k (fun j _ hj => h (j + 1) (Nat.zero_le _) (by simp; omega))
    have h2 : k ≤ keyC x := h 0 (Nat.le_refl _) (by simp)
    unfold cnt at *
    rw [List.countP_cons_of_neg (by simp; omega)]; exact h1
  | x :: r, i + 1, k, h => by
    have h1 : cnt r k ≤ i := cnt_le r i k (fun j h1 hj => h (j + 1) (by omega) (by simp; omega))
    unfold cnt at *
    rw [List.countP_cons]; split <;> omega
theorem cnt_gt : ∀ (xs : List Nat) (i : Nat) (k : Int), i < xs.length → (∀ j, j ≤ i → keyC (va xs j) < k) → i < cnt xs k
  | [], i, k, h, _ => by simp at h
  | x :: r, 0, k, hi, h => by
    have h2 : keyC x < k := h 0 (Nat.le_refl _)
    unfold cnt
    rw [List.countP_cons_of_pos (by simp; exact h2)]; omega
  | x :: r, i + 1, k, hi, h => by
    have h1 : i < cnt r k := cnt_gt r i k (by simpa using hi) (fun j hj => h (j + 1) (by omega))
    have h2 : keyC x < k := h 0 (by omega)
    unfold cnt at *
    rw [List.countP_cons_of_pos (by simp; exact h2)]; omega
theorem ord_le {xs : List Nat} (h : Ordd xs) {i j : Nat} (hij : i ≤ j) (hj : j < xs.length) : keyC (va xs i) ≤ keyC (va xs j) := by
  by_cases e : i = j
  · rw [e]; exact Int.le_refl _
  · exact h i j (Nat.zero_le _) (by omega) hj
theorem ord_keys {xs ys : List Nat} (hp : xs.Perm ys) (hx : Ordd xs) (hy : Ordd ys) (i : Nat) (hi : i < xs.length) : keyC (va xs i) ≤ keyC (va ys i) := by
  apply Classical.byContradiction
  intro hc
  have hl := hp.length_eq
  have h1 : cnt xs (keyC (va xs i)) ≤ i := cnt_le xs i _ (fun j h1 h2 => ord_le hx h1 h2)
  have h2 : i < cnt ys (keyC (va xs i)) := cnt_gt ys i _ (by omega) (fun j hj => by have := ord_le hy hj (by omega); omega)
  rw [cnt_perm hp] at h1
  omega
end Go.Proofs.Ytbceiphiopdegaa.Pt
