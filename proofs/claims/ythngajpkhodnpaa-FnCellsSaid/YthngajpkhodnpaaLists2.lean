/-
  The walk over a slice of narrow numbers that is copied: toFloat32S; no condition beside the length.
-/
import Derived.Test.YthngajpkhodnpaaLists
import Derived.Laws.MakeOwn
import Derived.Laws.NewBlocks
set_option linter.unusedSimpArgs false
set_option linter.unusedVariables false
namespace Go.Proofs.Ythngajpkhodnpaa
open Go.RowKit

/-- narrow numbers as cells -/
def fl (xs : List Nat) : Array Value := (xs.map (Value.float .f32)).toArray
theorem fl_size (xs : List Nat) : (fl xs).size = xs.length := by simp [fl]
theorem fl_get (xs : List Nat) (i : Nat) : (fl xs)[i]? = (xs[i]?).map (Value.float .f32) := by simp [fl]
theorem fl_set (xs : List Nat) (i x : Nat) : (fl xs).setIfInBounds i (.float .f32 x) = fl (xs.set i x) := by
  unfold fl; simp [List.map_set]
theorem made_fl (n : Nat) : madeCells (Value.float .f32 0).cells n = fl (List.replicate n 0) := by
  apply Array.ext_getElem?
  intro i
  rw [fl_get]
  unfold madeCells
  by_cases h : i < n
  · have e1 : (Value.float .f32 0).cells = #[.float .f32 0] := rfl
    simp [h, e1, Nat.mod_one]
  · simp [h]
theorem info32 : (Try.prog.info? 26).map (fun i => (i.zero, i.size, i.bytes)) = some (some (.float .f32 0), 1, 4) := by kernel_rfl

/-- a list of which the first k are laid, the others 0 -/
def part (xs : List Nat) (n k : Nat) : List Nat := xs.take k ++ List.replicate (n - k) 0
theorem part_get (xs : List Nat) (n k : Nat) (hl : xs.length = n) (hk : k < n) : (part xs n k)[k]? = some 0 := by
  unfold part
  rw [List.getElem?_append_right (by simp; omega), List.getElem?_replicate, if_pos (by simp; omega)]
theorem part_set (xs : List Nat) (n k : Nat) (hl : xs.length = n) (hk : k < n) : (part xs n k).set k (xs.getD k 0) = part xs n (k + 1) := by
  unfold part
  apply List.ext_getElem?
  intro i
  rw [List.getElem?_set]
  by_cases h : k = i
  · subst h
    rw [if_pos rfl, if_pos (by simp; omega), List.getElem?_append_left (by simp; omega), List.getElem?_take_of_lt (by omega)]
    simp [List.getD, List.getElem?_eq_getElem (show k < xs.length by omega)]
  · rw [if_neg h]
    by_cases h1 : i < k
    · rw [List.getElem?_append_left (by simp; omega), List.getElem?_append_left (by simp; omega), List.getElem?_take_of_lt h1, List.getElem?_take_of_lt (by omega)]
    · rw [List.getElem?_append_right (by simp; omega), List.getElem?_append_right (by simp; omega)]
      simp only [List.length_take, List.getElem?_replicate]
      rw [Nat.min_eq_left (by omega), Nat.min_eq_left (by omega)]
      by_cases h2 : i < n
      · rw [if_pos (by omega), if_pos (by omega)]
      · rw [if_neg (by omega), if_neg (by omega)]
theorem part_all (xs : List Nat) (n : Nat) (hl : xs.length = n) : part xs n n = xs := by
  unfold part; rw [Nat.sub_self, List.replicate_zero, List.append_nil, List.take_of_length_le (by omega)]


end Go.Proofs.Ythngajpkhodnpaa
