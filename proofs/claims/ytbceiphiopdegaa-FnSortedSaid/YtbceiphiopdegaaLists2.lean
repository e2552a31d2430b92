/-
  The walk over a slice of narrow numbers that is copied: toFloat32S; no condition beside the length.
-/
import Derived.Test.YtbceiphiopdegaaLists
import Derived.Laws.MakeOwn
import Derived.Laws.NewBlocks
set_option linter.unusedSimpArgs false
set_option linter.unusedVariables false
namespace Go.Proofs.Ytbceiphiopdegaa
open Go.RowKit

/-- narrow numbers as cells -/
def fl (xs : List Nat) : Array Value := (xs.map (Value.float .f32)).toArray
theorem fl_size (xs : List Nat) : (fl xs).size = xs.length := by simp [fl]
theorem fl_get (xs : List Nat) (i : Nat) : (fl xs)[i]? = (xs[i]?).map (Value.float .f32) := by simp [fl]
theorem fl_set (xs : List Nat) (i x : Nat) : (fl xs).setIfInBounds i (.float .f32 x) = fl (xs.set i x) := by
  unfold fl; simp [List.map_set]
theorem made_fl (n : Nat) : madeCells (Value.float .f32 0).cells n = fl (List.replicate n 0) := by
  apply Array.ext_getElem?
  intro i
  rw [fl_get]
  unfold madeCells
  by_cases h : i < n
  · have e1 : (Value.float .f32 0).cells = #[.float .f32 0] := rfl
    simp [h, e1, Nat.mod_one]
  · simp [h]
theorem info32L : (Try.prog.info? 34).map (fun i => (i.zero, i.size, i.bytes)) = some (some (.float .f32 0), 1, 4) := by kernel_rfl
theorem mk32 (n : Nat) (hn : n ≤ 1048576) (w : World) : (Instr.makeSlice 22 (.int .i64 n) (.int .i64 n)).run Try.prog w =
    .ok (.slice (some ⟨w.heap.size, 0, none⟩) n n) (w.alloc (.cells (fl (List.replicate n 0)) 34)) := by
  obtain ⟨i0, hi, hz0, hz1, hz2⟩ := info_parts info32L
  have h := run_make (P := Try.prog) w 22 34 i0 (.float .f32 0) Try.underlying22 hi hz0 .i64 .i64 (n : Int) (n : Int) (by omega) (by omega) (by rw [hz2]; omega) (by omega)
  rw [hz1] at h
  simp only [Int.toNat_natCast, Nat.mul_one] at h
  rw [made_fl] at h
  exact h

/-- a list of which the first k are laid, the others 0 -/
def part (xs : List Nat) (n k : Nat) : List Nat := xs.take k ++ List.replicate (n - k) 0
theorem part_get (xs : List Nat) (n k : Nat) (hl : xs.length = n) (hk : k < n) : (part xs n k)[k]? = some 0 := by
  unfold part
  rw [List.getElem?_append_right (by simp; omega), List.getElem?_replicate, if_pos (by simp; omega)]
theorem part_set (xs : List Nat) (n k : Nat) (hl : xs.length = n) (hk : k < n) : (part xs n k).set k (xs.getD k 0) = part xs n (k + 1) := by
  unfold part
  apply List.ext_getElem?
  intro i
  rw [List.getElem?_set]
  by_cases h : k = i
  · subst h
    rw [if_pos rfl, if_pos (by simp; omega), List.getElem?_append_left (by simp; omega), List.getElem?_take_of_lt (by omega)]
    simp [List.getD, List.getElem?_eq_getElem (show k < xs.length by omega)]
  · rw [if_neg h]
    by_cases h1 : i < k
    · rw [List.getElem?_append_left (by simp; omega), List.getElem?_append_left (by simp; omega), List.getElem?_take_of_lt h1, List.getElem?_take_of_lt (by omega)]
    · rw [List.getElem?_append_right (by simp; omega), List.getElem?_append_right (by simp; omega)]
      simp only [List.length_take, List.getElem?_replicate]
      rw [Nat.min_eq_left (by omega), Nat.min_eq_left (by omega)]
      by_cases h2 : i < n
      · rw [if_pos (by omega), if_pos (by omega)]
      · rw [if_neg (by omega), if_neg (by omega)]
theorem part_all (xs : List Nat) (n : Nat) (hl : xs.length = n) : part xs n n = xs := by
  unfold part; rw [Nat.sub_self, List.replicate_zero, List.append_nil, List.take_of_length_le (by omega)]

set_option maxHeartbeats 1000000 in
theorem toF (xs : List Nat) (g o n c : Nat) (w : World) (hn : n ≤ 1048576) (h1 : Holds32 w g o n xs) (hl : xs.length = n) :
    Calls Try.prog 6 #[.slice (some ⟨g, o, none⟩) n c] w fun e w' => e = .returned (.slice (some ⟨w.heap.size, 0, none⟩) n n) ∧ w' = w.alloc (.cells (fl xs) 34) := by
  have hmk := mk32 n hn
  have H1 := Lib.hid h1
  have HL := Lib.hid hl
  clear h1 hl
  go_enter Try.func6, Try.ntmps6
  go_wp2
  go_loopw [4] (fun i wr => ∃ k : Nat, k ≤ n ∧ i = .int .i64 k ∧ wr = w.alloc (.cells (fl (part xs n k)) 34)) (fun i _ => n - (intOf i).toNat)
  case atStart => exact ⟨0, Nat.zero_le _, rfl, by simp [part]⟩
  case round =>
    obtain ⟨k, hk, rfl, rfl⟩ := hrel
    by_cases hlt : k < n
    · have e1 := H1.out k hlt
      have e2 : g < w.heap.size := lt_of_cell e1
      have e3 : (fl (part xs n k))[k]? = some (.float .f32 0) := by rw [fl_get, part_get xs n k HL.out hlt]; rfl
      have e4 : (fl (part xs n k)).setIfInBounds k (.float .f32 (xs.getD k 0)) = fl (part xs n (k + 1)) := by rw [fl_set, part_set xs n k HL.out hlt]
      generalize fl (part xs n k) = C at *
      generalize xs.getD k 0 = x at *
      go_wp2
      go_roundw
      case rel => exact ⟨k + 1, by omega, by go_num, rfl⟩
      case measure => simp [intOf]; omega
    · have hk' : k = n := by omega
      have e5 : fl (part xs n k) = fl xs := by rw [hk', part_all xs n HL.out]
      clear hk'
      go_wp2
      go_ret
      exact ⟨rfl, rfl⟩

set_option maxHeartbeats 1000000 in
theorem toF0 (a : Option Addr) (c : Nat) (w : World) :
    Calls Try.prog 6 #[.slice a 0 c] w fun e w' => e = .returned (.slice (some ⟨w.heap.size, 0, none⟩) 0 0) ∧ w' = w.alloc (.cells (fl []) 34) := by
  have hmk : ∀ w, (Instr.makeSlice 22 (.int .i64 0) (.int .i64 0)).run Try.prog w = .ok (.slice (some ⟨w.heap.size, 0, none⟩) 0 0) (w.alloc (.cells (fl []) 34)) := fun w => mk32 0 (by decide) w
  go_enter Try.func6, Try.ntmps6
  go_wp2
  refine wp_loop_rounds 1 ?_; rw [rounds_succ]
  go_wp2
  go_ret
  exact ⟨rfl, rfl⟩
end Go.Proofs.Ytbceiphiopdegaa
