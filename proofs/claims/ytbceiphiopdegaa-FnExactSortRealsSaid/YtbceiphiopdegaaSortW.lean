/-
  The law SortReals: rows that are marked and held; the walk.
-/
import Derived.Test.YtbceiphiopdegaaSortLaw
set_option linter.unusedSimpArgs false
set_option linter.unusedVariables false
namespace Go.Proofs.Ytbceiphiopdegaa
open Go.RowKit

/-- a value whose row holds the marks -/
def HeldR (w : World) (v : Value) (n : Nat) : Prop := ∃ a c, v = .slice a n c ∧ (n = 0 ∨ ∃ g ys, a = some ⟨g, 0, none⟩ ∧ Blk g n ys w ∧ ∀ j, j < n → va ys j = mkB j)
theorem HeldR.below {w w' : World} {v : Value} {n : Nat} (h : HeldR w v n) (hb : Below w.heap.size w w') : HeldR w' v n := by
  obtain ⟨a, c, rfl, h | ⟨g, ys, rfl, h1, h2⟩⟩ := h
  · exact ⟨a, c, rfl, .inl h⟩
  · refine ⟨_, c, rfl, .inr ⟨g, ys, rfl, ⟨h1.1, fun i hi => ?_⟩, h2⟩⟩
    obtain ⟨c1, f1⟩ := h1.2 i hi
    have hl : g < w.heap.size := block_lt c1
    exact ⟨(hb.cell (p := ⟨g, i, none⟩) hl).trans c1, (hb.frozen (p := ⟨g, i, none⟩) hl).trans f1⟩
set_option maxHeartbeats 1000000 in
theorem mark0 (a : Option Addr) (c : Nat) (w : World) :
    Calls Try.prog 9 #[.slice a 0 c, .int .i64 1] w fun e w' => e = .returned (.int .i64 1) ∧ w' = w := by
  go_enter Try.func9, Try.ntmps9
  go_wp2
  go_loopw [1, 5] (fun vk vi wr => vk = .int .i64 1 ∧ vi = .int .i64 0 ∧ wr = w) (fun _ _ _ => 0)
  case atStart => exact ⟨rfl, rfl, rfl⟩
  case round =>
    obtain ⟨rfl, rfl, rfl⟩ := hrel
    go_wp2
    go_ret
    exact ⟨rfl, rfl⟩
set_option maxHeartbeats 1000000 in
theorem held0 (a : Option Addr) (c : Nat) (w : World) :
    Calls Try.prog 10 #[.slice a 0 c, .int .i64 1] w fun e w' => e = .returned (.int .i64 1) ∧ w' = w := by
  go_enter Try.func10, Try.ntmps10
  go_wp2
  go_loopw [1, 5] (fun vk vi wr => vk = .int .i64 1 ∧ vi = .int .i64 0 ∧ wr = w) (fun _ _ _ => 0)
  case atStart => exact ⟨rfl, rfl, rfl⟩
  case round =>
    obtain ⟨rfl, rfl, rfl⟩ := hrel
    go_wp2
    go_ret
    exact ⟨rfl, rfl⟩
theorem markRow (Z : Nat) (v : Value) (ys : List Nat) (n : Nat) (hl : ys.length = n) (hn : n ≤ 1048576) (w : World) (h : w.ownsRow Z 34 1 v n (ys.map (Value.float .f32))) :
    Calls Try.prog 9 #[v, .int .i64 1] w fun e w' => e = .returned (.int .i64 (((n + 1 : Nat) : Int))) ∧ HeldR w' v n ∧ w.grownBy w' v.ownBlock := by
  have h0 := h
  rcases h.2 with hh | ⟨g, cap, cur, rfl, _⟩
  · obtain ⟨rfl, rfl⟩ := hh
    refine (mark0 none 0 w).mono ?_
    rintro _ w' ⟨rfl, rfl⟩
    exact ⟨rfl, ⟨none, 0, rfl, .inl rfl⟩, ⟨rfl, rfl, rfl, Nat.le_refl _, fun _ _ _ => rfl⟩⟩
  · have hB : Blk g n ys w := ⟨hl, fun i hi => ⟨by rw [World.ownsRow.cellAt h0 i (by omega), List.getElem?_map, va_get ys i (by omega)]; rfl, World.ownsRow.frozenAt h0 i⟩⟩
    refine (markOk g n cap hn w ys hB).mono ?_
    rintro _ w' ⟨rfl, zs, h1, h2, h3⟩
    exact ⟨rfl, ⟨_, cap, rfl, .inr ⟨g, zs, rfl, h1, h2⟩⟩, ⟨h3.1, h3.2.1, h3.2.2.1, h3.2.2.2.1, fun k _ hk => h3.2.2.2.2 k (fun e => hk (by rw [e]; rfl))⟩⟩
theorem heldRow (v : Value) (n : Nat) (hn : n ≤ 256) (w : World) (h : HeldR w v n) :
    Calls Try.prog 10 #[v, .int .i64 1] w fun e w' => e = .returned (.int .i64 (((n + 1 : Nat) : Int))) ∧ w' = w := by
  obtain ⟨a, c, rfl, rfl | ⟨g, ys, rfl, h1, h2⟩⟩ := h
  · exact held0 a c w
  · exact heldOk g n c hn w ys h1 h2
theorem toF_row (a : Option Addr) (n c : Nat) (xs : List Nat) (w : World) (hn : n ≤ 1048576) (h : Src w a n xs) :
    Calls Try.prog 6 #[.slice a n c] w fun e w' => e = .returned (.slice (some ⟨w.heap.size, 0, none⟩) n n) ∧ w' = w.alloc (.cells (fl xs) 34) := by
  obtain ⟨h1, _, h2 | ⟨g, o, h3, h4⟩⟩ := h
  · subst h2
    obtain rfl := List.eq_nil_of_length_eq_zero h1
    refine (toF0 a c w).mono ?_
    rintro e w' ⟨rfl, rfl⟩
    exact ⟨rfl, rfl⟩
  · subst h3
    refine (toF xs g o n c w hn h4 h1).mono ?_
    rintro e w' ⟨rfl, rfl⟩
    exact ⟨rfl, rfl⟩
theorem src_new {w0 w : World} {a : Option Addr} {n : Nat} {xs : List Nat} (h : Src w0 a n xs) : Src (w.alloc (.cells (fl xs) 34)) (some ⟨w.heap.size, 0, none⟩) n xs :=
  ⟨h.1, h.2.1, .inr ⟨_, 0, rfl, holds_new w xs n h.1 _⟩⟩
theorem row_new {w : World} {n : Nat} {xs : List Nat} (h : xs.length = n) (hn : n ≤ 1048576) : (w.alloc (.cells (fl xs) 34)).ownsRow w.heap.size 34 1 (.slice (some ⟨w.heap.size, 0, none⟩) n n) n (xs.map (Value.float .f32)) := by
  have := World.ownsRow_lit w (base := w.heap.size) (e := 34) (size := 1) (fl xs) n (Nat.le_refl _) (by unfold maxLen; omega) (by rw [fl_size]; omega)
  simpa [fl] using this
end Go.Proofs.Ytbceiphiopdegaa
