/-
  SortReals: a list marked, and held against its marks.
-/
import Derived.Test.YtbceiphiopdegaaSortL
set_option linter.unusedSimpArgs false
set_option linter.unusedVariables false
namespace Go.Proofs.Ytbceiphiopdegaa
open Go.RowKit

/-- block g holds n narrow numbers xs that may be written -/
def Blk (g n : Nat) (xs : List Nat) (w : World) : Prop := xs.length = n ∧ ∀ i, i < n → w.cell? ⟨g, i, none⟩ = some (.float .f32 (va xs i)) ∧ w.frozen? ⟨g, i, none⟩ = false
/-- only block g was written -/
def Only (g : Nat) (w w' : World) : Prop := w'.os = w.os ∧ w'.tape = w.tape ∧ w'.output = w.output ∧ w.heap.size ≤ w'.heap.size ∧ ∀ k, k ≠ g → w'.heap[k]? = w.heap[k]?
theorem Only.refl (g : Nat) (w : World) : Only g w w := ⟨rfl, rfl, rfl, Nat.le_refl _, fun _ _ => rfl⟩
theorem Only.set {g i : Nat} {w w' : World} (h : Only g w w') (u : Value) : Only g w (w'.setCell ⟨g, i, none⟩ u) := by
  have b := Below.setCell (B := g) (p := ⟨g, i, none⟩) (Below.refl g w') (Nat.le_refl _) u
  exact ⟨b.os.trans h.1, b.tape.trans h.2.1, b.output.trans h.2.2.1, Nat.le_trans h.2.2.2.1 b.size, fun k hk => (Below.heap_setCell w' ⟨g, i, none⟩ u k hk).trans (h.2.2.2.2 k hk)⟩
theorem Only.drewN {g : Nat} {w w' : World} (h : Only g w w') (n : Nat) : Only g w (w'.drewN n) := ⟨h.1, h.2.1, h.2.2.1, h.2.2.2.1, h.2.2.2.2⟩
theorem Only.cell {g : Nat} {w w' : World} (h : Only g w w') {p : Addr} (hp : p.block ≠ g) : w'.cell? p = w.cell? p := World.cell?_of_block (w := w) (h.2.2.2.2 p.block hp)
theorem Blk.set {g n i x : Nat} {xs : List Nat} {w : World} (h : Blk g n xs w) (hi : i < n) : Blk g n (xs.set i x) (w.setCell ⟨g, i, none⟩ (.float .f32 x)) := by
  obtain ⟨c1, f1⟩ := h.2 i hi
  refine ⟨by rw [List.length_set]; exact h.1, fun j hj => ?_⟩
  obtain ⟨c2, f2⟩ := h.2 j hj
  by_cases e : j = i
  · subst e
    rw [va_set_same _ _ _ (by rw [h.1]; exact hj)]
    exact ⟨by go_simp, by go_simp⟩
  · rw [va_set_other _ _ _ _ e]
    exact ⟨by go_simp, by go_simp⟩
/-- the mark of place j -/
def mkB (j : Nat) : Nat := floatOfInt .f32 ((j : Int) + 1)
def Marked (g i n : Nat) (w w' : World) : Prop := ∃ ys, Blk g n ys w' ∧ (∀ j, j < i → va ys j = mkB j) ∧ Only g w w'
set_option maxRecDepth 100000 in
set_option maxHeartbeats 4000000 in
theorem markOk (g n c : Nat) (hn : n ≤ 1048576) (w : World) (xs : List Nat) (H : Blk g n xs w) :
    Calls Try.prog 9 #[.slice (some ⟨g, 0, none⟩) n c, .int .i64 1] w fun e w' => e = .returned (.int .i64 (((n + 1 : Nat) : Int))) ∧ Marked g n n w w' := by
  have H0 := Lib.hid H
  have hn0 : (n : Int) ≤ 1048576 := by omega
  clear H
  go_enter Try.func9, Try.ntmps9
  go_wp2
  go_loopw [1, 5] (fun vk vi wr => ∃ (i : Nat), i ≤ n ∧ vk = .int .i64 (((i + 1 : Nat) : Int)) ∧ vi = .int .i64 (i : Int) ∧ Hid (Marked g i n w wr)) (fun _ vi _ => n - (intOf vi).toNat)
  case atStart => exact ⟨0, Nat.zero_le _, rfl, rfl, Lib.hid ⟨xs, H0.out, fun j hj => by omega, Only.refl _ _⟩⟩
  case round =>
    obtain ⟨i, hi, rfl, rfl, H⟩ := hrel
    by_cases hin : i < n
    · have q0 : (i : Int) < (n : Int) := by omega
      have q1 : (0 : Int) ≤ (i : Int) := by omega
      obtain ⟨ys, hb, hm, ho⟩ := H.out
      obtain ⟨c1, f1⟩ := hb.2 i hin
      have HB := Lib.hid (And.intro hb (And.intro hm ho))
      clear H hb hm ho
      go_wp2
      go_roundw
      case rel =>
        refine ⟨i + 1, by omega, by go_num, by go_num, Lib.hid ⟨ys.set i (mkB i), Blk.set HB.out.1 hin, fun j hj => ?_, Only.set HB.out.2.2 _⟩⟩
        by_cases e : j = i
        · subst e; rw [va_set_same _ _ _ (by rw [HB.out.1.1]; exact hin)]
        · rw [va_set_other _ _ _ _ e]; exact HB.out.2.1 j (by omega)
      case measure => simp [intOf]; omega
    · have q0 : decide ((i : Int) < (n : Int)) = false := decide_eq_false (by omega)
      obtain rfl : i = n := by omega
      go_wp2
      go_ret
      exact ⟨rfl, H.out⟩
theorem hold_all : (List.range 256).all (fun i => (FloatKind.f32.format.order (floatOfInt .f32 ((i : Int) + 1)) (floatOfInt .f32 ((i : Int) + 1)) != some Ordering.eq) == false) = true := by kernel_rfl
theorem hold_eq (i : Nat) (h : i < 256) : (FloatKind.f32.format.order (floatOfInt .f32 ((i : Int) + 1)) (floatOfInt .f32 ((i : Int) + 1)) != some Ordering.eq) = false := by
  have := List.all_eq_true.1 hold_all i (List.mem_range.2 h)
  simpa using this
set_option maxRecDepth 100000 in
set_option maxHeartbeats 4000000 in
theorem heldOk (g n c : Nat) (hn : n ≤ 256) (w : World) (xs : List Nat) (H : Blk g n xs w) (hm : ∀ j, j < n → va xs j = mkB j) :
    Calls Try.prog 10 #[.slice (some ⟨g, 0, none⟩) n c, .int .i64 1] w fun e w' => e = .returned (.int .i64 (((n + 1 : Nat) : Int))) ∧ w' = w := by
  have H0 := Lib.hid (And.intro H hm)
  have hn0 : (n : Int) ≤ 256 := by omega
  clear H hm
  go_enter Try.func10, Try.ntmps10
  go_wp2
  go_loopw [1, 5] (fun vk vi wr => ∃ (i : Nat), i ≤ n ∧ vk = .int .i64 (((i + 1 : Nat) : Int)) ∧ vi = .int .i64 (i : Int) ∧ wr = w) (fun _ vi _ => n - (intOf vi).toNat)
  case atStart => exact ⟨0, Nat.zero_le _, rfl, rfl, rfl⟩
  case round =>
    obtain ⟨i, hi, rfl, rfl, rfl⟩ := hrel
    by_cases hin : i < n
    · have q0 : (i : Int) < (n : Int) := by omega
      have q1 : (0 : Int) ≤ (i : Int) := by omega
      obtain ⟨c1, f1⟩ := H0.out.1.2 i hin
      rw [H0.out.2 i hin] at c1
      unfold mkB at c1
      have he := hold_eq i (by omega)
      go_wp2
      go_roundw
      case rel => exact ⟨i + 1, by omega, by go_num, by go_num, by trivial⟩
      case measure => simp [intOf]; omega
    · have q0 : decide ((i : Int) < (n : Int)) = false := decide_eq_false (by omega)
      obtain rfl : i = n := by omega
      go_wp2
      go_ret
      exact ⟨rfl, rfl⟩
end Go.Proofs.Ytbceiphiopdegaa
