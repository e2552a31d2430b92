/-
  Walks for NeighboursOf: the tests of the law on slices of cells; the sides out of range.
-/
import Derived.Test.YtjhmamkbdcfcoaaNb3
import Derived.BigRegion
set_option linter.unusedSimpArgs false
set_option linter.unusedVariables false
namespace Go.Proofs.Ytjhmamkbdcfcoaa
open Go.RowKit

set_option maxHeartbeats 4000000 in
theorem eqCellOk (x y : Int) (w : World) :
    Calls Try.prog 42 #[c2 x y, c2 x y] w fun e w' => e = .returned (.bool true) ∧ Kept w w' := by
  go_enter Try.func42, Try.ntmps42
  go_wp2
  refine wp_loop_rounds 3 ?_; rw [rounds_succ]
  go_wp2
  go_region
  all_goals
    go_wp2
    rw [rounds_succ]
    go_wp2
    go_region
    all_goals
      go_wp2
      rw [rounds_succ]
      go_wp2
      go_ret
      exact ⟨rfl, by repeat (first | exact Kept.refl _ | apply Kept.alloc | apply Below.drew)⟩
/-- a row of n cells, their numbers in a list -/
def HoldsC (w : World) (g n : Nat) (zs : List (Int × Int)) : Prop := ∀ i, i < n → w.cell? ⟨g, i * 2, none⟩ = some (.int .i32 (zs.getD i (0, 0)).1) ∧ w.cell? ⟨g, i * 2 + 1, none⟩ = some (.int .i32 (zs.getD i (0, 0)).2)
theorem HoldsC.kept {w w' : World} {g n : Nat} {zs : List (Int × Int)} (h : HoldsC w g n zs) (hk : Kept w w') : HoldsC w' g n zs := fun i hi => ⟨hk.cell (h i hi).1, hk.cell (h i hi).2⟩
set_option maxHeartbeats 4000000 in
theorem eqCellsOk (zs : List (Int × Int)) (g g' n c c' : Nat) (w : World) (hn : n ≤ 1000) (h1 : HoldsC w g n zs) (h2 : HoldsC w g' n zs) :
    Calls Try.prog 24 #[.slice (some ⟨g, 0, none⟩) n c, .slice (some ⟨g', 0, none⟩) n c'] w fun e w' => e = .returned (.bool true) ∧ Kept w w' := by
  have H1 := Lib.hid h1
  have H2 := Lib.hid h2
  clear h1 h2
  go_enter Try.func24, Try.ntmps24
  go_wp2
  go_loopw [5] (fun i wr => ∃ k : Nat, k ≤ n ∧ i = .int .i64 k ∧ Kept w wr) (fun i _ => n - (intOf i).toNat)
  case atStart => exact ⟨0, Nat.zero_le _, rfl, Kept.refl _⟩
  case round =>
    obtain ⟨k, hk, rfl, hkept⟩ := hrel
    have K1 := Lib.hid hkept
    clear hkept
    by_cases hlt : k < n
    · obtain ⟨e1, e2⟩ := (H1.out.kept K1.out) k hlt
      obtain ⟨e3, e4⟩ := (H2.out.kept K1.out) k hlt
      generalize (zs.getD k (0, 0)).1 = x at *
      generalize (zs.getD k (0, 0)).2 = y at *
      go_wp2
      go_region_with (first | (go_at_call 42; refine (eqCellOk x y _).mono ?_; rintro _ w2 ⟨rfl, k2⟩))
      all_goals
        have K2 := Lib.hid (Below.trans K1.out (Below.trans (Below.drew (Below.refl _ wr)) (Below.mono k2 K1.out.size)) : Kept w w2)
        clear k2
        go_wp2
        go_roundw
        case rel => exact ⟨k + 1, by omega, by go_num, K2.out⟩
        case measure => simp [intOf]; omega
    · go_wp2
      go_ret
      exact ⟨rfl, K1.out⟩
end Go.Proofs.Ytjhmamkbdcfcoaa
