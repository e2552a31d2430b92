/-
  Walks for SortPoints: Go's stable sort of a short row of points.
-/
import Derived.Test.YtbceiphiopdegaaPIns
set_option linter.unusedSimpArgs false
set_option linter.unusedVariables false
namespace Go.Proofs.Ytbceiphiopdegaa.Pt
open Go.RowKit

set_option maxRecDepth 100000 in
set_option maxHeartbeats 8000000 in
theorem stabOk (g N cap : Nat) (hN : N ≤ 19) (w0 : World) (xs : List Nat) (w : World) (R : Row g N cap w0 xs w) :
    Calls Try.prog 75 #[.slice (some ⟨g, 0, none⟩) N cap, .int .i64 (N : Int), .func (.func 58) #[] #[]] w fun e w' => ∃ ys, (∃ v, e = .returned v) ∧ Row g N cap w0 ys w' ∧ SwR 0 N xs ys ∧ Srt 0 N ys := by
  have HI : Hid (Calls Try.prog 77 #[.slice (some ⟨g, 0, none⟩) N cap, .int .i64 0, .int .i64 (N : Int), .func (.func 58) #[] #[]] w fun e w' => ∃ ys, (∃ v, e = .returned v) ∧ Row g N cap w0 ys w' ∧ SwR 0 N xs ys ∧ Srt 0 N ys) :=
    Lib.hid (insOk g N cap 0 N (Nat.zero_le _) (Nat.le_refl _) (by omega) w0 xs w R)
  have i0 : decide ((20 : Int) ≤ (N : Int)) = false := decide_eq_false (by omega)
  have i1 : decide ((20 : Int) < (N : Int)) = false := decide_eq_false (by omega)
  clear R hN
  go_enter Try.func75, Try.ntmps75
  go_wp2
  refine wp_loop_rounds 1 ?_; rw [rounds_succ]
  go_wp2_with fail
  refine HI.out.mono ?_
  rintro _ w1 ⟨ys, ⟨v, rfl⟩, h⟩
  have H := Lib.hid h
  clear h HI
  go_wp2
  refine wp_loop_rounds 1 ?_; rw [rounds_succ]
  go_wp2
  all_goals first | (go_end0; exact ⟨ys, ⟨_, rfl⟩, H.out⟩) | exact ⟨ys, ⟨_, rfl⟩, H.out⟩ | exact ⟨⟨_, rfl⟩, _, H.out⟩
set_option maxHeartbeats 4000000 in
theorem insNil (w : World) : Calls Try.prog 77 #[.slice none 0 0, .int .i64 0, .int .i64 0, .func (.func 58) #[] #[]] w fun e w' => (∃ v, e = .returned v) ∧ w' = w := by
  go_enter Try.func77, Try.ntmps77
  go_wp2
  go_loopw [8] (fun vi wr => vi = .int .i64 1 ∧ wr = w) (fun vi _ => 0)
  case atStart => exact ⟨rfl, rfl⟩
  case round =>
    obtain ⟨rfl, rfl⟩ := hrel
    go_wp2
    all_goals first | (go_end0; exact ⟨⟨_, rfl⟩, rfl⟩) | exact ⟨⟨_, rfl⟩, rfl⟩
set_option maxHeartbeats 4000000 in
theorem stabNil (w : World) : Calls Try.prog 75 #[.slice none 0 0, .int .i64 0, .func (.func 58) #[] #[]] w fun e w' => (∃ v, e = .returned v) ∧ w' = w := by
  go_enter Try.func75, Try.ntmps75
  go_wp2
  go_loopw [7, 8] (fun vi vj wr => vi = .int .i64 0 ∧ vj = .int .i64 20 ∧ wr = w) (fun vi vj _ => 0)
  case atStart => exact ⟨rfl, rfl, rfl⟩
  case round =>
    obtain ⟨rfl, rfl, rfl⟩ := hrel
    go_wp2_with fail
    refine (insNil _).mono ?_
    rintro _ w1 ⟨⟨v, rfl⟩, rfl⟩
    go_wp2
    go_loopw [6] (fun vi wr => vi = .int .i64 20 ∧ wr = w1) (fun vi _ => 0)
    case atStart => exact ⟨rfl, rfl⟩
    case round =>
      obtain ⟨rfl, rfl⟩ := hrel
      go_wp2
      all_goals first | (go_end0; exact ⟨⟨_, rfl⟩, rfl⟩) | exact ⟨⟨_, rfl⟩, rfl⟩
end Go.Proofs.Ytbceiphiopdegaa.Pt
