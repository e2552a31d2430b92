/-
  Walks for FnCells: the program's cells and corners.
-/
import Derived.Test.YthngajpkhodnpaaCell3
set_option linter.unusedSimpArgs false
set_option linter.unusedVariables false
namespace Go.Proofs.Ythngajpkhodnpaa
open Go.RowKit

set_option maxHeartbeats 4000000 in
theorem implWide {x y A B : Nat} (h1 : floatToFloatBits .f32 x .f64 = some A) (h2 : floatToFloatBits .f32 y .f64 = some B) (w : World) :
    Calls Try.prog 17 #[.complex .f32 x y] w fun e w' => e = .returned (.tuple #[.float .f64 A, .float .f64 B]) ∧ w = w' := by
  have r1 := run_conv32 h1
  have r2 := run_conv32 h2
  clear h1 h2
  go_enter Try.func17, Try.ntmps17
  go_wp2
  go_ret2
  exact ⟨rfl, rfl⟩
set_option maxHeartbeats 4000000 in
theorem implIn64 {L : Nat} (h1 : geB L loC = true) (h2 : leB L hiC = true) (w : World) :
    Calls Try.prog 19 #[.float .f64 L, .float .f64 13965662444475908096, .float .f64 4742290407621132288] w fun e w' => e = .returned (.bool true) ∧ w = w' := by
  unfold geB loC at h1
  unfold leB hiC at h2
  go_enter Try.func19, Try.ntmps19
  go_wp2
  go_ret
  exact ⟨rfl, rfl⟩
theorem idx0 (A B : Nat) (w : World) : (Instr.index 47 (.agg #[.float .f64 A, .float .f64 B]) (.int .i64 0)).run Try.prog w = .ok (.float .f64 A) w := by kernel_rfl
theorem idx1 (A B : Nat) (w : World) : (Instr.index 47 (.agg #[.float .f64 A, .float .f64 B]) (.int .i64 1)).run Try.prog w = .ok (.float .f64 B) w := by kernel_rfl
set_option maxHeartbeats 4000000 in
theorem implCell (x y S : Nat) (c d : Int) (bx : x < 4294967296) (bY : y < 4294967296) (bS : S < 4294967296) (hx : finB x = true) (hy : finB y = true) (hS : finB S = true) (hp : (FloatKind.f32.format.order S 0 == some .gt) = true) (h1 : PartOK x S c) (h2 : PartOK y S d) (w : World) :
    Calls Try.prog 7 #[.complex .f32 x y, .float .f32 S] w fun e w' => e = .returned (.tuple #[c2 c d, .int .i64 0]) ∧ Kept w w' := by
  have HS := Lib.hid (implSide S bS hS hp)
  have HF := Lib.hid (implFin2 x y bx hx bY hy)
  obtain ⟨A, T, Q, L, a1, a2, a3, a4, a5, a6, a7⟩ := h1
  obtain ⟨B, T', R, M, b1, b2, b3, b4, b5, b6, b7⟩ := h2
  obtain rfl : T = T' := Option.some.inj (a2.symm.trans b2)
  have HW := Lib.hid (fun w => implWide a1 b1 w)
  have rT := run_conv32 a2
  have r3 := run_quo64 a3
  have r4 := run_quo64 b3
  have HL := Lib.hid (fun w => floorOk a4 w)
  have HM := Lib.hid (fun w => floorOk b4 w)
  have HI := Lib.hid (fun w => implIn64 a5 a6 w)
  have HJ := Lib.hid (fun w => implIn64 b5 b6 w)
  have r7 := run_toInt a7
  have r8 := run_toInt b7
  have i0 := idx0 A B
  have i1 := idx1 A B
  clear bx bY bS hx hy hS hp a1 a2 a3 a4 a5 a6 a7 b1 b2 b3 b4 b5 b6 b7
  go_enter Try.func7, Try.ntmps7
  go_wp2_with fail
  refine (HS.out _).mono ?_
  rintro _ _ ⟨rfl, rfl⟩
  go_wp2_with fail
  refine (HF.out _).mono ?_
  rintro _ _ ⟨rfl, rfl⟩
  go_wp2_with fail
  refine (HW.out _).mono ?_
  rintro _ _ ⟨rfl, rfl⟩
  go_wp2_with fail
  refine wp_loop_rounds 3 ?_; rw [rounds_succ]
  go_wp2_with fail
  refine (HL.out _).mono ?_
  rintro _ _ ⟨rfl, rfl⟩
  go_wp2_with fail
  refine (HI.out _).mono ?_
  rintro _ _ ⟨rfl, rfl⟩
  go_wp2_with fail
  rw [rounds_succ]
  go_wp2_with fail
  refine (HM.out _).mono ?_
  rintro _ _ ⟨rfl, rfl⟩
  go_wp2_with fail
  refine (HJ.out _).mono ?_
  rintro _ _ ⟨rfl, rfl⟩
  go_wp2_with fail
  rw [rounds_succ]
  go_wp2
  refine bodyPost_ret (v := .tuple #[c2 c d, .int .i64 0]) (by simp [results, Try.results7, go_sem]) rfl ⟨rfl, ?_⟩
  repeat (first | exact Kept.refl _ | apply Kept.alloc | refine Kept.setCell ?_ (by simp) _)
set_option maxHeartbeats 4000000 in
theorem implInC (x : Int) (h1 : -64 ≤ x) (h2 : x ≤ 65) (w : World) :
    Calls Try.prog 23 #[.int .i32 x, .int .i32 (-1073741824), .int .i32 1073741824] w fun e w' => e = .returned (.bool true) ∧ w = w' := by
  have e1 : decide (-1073741824 ≤ x) = true := decide_eq_true (by omega)
  have e2 : decide (x ≤ 1073741824) = true := decide_eq_true (by omega)
  clear h1 h2
  go_enter Try.func23, Try.ntmps23
  go_wp2
  go_ret
  exact ⟨rfl, rfl⟩
set_option maxHeartbeats 4000000 in
theorem implCorner (c d : Int) (S a b : Nat) (hc : -64 ≤ c ∧ c ≤ 65) (hd : -64 ≤ d ∧ d ≤ 65) (bS : S < 4294967296) (hS : finB S = true) (hp : (FloatKind.f32.format.order S 0 == some .gt) = true) (h1 : CornOK c S a) (h2 : CornOK d S b) (w : World) :
    Calls Try.prog 9 #[c2 c d, .float .f32 S] w fun e w' => e = .returned (.tuple #[.complex .f32 a b, .int .i64 0]) ∧ Kept w w' := by
  have HS := Lib.hid (implSide S bS hS hp)
  have HC := Lib.hid (implInC c hc.1 hc.2)
  have HD := Lib.hid (implInC d hd.1 hd.2)
  obtain ⟨T, P, a1, a2, a3⟩ := h1
  obtain ⟨T', P', b1, b2, b3⟩ := h2
  obtain rfl : T = T' := Option.some.inj (a1.symm.trans b1)
  have rT := run_conv32 a1
  have r1 := run_int64 c
  have r2 := run_int64 d
  have r3 := run_mul64 a2
  have r4 := run_mul64 b2
  have r5 := run_conv64 a3
  have r6 := run_conv64 b3
  clear hc hd bS hS hp a1 a2 a3 b1 b2 b3
  go_enter Try.func9, Try.ntmps9
  go_wp2_with fail
  refine (HS.out _).mono ?_
  rintro _ _ ⟨rfl, rfl⟩
  go_wp2_with fail
  refine (HC.out _).mono ?_
  rintro _ _ ⟨rfl, rfl⟩
  go_wp2_with fail
  refine (HD.out _).mono ?_
  rintro _ _ ⟨rfl, rfl⟩
  go_wp2
  go_ret2
  exact ⟨rfl, (Kept.refl w).alloc _⟩
end Go.Proofs.Ythngajpkhodnpaa
