/-
  Walks for FnCells: the draws; whole parts; the reference's cell.
-/
import Derived.Test.YthngajpkhodnpaaCellB
import Derived.Test.YthngajpkhodnpaaSrc
import Derived.Laws.FloatArith
set_option linter.unusedSimpArgs false
set_option linter.unusedVariables false
namespace Go.Proofs.Ythngajpkhodnpaa
open Go.RowKit

theorem below_kept {p : Nat} {w0 w w' : World} (h : Kept w0 w) (hp : w0.heap.size ≤ p) (hb : Below p w w') : Kept w0 w' := Below.trans h (Below.mono hb hp)
theorem run_conv32 {a A : Nat} (h : floatToFloatBits .f32 a .f64 = some A) (w : World) : (convert 26 44 (.float .f32 a)).run Try.prog w = .ok (.float .f64 A) w :=
  run_convert_float_float (P := Try.prog) w 26 44 .f32 .f64 a A (by kernel_rfl) Try.underlying44 h
theorem run_conv64 {a A : Nat} (h : floatToFloatBits .f64 a .f32 = some A) (w : World) : (convert 44 26 (.float .f64 a)).run Try.prog w = .ok (.float .f32 A) w :=
  run_convert_float_float (P := Try.prog) w 44 26 .f64 .f32 a A (by kernel_rfl) Try.underlying26 h
theorem run_int32 (n : Int) (w : World) : (convert 2 26 (.int .i64 n)).run Try.prog w = .ok (.float .f32 (floatOfInt .f32 n)) w :=
  run_convert_int_float (P := Try.prog) w 2 26 .i64 .f32 n (by kernel_rfl) Try.underlying26
theorem run_int64 (n : Int) (w : World) : (convert 21 44 (.int .i32 n)).run Try.prog w = .ok (.float .f64 (floatOfInt .f64 n)) w :=
  run_convert_int_float (P := Try.prog) w 21 44 .i32 .f64 n (by kernel_rfl) Try.underlying44
theorem run_toInt {x : Nat} {n : Int} (h : floatToIntVal .f64 x .i32 = some n) (w : World) : (convert 44 21 (.float .f64 x)).run Try.prog w = .ok (.int .i32 n) w :=
  run_convert_float_int (P := Try.prog) w 44 21 .f64 .i32 x n (by kernel_rfl) Try.underlying21 h
theorem run_quo32 {x y r : Nat} (h : floatBits .quo .f32 x y = some r) (w : World) : (binOp .quo 26 (.float .f32 x) (.float .f32 y)).run Try.prog w = .ok (.float .f32 r) w := run_float_arith w .quo _ .f32 x y r h
theorem run_quo64 {x y r : Nat} (h : floatBits .quo .f64 x y = some r) (w : World) : (binOp .quo 44 (.float .f64 x) (.float .f64 y)).run Try.prog w = .ok (.float .f64 r) w := run_float_arith w .quo _ .f64 x y r h
theorem run_mul64 {x y r : Nat} (h : floatBits .mul .f64 x y = some r) (w : World) : (binOp .mul 44 (.float .f64 x) (.float .f64 y)).run Try.prog w = .ok (.float .f64 r) w := run_float_arith w .mul _ .f64 x y r h
set_option maxHeartbeats 4000000 in
theorem plainOk (a : Option Addr) (n c p k : Nat) (hn : n ≤ 9223372036854775807) (hk : k ≤ 1000000) (w : World) (h : Sp a n c p k w) :
    Calls Try.prog 25 #[.pointer (some ⟨p, 0, none⟩)] w fun e w' => ∃ m : Nat, (e = .returned (.float .f32 (xq m)) ∧ m < 129) ∧ Sp a n c p (k + 1) w' ∧ Below p w w' := by
  have HN := Lib.hid (pick129 a n c p k hn hk w h)
  have hi := run_int32
  clear h hn hk
  go_enter Try.func25, Try.ntmps25
  go_wp2_with fail
  refine HN.out.mono ?_
  rintro _ w1 ⟨m, ⟨rfl, hm⟩, hs, hb⟩
  have H := Lib.hid (And.intro hm (And.intro hs hb))
  have hq := run_quo32 (xq_ok m hm).1
  have hm0 : (0 : Int) ≤ (m : Int) := by omega
  have hm1 : (m : Int) < 129 := by omega
  clear hs hb HN hm
  go_wp2
  go_ret
  exact ⟨m, ⟨rfl, H.out.1⟩, H.out.2⟩
set_option maxHeartbeats 4000000 in
theorem plain2 (a : Option Addr) (n c p k : Nat) (hn : n ≤ 9223372036854775807) (hk : k ≤ 100000) (w : World) (h : Sp a n c p k w) :
    Calls Try.prog 12 #[.pointer (some ⟨p, 0, none⟩)] w fun e w' => ∃ m m' : Nat, (e = .returned (.complex .f32 (xq m) (xq m')) ∧ m < 129 ∧ m' < 129) ∧ Sp a n c p (k + 2) w' ∧ Below p w w' := by
  have HN := Lib.hid (plainOk a n c p k hn (by omega) w h)
  have HM := Lib.hid (plainOk a n c p (k + 1) hn (by omega))
  clear h hn hk
  go_enter Try.func12, Try.ntmps12
  go_wp2_with fail
  refine HN.out.mono ?_
  rintro _ w1 ⟨m, ⟨rfl, hm⟩, hs, hb⟩
  have H := Lib.hid (And.intro hm (And.intro hs hb))
  clear hs hb HN hm
  go_wp2_with fail
  refine (HM.out w1 H.out.2.1).mono ?_
  rintro _ w2 ⟨m', ⟨rfl, hm'⟩, hs, hb⟩
  have H' := Lib.hid (And.intro hm' (And.intro hs (Below.trans H.out.2.2 hb)))
  clear hs hb HM hm'
  go_wp2
  go_ret
  exact ⟨m, m', ⟨rfl, H.out.1, H'.out.1⟩, H'.out.2⟩
set_option maxHeartbeats 4000000 in
theorem pointOk (a : Option Addr) (n c : Nat) (hn : n ≤ 9223372036854775807) (w : World) (h : Bytes a n w) :
    Calls Try.prog 5 #[.slice a n c] w fun e w' => ∃ m m' : Nat, (e = .returned (.complex .f32 (xq m) (xq m')) ∧ m < 129 ∧ m' < 129) ∧ Kept w w' := by
  have HN := Lib.hid (fromOk a n c w h)
  have HM := Lib.hid (plain2 a n c w.heap.size 0 hn (by omega))
  have HW := Lib.hid (Nat.le_refl w.heap.size)
  clear h hn
  go_enter Try.func5, Try.ntmps5
  go_wp2_with fail
  refine HN.out.mono ?_
  rintro _ w1 ⟨⟨rfl, hs⟩, hk⟩
  have H := Lib.hid (And.intro hs hk)
  clear hs hk HN
  go_wp2_with fail
  refine (HM.out w1 H.out.1).mono ?_
  rintro _ w2 ⟨m, m', ⟨rfl, hm, hm'⟩, -, hb⟩
  have H' := Lib.hid (And.intro hm (And.intro hm' (below_kept H.out.2 HW.out hb)))
  clear hm hm' hb HM
  go_wp2
  go_ret
  exact ⟨m, m', ⟨rfl, H'.out.1, H'.out.2.1⟩, H'.out.2.2⟩
set_option maxHeartbeats 4000000 in
theorem pick6 (a : Option Addr) (n c : Nat) (hn : n ≤ 9223372036854775807) (w : World) (h : Bytes a n w) :
    Calls Try.prog 6 #[.slice a n c, .int .i64 16] w fun e w' => ∃ s : Nat, (e = .returned (.int .i64 (s : Int)) ∧ s < 16) ∧ Kept w w' := by
  have HN := Lib.hid (fromOk a n c w h)
  have HM := Lib.hid (pick16 a n c w.heap.size 0 hn (by omega))
  have HW := Lib.hid (Nat.le_refl w.heap.size)
  clear h hn
  go_enter Try.func6, Try.ntmps6
  go_wp2_with fail
  refine HN.out.mono ?_
  rintro _ w1 ⟨⟨rfl, hs⟩, hk⟩
  have H := Lib.hid (And.intro hs hk)
  clear hs hk HN
  go_wp2_with fail
  refine (HM.out w1 H.out.1).mono ?_
  rintro _ w2 ⟨m, ⟨rfl, hm⟩, -, hb⟩
  have H' := Lib.hid (And.intro hm (below_kept H.out.2 HW.out hb))
  clear hm hb HM
  go_wp2
  go_ret
  exact ⟨m, ⟨rfl, H'.out.1⟩, H'.out.2⟩
theorem floor_entry {P : Program} {x L : Nat} (h : flo x = some L) (w : World) : (Extern.MathFloor.toIntegral "math.archFloor" .down #[.float .f64 x]).run P w = .ok (.float .f64 L) w := by
  change Sem.run P (match FloatKind.f64.decode x with
    | .nan s t => _
    | d => pure (Value.float .f64 (FloatKind.f64.encode (d.integral .down)))) w = _
  unfold flo at h
  cases hd : FloatKind.f64.decode x with
  | nan s t => rw [hd] at h; cases h
  | infinity s => rw [hd] at h; cases h; rfl
  | number s m e => rw [hd] at h; cases h; rfl
theorem run_floor {x L : Nat} (h : flo x = some L) (w : World) : (callFunc 28 #[.float .f64 x]).run Try.prog w = .ok (.value (.float .f64 L)) w := by
  rw [run_callFunc_extern (fn := Try.f28) (e := Extern.MathFloor.toIntegral "math.archFloor" .down) (by kernel_rfl) (by kernel_rfl) (by kernel_rfl) (by kernel_rfl) (by kernel_rfl)]
  rw [floor_entry h]; rfl
set_option maxHeartbeats 4000000 in
theorem floorOk {x L : Nat} (h : flo x = some L) (w : World) : Calls Try.prog 18 #[.float .f64 x] w fun e w' => e = .returned (.float .f64 L) ∧ w = w' := by
  have hf := run_floor h
  clear h
  go_enter Try.func18, Try.ntmps18
  go_wp2
  go_ret
  exact ⟨rfl, rfl⟩
set_option maxHeartbeats 4000000 in
theorem implSide (S : Nat) (h1 : S < 4294967296) (h2 : finB S = true) (h3 : (FloatKind.f32.format.order S 0 == some .gt) = true) (w : World) :
    Calls Try.prog 15 #[.float .f32 S] w fun e w' => e = .returned (.bool true) ∧ w = w' := by
  have HF := Lib.hid (implFinite S h1)
  rw [h2] at HF
  clear h1 h2
  go_enter Try.func15, Try.ntmps15
  go_wp2_with (go_at_call 27; refine (HF.out _).mono ?_; rintro e w' ⟨rfl, rfl⟩)
  go_ret
  exact ⟨rfl, rfl⟩
theorem kept_drawn {w w' : World} (h : ∃ n, w' = w.drewN n) : Kept w w' := by
  obtain ⟨n, rfl⟩ := h
  exact Kept.drewN (Kept.refl w) n
set_option maxHeartbeats 4000000 in
theorem specSide (S : Nat) (h2 : finB S = true) (h3 : (FloatKind.f32.format.order S 0 == some .gt) = true) (w : World) :
    Calls Try.prog 20 #[.float .f32 S] w fun e w' => e = .returned (.bool true) ∧ Kept w w' := by
  have HF := Lib.hid (specFinite S w)
  rw [h2] at HF
  clear h2
  go_enter Try.func20, Try.ntmps20
  go_wp2_with fail
  refine HF.out.mono ?_
  rintro _ w1 ⟨rfl, hn⟩
  have K := Lib.hid (kept_drawn hn)
  clear hn HF
  go_wp2
  go_ret
  exact ⟨rfl, K.out⟩
set_option maxHeartbeats 4000000 in
theorem implFin2 (x y : Nat) (h1 : x < 4294967296) (h2 : finB x = true) (h3 : y < 4294967296) (h4 : finB y = true) (w : World) :
    Calls Try.prog 16 #[.complex .f32 x y] w fun e w' => e = .returned (.bool true) ∧ w = w' := by
  have HX := Lib.hid (implFinite x h1)
  have HY := Lib.hid (implFinite y h3)
  rw [h2] at HX
  rw [h4] at HY
  clear h1 h2 h3 h4
  go_enter Try.func16, Try.ntmps16
  go_wp2_with fail
  refine (HX.out _).mono ?_
  rintro e w' ⟨rfl, rfl⟩
  go_wp2_with fail
  refine (HY.out _).mono ?_
  rintro e w' ⟨rfl, rfl⟩
  go_wp2
  go_ret
  exact ⟨rfl, rfl⟩
set_option maxHeartbeats 4000000 in
theorem specFin2 (x y : Nat) (h2 : finB x = true) (h4 : finB y = true) (w : World) :
    Calls Try.prog 21 #[.complex .f32 x y] w fun e w' => e = .returned (.bool true) ∧ Kept w w' := by
  have HX := Lib.hid (specFinite x)
  have HY := Lib.hid (specFinite y)
  rw [h2] at HX
  rw [h4] at HY
  clear h2 h4
  go_enter Try.func21, Try.ntmps21
  go_wp2_with fail
  refine (HX.out _).mono ?_
  rintro e w1 ⟨rfl, hn⟩
  have K := Lib.hid (kept_drawn hn)
  clear hn HX
  go_wp2_with fail
  refine (HY.out _).mono ?_
  rintro e w2 ⟨rfl, hn⟩
  have K2 := Lib.hid (Kept.trans K.out (kept_drawn hn))
  clear hn HY
  go_wp2
  go_ret
  exact ⟨rfl, K2.out⟩
set_option maxHeartbeats 4000000 in
theorem specPart (a S : Nat) (c : Int) (h : PartOK a S c) (w : World) :
    Calls Try.prog 22 #[.float .f32 a, .float .f32 S] w fun e w' => e = .returned (.tuple #[.int .i32 c, .bool true]) ∧ w = w' := by
  obtain ⟨A, T, Q, L, h1, h2, h3, h4, h5, h6, h7⟩ := h
  have r1 := run_conv32 h1
  have r2 := run_conv32 h2
  have r3 := run_quo64 h3
  have HF := Lib.hid (fun w => floorOk h4 w)
  have r7 := run_toInt h7
  unfold geB loC at h5
  unfold leB hiC at h6
  clear h1 h2 h3 h4 h7
  go_enter Try.func22, Try.ntmps22
  go_wp2_with (go_at_call 18; refine (HF.out _).mono ?_; rintro e w' ⟨rfl, rfl⟩)
  go_ret2
  exact ⟨rfl, rfl⟩
end Go.Proofs.Ythngajpkhodnpaa
