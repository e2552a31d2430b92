/-
  Walks for FnSorted: any number is drawn.
-/
import Derived.Test.YtbceiphiopdegaaDraw
import Derived.Test.YtbceiphiopdegaaCplx
set_option linter.unusedSimpArgs false
set_option linter.unusedVariables false
namespace Go.Proofs.Ytbceiphiopdegaa.Pt
open Go.RowKit

/-- some number is drawn, by at most m bytes -/
def AnyP (m : Nat) (a : Option Addr) (n c p k : Nat) (w : World) (e : Ending) (w' : World) : Prop := ∃ r k' : Nat, (e = .returned (.float .f32 r) ∧ r < 4294967296) ∧ (k ≤ k' ∧ k' ≤ k + m) ∧ Sp a n c p k' w' ∧ w.grownBy w' (some p)
theorem AnyP.mk {m : Nat} {a : Option Addr} {n c p k k' r : Nat} {w w1 : World} (h : Sp a n c p k' w1 ∧ w.grownBy w1 (some p)) (hr : r < 4294967296) (h1 : k ≤ k') (h2 : k' ≤ k + m) : AnyP m a n c p k w (.returned (.float .f32 r)) w1 :=
  ⟨r, k', ⟨rfl, hr⟩, ⟨h1, h2⟩, h.1, h.2⟩
theorem SpG.drew {a : Option Addr} {n c p k : Nat} {w w1 : World} (h : Sp a n c p k w1 ∧ w.grownBy w1 (some p)) : Sp a n c p k w1.drew ∧ w.grownBy w1.drew (some p) := ⟨Sp.drewN' h.1 1, grown_drewN h.2 1⟩
theorem SpG.trans {a : Option Addr} {n c p k k' : Nat} {w w1 w2 : World} (h : Sp a n c p k w1 ∧ w.grownBy w1 (some p)) (h' : Sp a n c p k' w2 ∧ w1.grownBy w2 (some p)) : Sp a n c p k' w2 ∧ w.grownBy w2 (some p) := ⟨h'.1, h.2.trans h'.2⟩
theorem AnyP.wider {m m' d : Nat} {a : Option Addr} {n c p k : Nat} {w w1 w' : World} {e : Ending} (h : AnyP m a n c p (k + d) w1 e w') (hg : w.grownBy w1 (some p)) (hm : m + d ≤ m') : AnyP m' a n c p k w e w' := by
  obtain ⟨r, k', he, ⟨h1, h2⟩, hs, hg'⟩ := h
  exact ⟨r, k', he, ⟨by omega, by omega⟩, hs, hg.trans hg'⟩
theorem pick_cell {w1 w3 : World} {p r : Nat} {vs : Array Value} {t : TypeId} (hg : (w1.alloc (.cells vs t)).grownBy w3 (some p)) (hp : p < w1.heap.size) (hr : r < 7)
    (hv : ∀ i, i < 7 → ∃ v, v < 4294967296 ∧ vs[i]? = some (.float .f32 v)) : ∃ v, v < 4294967296 ∧ w3.cell? ⟨w1.heap.size, r, none⟩ = some (.float .f32 v) := by
  obtain ⟨v, h1, h2⟩ := hv r hr
  have hne : w1.heap.size ≠ p := by omega
  refine ⟨v, h1, hg.cell ?_ (fun e => hne (Option.some.inj e))⟩
  rw [World.cell?_alloc_at vs t _ r rfl]; exact h2
theorem AnyP.ar {m : Nat} {a : Option Addr} {n c p k k' : Nat} {w w1 : World} {op : BinOp} {x y : Nat} (h : Sp a n c p k' w1 ∧ w.grownBy w1 (some p)) (h1 : k ≤ k') (h2 : k' ≤ k + m) : AnyP m a n c p k w (.returned (.float .f32 (arB op .f32 x y w1))) (arW op .f32 x y w1) := by
  obtain ⟨q, hq⟩ := arW_is op .f32 x y w1
  rw [hq]
  exact AnyP.mk ⟨Sp.drewN' h.1 q, grown_drewN h.2 q⟩ (arB_lt32 op x y w1) h1 h2
theorem run_int32 (n : Int) (w : World) : (convert 2 34 (.int .i64 n)).run Try.prog w = .ok (.float .f32 (floatOfInt .f32 n)) w :=
  run_convert_int_float (P := Try.prog) w 2 34 .i64 .f32 n (by kernel_rfl) Try.underlying34
theorem run_conv64 {a A : Nat} (h : floatToFloatBits .f64 a .f32 = some A) (w : World) : (convert 51 34 (.float .f64 a)).run Try.prog w = .ok (.float .f32 A) w :=
  run_convert_float_float (P := Try.prog) w 51 34 .f64 .f32 a A (by kernel_rfl) Try.underlying34 h
theorem from64 (n : Int) (w : World) : (callFunc 66 #[.int .u64 n]).run Try.prog w = .ok (.value (.float .f64 n.toNat)) w := by kernel_rfl
theorem bits64 (b : Nat) (w : World) : (callFunc 67 #[.float .f64 b]).run Try.prog w = .ok (.value (.int .u64 b)) w := by kernel_rfl
theorem nanCall (w : World) : Calls Try.prog 50 #[] w fun e w' => e = .returned (.float .f64 9221120237041090561) ∧ w = w' := by
  have hf := from64
  go_enter Try.func50, Try.ntmps50
  go_wp2
  go_ret
  exact ⟨rfl, rfl⟩
theorem nanConv (w : World) : (convert 51 34 (.float .f64 9221120237041090561)).run Try.prog w = .ok (.float .f32 (nvConv .f32 9221120237041090561 w)) w.drew :=
  run_conv_nan (P := Try.prog) w 51 34 .f64 .f32 9221120237041090561 (by kernel_rfl) Try.underlying34 (by decide) okD (by decide)
theorem infUp (w : World) : Calls Try.prog 51 #[.int .i64 1] w fun e w' => e = .returned (.float .f64 9218868437227405312) ∧ w = w' := by
  have hf := from64
  go_enter Try.func51, Try.ntmps51
  go_wp2
  go_ret
  exact ⟨rfl, rfl⟩
theorem infDown (w : World) : Calls Try.prog 51 #[.int .i64 (-1)] w fun e w' => e = .returned (.float .f64 18442240474082181120) ∧ w = w' := by
  have hf := from64
  go_enter Try.func51, Try.ntmps51
  go_wp2
  go_ret
  exact ⟨rfl, rfl⟩
set_option maxHeartbeats 400000 in
theorem copyNeg (w : World) : Calls Try.prog 52 #[.float .f64 0, .float .f64 13830554455654793216] w fun e w' => e = .returned (.float .f64 9223372036854775808) ∧ w = w' := by
  have hb := bits64
  have hc := from64
  have h1 : bits .and .u64 13830554455654793216 9223372036854775808 = 9223372036854775808 := by decide +kernel
  have h2 : bits .andNot .u64 0 9223372036854775808 = 0 := by decide +kernel
  have h3 : bits .or .u64 0 9223372036854775808 = 9223372036854775808 := by decide +kernel
  go_enter Try.func52, Try.ntmps52
  go_wp2
  go_ret
  exact ⟨rfl, rfl⟩
theorem cInf : floatToFloatBits .f64 9218868437227405312 .f32 = some 2139095040 := by decide +kernel
theorem cNeg : floatToFloatBits .f64 18442240474082181120 .f32 = some 4286578688 := by decide +kernel
theorem cZero : floatToFloatBits .f64 9223372036854775808 .f32 = some 2147483648 := by decide +kernel
set_option maxHeartbeats 4000000 in
theorem plainAny (a : Option Addr) (n c p k : Nat) (hn : n ≤ 9223372036854775807) (hk : k ≤ 1000000) (w : World) (h : Sp a n c p k w) :
    Calls Try.prog 53 #[.pointer (some ⟨p, 0, none⟩)] w (AnyP 1 a n c p k w) := by
  have HN := Lib.hid (pk129 a n c p k hn hk w h)
  have hi := run_int32
  have hq := fun t x y w => run_ar (P := Try.prog) .quo (by simp) t .f32 x y w
  clear h hn hk
  go_enter Try.func53, Try.ntmps53
  go_wp2_with fail
  refine HN.out.mono ?_
  rintro _ w1 ⟨m, ⟨rfl, hm⟩, hs⟩
  have H := Lib.hid hs
  have hm0 : (0 : Int) ≤ (m : Int) := by omega
  have hm1 : (m : Int) < 129 := by omega
  clear hs HN hm
  go_wp2
  go_ret
  exact AnyP.ar H.out (by omega) (by omega)
theorem u32_nat (e : Int) : ∃ x : Nat, x < 4294967296 ∧ IntKind.u32.wrap e = (x : Int) := by
  rw [IntKind.wrap_u32]
  exact ⟨(e % 4294967296).toNat, by omega, by omega⟩
theorem or_u32 (x r : Nat) (hx : x < 4294967296) (hr : r < 4294967296) : ∃ y : Nat, y < 4294967296 ∧ bits .or .u32 (x : Int) (r : Int) = (y : Int) :=
  ⟨x ||| r, Nat.or_lt_two_pow (n := 32) hx hr, u32_or_nat x r hx hr⟩
set_option maxHeartbeats 4000000 in
theorem anyOk (a : Option Addr) (n c p k : Nat) (hn : n ≤ 9223372036854775807) (hk : k ≤ 900000) (w : World) (h : Sp a n c p k w) :
    Calls Try.prog 30 #[.pointer (some ⟨p, 0, none⟩)] w (AnyP 6 a n c p k w) := by
  have HN := Lib.hid (pk8 a n c p k hn (by omega) w h)
  have P200 := Lib.hid (fun i (hi : i ≤ 4) => pk200 a n c p (k + 1 + i) hn (by omega))
  have P7 := Lib.hid (pk7 a n c p (k + 1) hn (by omega))
  have P6 := Lib.hid (pk6 a n c p (k + 1) hn (by omega))
  have P9 := Lib.hid (pk9 a n c p (k + 2) hn (by omega))
  have PP := Lib.hid (plainAny a n c p (k + 1) hn (by omega))
  have hb := from32
  clear h hn hk
  go_enter Try.func30, Try.ntmps30
  go_wp2_with fail
  refine HN.out.mono ?_
  rintro _ w1 ⟨m, ⟨rfl, hm⟩, hs⟩
  have H := Lib.hid hs
  clear hs HN
  by_cases m0 : m = 0
  · have e0 : ((m : Int) == 0) = true := beq_iff_eq.2 (by omega)
    clear m0 hm
    go_wp2
    go_loopw [3, 4] (fun vb vi wr => ∃ b i : Nat, b < 4294967296 ∧ i ≤ 4 ∧ vb = .int .u32 (b : Int) ∧ vi = .int .i64 (i : Int) ∧ Hid (Sp a n c p (k + 1 + i) wr ∧ w.grownBy wr (some p))) (fun _ vi _ => 4 - (intOf vi).toNat)
    case atStart => exact ⟨0, 0, by decide, by decide, rfl, rfl, H⟩
    case round =>
      clear H
      obtain ⟨b, i, hb32, hi, rfl, rfl, H⟩ := hrel
      by_cases hi4 : i < 4
      · have q0 : (i : Int) < 4 := by omega
        have q1 : (0 : Int) ≤ (i : Int) := by omega
        obtain ⟨X, hX, eX⟩ := u32_nat ((b : Int) * 256)
        go_wp2_with fail
        refine (P200.out i hi _ H.out.1).mono ?_
        rintro _ w2 ⟨r, ⟨rfl, hr⟩, hs⟩
        have H2 := Lib.hid (SpG.trans H.out hs)
        clear hs
        go_wp2
        go_roundw
        case rel =>
          obtain ⟨y, hy, ey⟩ := or_u32 X r hX (by omega)
          exact ⟨y, i + 1, hy, by omega, by rw [ey], by go_num, H2⟩
        case measure => simp [intOf]; omega
      · obtain rfl : i = 4 := by omega
        have H2 : Hid (Sp a n c p (k + 5) wr ∧ w.grownBy wr (some p)) := H
        clear H
        go_wp2
        go_ret
        exact AnyP.mk H2.out hb32 (by omega) (by omega)
  · have e0 : ((m : Int) == 0) = false := beq_eq_false_iff_ne.2 (by omega)
    by_cases m1 : m = 1
    · have e1 : ((m : Int) == 1) = true := beq_iff_eq.2 (by omega)
      have hlt : p < w1.heap.size := lt_of_cell H.out.1.1
      have HLT := Lib.hid hlt
      clear m0 m1 hm hlt
      go_wp2_with fail
      refine (P7.out _ (Sp.grown H.out.1 (World.grownBy_alloc _ _ none) (by simp))).mono ?_
      rintro _ w2 ⟨r, ⟨rfl, hr⟩, hs, hg⟩
      obtain ⟨v, hv, hc⟩ := pick_cell hg HLT.out hr (fun i hi => by
        have h7 : i = 0 ∨ i = 1 ∨ i = 2 ∨ i = 3 ∨ i = 4 ∨ i = 5 ∨ i = 6 := by omega
        rcases h7 with rfl | rfl | rfl | rfl | rfl | rfl | rfl <;> refine ⟨_, ?_, rfl⟩ <;> decide)
      have H2 : Hid (Sp a n c p (k + 2) w2 ∧ w.grownBy w2 (some p)) := Lib.hid ⟨hs, (H.out.2.trans (World.grownBy_alloc _ _ _)).trans hg⟩
      have q0 : (r : Int) < 7 := by omega
      clear hs hg hr
      go_wp2
      go_ret
      exact AnyP.mk H2.out hv (by omega) (by omega)
    · have e1 : ((m : Int) == 1) = false := beq_eq_false_iff_ne.2 (by omega)
      by_cases m2 : m = 2
      · have e2 : ((m : Int) == 2) = true := beq_iff_eq.2 (by omega)
        clear m0 m1 m2 hm
        go_wp2_with fail
        refine (P6.out _ H.out.1).mono ?_
        rintro _ w2 ⟨r, ⟨rfl, hr⟩, hs⟩
        have H2 : Hid (Sp a n c p (k + 2) w2 ∧ w.grownBy w2 (some p)) := Lib.hid (SpG.trans H.out hs)
        clear hs H
        have hnc := nanConv
        have hci := run_conv64 cInf
        have hcn := run_conv64 cNeg
        have hcz := run_conv64 cZero
        have hi32 := run_int32
        have hmul := fun t x y w => run_ar (P := Try.prog) .mul (by simp) t .f32 x y w
        by_cases r0 : r = 0
        · have g0 : ((r : Int) == 0) = true := beq_iff_eq.2 (by omega)
          clear r0 hr
          go_wp2_with fail
          refine (nanCall _).mono ?_
          rintro _ _ ⟨rfl, rfl⟩
          go_wp2
          go_ret
          exact AnyP.mk (SpG.drew H2.out) (nvConv32_lt _ _) (by omega) (by omega)
        · have g0 : ((r : Int) == 0) = false := beq_eq_false_iff_ne.2 (by omega)
          by_cases r1 : r = 1
          · have g1 : ((r : Int) == 1) = true := beq_iff_eq.2 (by omega)
            clear r0 r1 hr
            go_wp2_with fail
            refine (infUp _).mono ?_
            rintro _ _ ⟨rfl, rfl⟩
            go_wp2
            go_ret
            exact AnyP.mk H2.out (by decide) (by omega) (by omega)
          · have g1 : ((r : Int) == 1) = false := beq_eq_false_iff_ne.2 (by omega)
            by_cases r2 : r = 2
            · have g2 : ((r : Int) == 2) = true := beq_iff_eq.2 (by omega)
              clear r0 r1 r2 hr
              go_wp2_with fail
              refine (infDown _).mono ?_
              rintro _ _ ⟨rfl, rfl⟩
              go_wp2
              go_ret
              exact AnyP.mk H2.out (by decide) (by omega) (by omega)
            · have g2 : ((r : Int) == 2) = false := beq_eq_false_iff_ne.2 (by omega)
              by_cases r3 : r = 3
              · have g3 : ((r : Int) == 3) = true := beq_iff_eq.2 (by omega)
                clear r0 r1 r2 r3 hr
                go_wp2_with fail
                refine (copyNeg _).mono ?_
                rintro _ _ ⟨rfl, rfl⟩
                go_wp2
                go_ret
                exact AnyP.mk H2.out (by decide) (by omega) (by omega)
              · have g3 : ((r : Int) == 3) = false := beq_eq_false_iff_ne.2 (by omega)
                clear r0 r1 r2 r3 hr
                go_wp2_with fail
                refine (P9.out _ H2.out.1).mono ?_
                rintro _ w3 ⟨q, ⟨rfl, hq⟩, hs⟩
                have H3 : Hid (Sp a n c p (k + 3) w3 ∧ w.grownBy w3 (some p)) := Lib.hid (SpG.trans H2.out hs)
                clear hs H2 hq
                go_wp2
                go_ret
                exact AnyP.ar H3.out (by omega) (by omega)
      · have e2 : ((m : Int) == 2) = false := beq_eq_false_iff_ne.2 (by omega)
        clear m0 m1 m2 hm
        go_wp2_with fail
        refine (PP.out _ H.out.1).mono ?_
        rintro _ w2 hA
        obtain ⟨r, k', ⟨rfl, hr⟩, hkk, hs⟩ := hA
        have H2 := Lib.hid (And.intro hkk (SpG.trans H.out hs))
        clear hs hkk H
        go_wp2
        go_ret
        exact AnyP.mk H2.out.2 hr (by have := H2.out.1; omega) (by have := H2.out.1; omega)
end Go.Proofs.Ytbceiphiopdegaa.Pt
