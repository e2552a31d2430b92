/-
  Walks for SortReals: Go's merge where one side holds one element.
-/
import Derived.Test.YtbceiphiopdegaaSymP
set_option linter.unusedSimpArgs false
set_option linter.unusedVariables false
namespace Go.Proofs.Ytbceiphiopdegaa
open Go.RowKit

theorem cmp_negK {xs : List Nat} {u v : Nat} : decide (cmpR (va xs u) (va xs v) < 0) = decide (ky xs u < ky xs v) := cmp_neg
set_option maxRecDepth 100000 in
set_option maxHeartbeats 8000000 in
theorem symA (g N cap a m b : Nat) (hm : m = a + 1) (hmb : m < b) (hb : b ≤ N) (hN : N ≤ 1000) (w0 : World) (xs : List Nat) (w : World) (R : Row g N cap w0 xs w) (hs : Srt m b xs) :
    Calls Try.prog 73 #[.slice (some ⟨g, 0, none⟩) N cap, .int .i64 (a : Int), .int .i64 (m : Int), .int .i64 (b : Int), .func (.func 26) #[] #[]] w fun e w' => ∃ ys, (∃ v, e = .returned v) ∧ Row g N cap w0 ys w' ∧ SwR a b xs ys ∧ Srt a b ys := by
  have R0 := Lib.hid R
  have HC := Lib.hid compareOk
  have hB := Lib.hid (And.intro hm (And.intro hmb (And.intro hb hN)))
  have HS := Lib.hid hs
  have t1 : ((m : Int) - (a : Int) == 1) = true := by rw [beq_iff_eq]; omega
  have ha0 : (a : Int) < (m : Int) := by omega
  have hb0 : (m : Int) < (b : Int) := by omega
  have hN0 : (b : Int) ≤ (N : Int) := by omega
  have hN1 : (N : Int) ≤ 1000 := by omega
  have ha1 : (0 : Int) ≤ (a : Int) := by omega
  have haN : a < N := by omega
  clear R hm hmb hb hN hs
  go_enter Try.func73, Try.ntmps73
  go_wp2
  go_loopw [10, 11] (fun vi vj wr => ∃ i j : Nat, m ≤ i ∧ i ≤ j ∧ j ≤ b ∧ vi = .int .i64 (i : Int) ∧ vj = .int .i64 (j : Int) ∧ Hid (Row g N cap w0 xs wr ∧ (∀ k, m ≤ k → k < i → ky xs k < ky xs a) ∧ (∀ k, j ≤ k → k < b → ky xs a ≤ ky xs k))) (fun vi vj _ => (intOf vj).toNat - (intOf vi).toNat)
  case atStart => have := hB.out; exact ⟨m, b, Nat.le_refl _, by omega, Nat.le_refl _, rfl, rfl, Lib.hid ⟨R0.out, fun k h1 h2 => by omega, fun k h1 h2 => by omega⟩⟩
  case round =>
    obtain ⟨i, j, hi, hij, hj, rfl, rfl, H⟩ := hrel
    by_cases hlt : i < j
    · obtain ⟨h, hh⟩ : ∃ h : Nat, h = (i + j) / 2 := ⟨_, rfl⟩
      have h2 : i ≤ h ∧ h < j := by omega
      have hhi : ((i : Int) + (j : Int)) / 2 = (h : Int) := by omega
      have i0 : (i : Int) < (j : Int) := by omega
      have i1 : (j : Int) ≤ 1000 := by have := hB.out; omega
      have i2 : (0 : Int) ≤ (i : Int) := by omega
      have hhN : h < N := by have := hB.out; omega
      have hh0 : (h : Int) < (N : Int) := by omega
      have hh1 : (0 : Int) ≤ (h : Int) := by omega
      have c1 := H.out.1.cell h hhN
      have c2 := H.out.1.cell a haN
      have HCC := Lib.hid (HC.out _ _ (H.out.1.lt h hhN) (H.out.1.lt a haN))
      have HH := Lib.hid (And.intro hh h2)
      clear hh h2
      by_cases hl : ky xs h < ky xs a
      · have hcn : decide (cmpR (va xs h) (va xs a) < 0) = true := by rw [cmp_negK]; exact decide_eq_true hl
        have HL := Lib.hid hl
        clear hl
        go_wp2
        go_quiet ((go_at_call 26; exact quiet_left (HCC.out _)))
        go_wp2
        go_roundw
        case rel => have := HH.out; exact ⟨h + 1, j, by omega, by omega, hj, by go_num, rfl, Lib.hid ⟨H.out.1.drewN _, fun k h1 h2 => Int.lt_of_le_of_lt (HS.out.le h1 (by omega) (by omega)) HL.out, H.out.2.2⟩⟩
        case measure => have := HH.out; simp [intOf]; omega
      · have hcn : decide (cmpR (va xs h) (va xs a) < 0) = false := by rw [cmp_negK]; exact decide_eq_false hl
        have HL := Lib.hid hl
        clear hl
        go_wp2
        go_quiet ((go_at_call 26; exact quiet_left (HCC.out _)))
        go_wp2
        go_roundw
        case rel => have := HH.out; exact ⟨i, h, hi, by omega, by omega, rfl, rfl, Lib.hid ⟨H.out.1.drewN _, H.out.2.1, fun k h1 h2 => Int.le_trans (by have := HL.out; omega) (HS.out.le (by omega) h1 h2)⟩⟩
        case measure => have := HH.out; simp [intOf]; omega
    · obtain rfl : i = j := by omega
      have i0 : decide ((i : Int) < (i : Int)) = false := decide_eq_false (by omega)
      have i1 : (i : Int) ≤ (b : Int) := by omega
      have i2 : (m : Int) ≤ (i : Int) := by omega
      go_wp2
      go_loopw [13] (fun vk wr => ∃ (k : Nat) (ys : List Nat), a ≤ k ∧ k ≤ i - 1 ∧ vk = .int .i64 (k : Int) ∧ Hid (Row g N cap w0 ys wr ∧ SwR a b xs ys ∧ Up a k xs ys)) (fun vk _ => i - (intOf vk).toNat)
      case atStart => have := hB.out; exact ⟨a, xs, Nat.le_refl _, by omega, rfl, Lib.hid ⟨H.out.1, SwR.refl _ _ _, Up.start _ _⟩⟩
      case round =>
        obtain ⟨k, ys, hk, hki, rfl, HK⟩ := hrel
        by_cases hlt2 : k < i - 1
        · have k0 : (k : Int) < (i : Int) - 1 := by have := hB.out; omega
          have k1 : (0 : Int) ≤ (k : Int) := by omega
          have kN : k + 1 < N := by have := hB.out; omega
          have kN0 : (k : Int) + 1 < (N : Int) := by omega
          have c1 := HK.out.1.cell k (by omega)
          have c2 := HK.out.1.cell (k + 1) kN
          have f1 := HK.out.1.frozen k
          have f2 := HK.out.1.frozen (k + 1)
          have t2 : ((k : Int) + 1).toNat = k + 1 := by omega
          go_wp2
          go_region
          all_goals
            go_wp2
            go_roundw
            case rel => exact ⟨k + 1, swp ys k (k + 1), by omega, by omega, by go_num, Lib.hid ⟨by first | exact Row.swap HK.out.1 k (k + 1) (by omega) kN | exact Row.swap (HK.out.1.drewN 1) k (k + 1) (by omega) kN | exact Row.drewN (Row.swap HK.out.1 k (k + 1) (by omega) kN) 1, HK.out.2.1.trans (SwR.swap ⟨by omega, by omega⟩ ⟨by omega, by omega⟩ (by rw [HK.out.1.1]; have := hB.out; omega)), HK.out.2.2.step hk (by rw [HK.out.1.1]; omega)⟩⟩
            case measure => simp [intOf]; omega
        · obtain rfl : k = i - 1 := by have := hB.out; omega
          have k0 : (((i - 1 : Nat) : Int)) = (i : Int) - 1 := by have := hB.out; omega
          have HF : Hid (Row g N cap w0 ys wr ∧ SwR a b xs ys ∧ Srt a b ys) := by
            have hh := hB.out
            exact Lib.hid ⟨HK.out.1, HK.out.2.1, Up.sorted HK.out.2.2 (HS.out.mono (by omega) (Nat.le_refl _)) (by omega) hj (fun k h1 h2 => H.out.2.1 k (by omega) h2) H.out.2.2⟩
          go_wp2
          refine bodyPost_ret (results_none rfl _ _ _) rfl ?_
          exact ⟨ys, ⟨_, rfl⟩, HF.out⟩
set_option maxRecDepth 100000 in
set_option maxHeartbeats 8000000 in
theorem symB (g N cap a m b : Nat) (hm : a + 1 < m) (hmb : b = m + 1) (hb : b ≤ N) (hN : N ≤ 1000) (w0 : World) (xs : List Nat) (w : World) (R : Row g N cap w0 xs w) (hs : Srt a m xs) :
    Calls Try.prog 73 #[.slice (some ⟨g, 0, none⟩) N cap, .int .i64 (a : Int), .int .i64 (m : Int), .int .i64 (b : Int), .func (.func 26) #[] #[]] w fun e w' => ∃ ys, (∃ v, e = .returned v) ∧ Row g N cap w0 ys w' ∧ SwR a b xs ys ∧ Srt a b ys := by
  have R0 := Lib.hid R
  have HC := Lib.hid compareOk
  have hB := Lib.hid (And.intro hm (And.intro hmb (And.intro hb hN)))
  have HS := Lib.hid hs
  have t0 : ((m : Int) - (a : Int) == 1) = false := by rw [beq_eq_false_iff_ne]; omega
  have t1 : ((b : Int) - (m : Int) == 1) = true := by rw [beq_iff_eq]; omega
  have ha0 : (a : Int) + 1 < (m : Int) := by omega
  have hb0 : (m : Int) < (b : Int) := by omega
  have hN0 : (b : Int) ≤ (N : Int) := by omega
  have hN1 : (N : Int) ≤ 1000 := by omega
  have ha1 : (0 : Int) ≤ (a : Int) := by omega
  have haN : m < N := by omega
  clear R hm hmb hb hN hs
  go_enter Try.func73, Try.ntmps73
  go_wp2
  go_loopw [14, 15] (fun vi vj wr => ∃ i j : Nat, a ≤ i ∧ i ≤ j ∧ j ≤ m ∧ vi = .int .i64 (i : Int) ∧ vj = .int .i64 (j : Int) ∧ Hid (Row g N cap w0 xs wr ∧ (∀ k, a ≤ k → k < i → ky xs k ≤ ky xs m) ∧ (∀ k, j ≤ k → k < m → ky xs m < ky xs k))) (fun vi vj _ => (intOf vj).toNat - (intOf vi).toNat)
  case atStart => have := hB.out; exact ⟨a, m, Nat.le_refl _, by omega, Nat.le_refl _, rfl, rfl, Lib.hid ⟨R0.out, fun k h1 h2 => by omega, fun k h1 h2 => by omega⟩⟩
  case round =>
    obtain ⟨i, j, hi, hij, hj, rfl, rfl, H⟩ := hrel
    by_cases hlt : i < j
    · obtain ⟨h, hh⟩ : ∃ h : Nat, h = (i + j) / 2 := ⟨_, rfl⟩
      have h2 : i ≤ h ∧ h < j := by omega
      have hhi : ((i : Int) + (j : Int)) / 2 = (h : Int) := by omega
      have i0 : (i : Int) < (j : Int) := by omega
      have i1 : (j : Int) ≤ 1000 := by have := hB.out; omega
      have i2 : (0 : Int) ≤ (i : Int) := by omega
      have hhN : h < N := by have := hB.out; omega
      have hh0 : (h : Int) < (N : Int) := by omega
      have hh1 : (0 : Int) ≤ (h : Int) := by omega
      have hm0 : (m : Int) < (N : Int) := by omega
      have c1 := H.out.1.cell h hhN
      have c2 := H.out.1.cell m haN
      have HCC := Lib.hid (HC.out _ _ (H.out.1.lt m haN) (H.out.1.lt h hhN))
      have HH := Lib.hid (And.intro hh h2)
      clear hh h2
      by_cases hl : ky xs m < ky xs h
      · have hcn : decide (cmpR (va xs m) (va xs h) < 0) = true := by rw [cmp_negK]; exact decide_eq_true hl
        have HL := Lib.hid hl
        clear hl
        go_wp2
        go_quiet ((go_at_call 26; exact quiet_left (HCC.out _)))
        go_wp2
        go_roundw
        case rel => have := HH.out; exact ⟨i, h, hi, by omega, by omega, rfl, rfl, Lib.hid ⟨H.out.1.drewN _, H.out.2.1, fun k h1 h2 => Int.lt_of_lt_of_le HL.out (HS.out.le (by omega) h1 h2)⟩⟩
        case measure => have := HH.out; simp [intOf]; omega
      · have hcn : decide (cmpR (va xs m) (va xs h) < 0) = false := by rw [cmp_negK]; exact decide_eq_false hl
        have HL := Lib.hid hl
        clear hl
        go_wp2
        go_quiet ((go_at_call 26; exact quiet_left (HCC.out _)))
        go_wp2
        go_roundw
        case rel => have := HH.out; exact ⟨h + 1, j, by omega, by omega, hj, by go_num, rfl, Lib.hid ⟨H.out.1.drewN _, fun k h1 h2 => Int.le_trans (HS.out.le (v := h) h1 (by omega) (by omega)) (by have := HL.out; omega), H.out.2.2⟩⟩
        case measure => have := HH.out; simp [intOf]; omega
    · obtain rfl : i = j := by omega
      have i0 : decide ((i : Int) < (i : Int)) = false := decide_eq_false (by omega)
      have i1 : (i : Int) ≤ (m : Int) := by omega
      have i2 : (a : Int) ≤ (i : Int) := by omega
      go_wp2
      go_loopw [17] (fun vk wr => ∃ (k : Nat) (ys : List Nat), i ≤ k ∧ k ≤ m ∧ vk = .int .i64 (k : Int) ∧ Hid (Row g N cap w0 ys wr ∧ SwR a b xs ys ∧ Dn m k xs ys)) (fun vk _ => (intOf vk).toNat)
      case atStart => have := hB.out; exact ⟨m, xs, hj, Nat.le_refl _, rfl, Lib.hid ⟨H.out.1, SwR.refl _ _ _, Dn.start _ _⟩⟩
      case round =>
        obtain ⟨k, ys, hk, hkm, rfl, HK⟩ := hrel
        by_cases hlt2 : i < k
        · have k0 : (i : Int) < (k : Int) := by omega
          have k1 : (k : Int) ≤ (m : Int) := by omega
          have k2 : (0 : Int) ≤ (k : Int) - 1 := by omega
          have kN : k < N := by omega
          have kN0 : (k : Int) < (N : Int) := by omega
          have c1 := HK.out.1.cell k kN
          have c2 := HK.out.1.cell (k - 1) (by omega)
          have f1 := HK.out.1.frozen k
          have f2 := HK.out.1.frozen (k - 1)
          have t2 : ((k : Int) - 1).toNat = k - 1 := by omega
          have hne : k ≠ k - 1 := by omega
          have hne' : k - 1 ≠ k := by omega
          go_wp2
          go_region
          all_goals
            go_wp2
            go_roundw
            case rel => exact ⟨k - 1, swp ys k (k - 1), by omega, by omega, by go_num, Lib.hid ⟨by first | exact Row.swap HK.out.1 k (k - 1) kN (by omega) | exact Row.swap (HK.out.1.drewN 1) k (k - 1) kN (by omega) | exact Row.drewN (Row.swap HK.out.1 k (k - 1) kN (by omega)) 1, HK.out.2.1.trans (SwR.swap ⟨by omega, by have := hB.out; omega⟩ ⟨by omega, by have := hB.out; omega⟩ (by rw [HK.out.1.1]; have := hB.out; omega)), HK.out.2.2.step (by omega) hkm (by rw [HK.out.1.1]; omega)⟩⟩
            case measure => simp [intOf]; omega
        · obtain rfl : k = i := by omega
          have k0 : decide ((k : Int) < (k : Int)) = false := decide_eq_false (by omega)
          have HF : Hid (Row g N cap w0 ys wr ∧ SwR a b xs ys ∧ Srt a b ys) := by
            have hh := hB.out
            exact Lib.hid ⟨HK.out.1, HK.out.2.1, (Dn.sorted HK.out.2.2 HS.out hi hj H.out.2.1 H.out.2.2).mono (Nat.le_refl _) (by omega)⟩
          go_wp2
          refine bodyPost_ret (results_none rfl _ _ _) rfl ?_
          exact ⟨ys, ⟨_, rfl⟩, HF.out⟩
end Go.Proofs.Ytbceiphiopdegaa
