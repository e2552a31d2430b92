/-
  Walks for SortPoints: Go's insertion sort of a range.
-/
import Derived.Test.YtbceiphiopdegaaPRow
import Derived.Test.YtbceiphiopdegaaIns
import Derived.Deep.QuietTactic
import Derived.BigQuiet
import Derived.RegionTactic
import Derived.BigRegion
import Derived.Deep.RegionHeld3
import Derived.ChangeAlike
import Derived.IntWalk
set_option linter.unusedSimpArgs false
set_option linter.unusedVariables false
namespace Go.Proofs.Ytbceiphiopdegaa.Pt
open Go.RowKit

/-- while an element is let sink: in order but for place j, which holds no more than what lies behind it -/
def InsI (a i j : Nat) (zs : List Nat) : Prop := ∀ u v, a ≤ u → u < v → v ≤ i → (u ≠ j ∧ v ≠ j → keyC (va zs u) ≤ keyC (va zs v)) ∧ (u = j → keyC (va zs u) ≤ keyC (va zs v))
theorem InsI.start {a i : Nat} {zs : List Nat} (h : Srt a i zs) : InsI a i i zs := fun u v h1 h2 h3 => ⟨fun h4 => h u v h1 h2 (by omega), fun h4 => by omega⟩
theorem InsI.stop0 {a i : Nat} {zs : List Nat} (h : InsI a i a zs) : Srt a (i + 1) zs := fun u v h1 h2 h3 => by
  obtain ⟨p, q⟩ := h u v h1 h2 (by omega)
  by_cases e : u = a
  · exact q e
  · exact p ⟨e, by omega⟩
theorem InsI.stop {a i j : Nat} {zs : List Nat} (h : InsI a i j zs) (hj : a < j) (hi : j ≤ i) (hl : ¬ keyC (va zs j) < keyC (va zs (j - 1))) : Srt a (i + 1) zs := fun u v h1 h2 h3 => by
  obtain ⟨p, q⟩ := h u v h1 h2 (by omega)
  by_cases e : u = j
  · exact q e
  · by_cases e2 : v = j
    · subst e2
      by_cases e3 : u = v - 1
      · subst e3; omega
      · have := (h u (v - 1) h1 (by omega) (by omega)).1 ⟨by omega, by omega⟩
        omega
    · exact p ⟨e, e2⟩
theorem InsI.step {a i j : Nat} {zs : List Nat} (h : InsI a i j zs) (hj : a < j) (hi : j ≤ i) (hN : i < zs.length) (hl : keyC (va zs j) < keyC (va zs (j - 1))) : InsI a i (j - 1) (swp zs j (j - 1)) := fun u v h1 h2 h3 => by
  have ej : va (swp zs j (j - 1)) j = va zs (j - 1) := swp_i _ _ _ (by omega) (by omega)
  have ej1 : va (swp zs j (j - 1)) (j - 1) = va zs j := swp_j _ _ _ (by omega)
  have eo : ∀ k, k ≠ j → k ≠ j - 1 → va (swp zs j (j - 1)) k = va zs k := fun k => swp_k zs j (j - 1) k
  refine ⟨fun ⟨h4, h5⟩ => ?_, fun h4 => ?_⟩
  · by_cases e1 : u = j
    · subst e1
      rw [ej, eo v (by omega) h5]
      exact (h (u - 1) v (by omega) (by omega) h3).1 ⟨by omega, by omega⟩
    · by_cases e2 : v = j
      · subst e2
        rw [ej, eo u e1 h4]
        exact (h u (v - 1) h1 (by omega) (by omega)).1 ⟨by omega, by omega⟩
      · rw [eo u e1 h4, eo v e2 h5]
        exact (h u v h1 h2 h3).1 ⟨e1, e2⟩
  · subst h4
    rw [ej1]
    by_cases e2 : v = j
    · subst e2; rw [ej]; omega
    · rw [eo v e2 (by omega)]
      exact (h j v (by omega) (by omega) h3).2 rfl
theorem Row.below {g N cap : Nat} {w0 w w' : World} {xs : List Nat} (h : Row g N cap w0 xs w) (hb : Kept w w') : Row g N cap w0 xs w' := by
  refine ⟨h.1, h.2.1, World.ownsRow.kept h.2.2.1 ⟨hb.os, hb.tape, hb.output, hb.size, fun k hk _ => hb.block k hk⟩ (Classical.em _), Below.trans h.2.2.2 (Below.mono hb ?_)⟩
  have := h.2.2.1.lt g rfl
  omega
theorem Row.drew {g N cap : Nat} {w0 w : World} {xs : List Nat} (h : Row g N cap w0 xs w) : Row g N cap w0 xs w.drew := ⟨h.1, h.2.1, h.2.2.1, ⟨h.2.2.2.os, h.2.2.2.tape, h.2.2.2.output, h.2.2.2.size, h.2.2.2.block⟩⟩
/-- a row, and two of its cells -/
theorem Row.at2 {g N cap j k : Nat} {w0 w : World} {xs : List Nat} (h : Row g N cap w0 xs w) (h1 : j < N) (h2 : k < N) :
    (w.cell? ⟨g, j, none⟩ = some (.complex .f32 (reP (va xs j)) (imP (va xs j))) ∧ w.cell? ⟨g, k, none⟩ = some (.complex .f32 (reP (va xs k)) (imP (va xs k)))) ∧ Row g N cap w0 xs w := ⟨⟨h.cell j h1, h.cell k h2⟩, h⟩
set_option maxRecDepth 100000 in
set_option maxHeartbeats 8000000 in
theorem insOk (g N cap a b : Nat) (hab : a ≤ b) (hb : b ≤ N) (hN : N ≤ 1000) (w0 : World) (xs : List Nat) (w : World) (R : Row g N cap w0 xs w) :
    Calls Try.prog 77 #[.slice (some ⟨g, 0, none⟩) N cap, .int .i64 (a : Int), .int .i64 (b : Int), .func (.func 58) #[] #[]] w fun e w' => ∃ ys, (∃ v, e = .returned v) ∧ Row g N cap w0 ys w' ∧ SwR a b xs ys ∧ Srt a b ys := by
  have R0 := Lib.hid R
  have HC := Lib.hid compareOk
  have hB := Lib.hid (And.intro hab (And.intro hb hN))
  have ha0 : (a : Int) ≤ 1000 := by omega
  have hb0 : (b : Int) ≤ 1000 := by omega
  have hN0 : (N : Int) ≤ 1000 := by omega
  have ha1 : (0 : Int) ≤ (a : Int) := by omega
  clear R hab hb hN
  go_enter Try.func77, Try.ntmps77
  go_wp2
  go_loopw [8] (fun vi wr => ∃ (i : Nat) (ys : List Nat), a + 1 ≤ i ∧ vi = .int .i64 (i : Int) ∧ Hid ((i ≤ b ∨ i = a + 1) ∧ Row g N cap w0 ys wr ∧ SwR a b xs ys ∧ Srt a i ys)) (fun vi _ => b - (intOf vi).toNat)
  case atStart => exact ⟨a + 1, xs, Nat.le_refl _, by go_num, Lib.hid ⟨.inr rfl, R0.out, SwR.refl _ _ _, fun u v h1 h2 h3 => by omega⟩⟩
  case round =>
    obtain ⟨i, ys, hi, rfl, H⟩ := hrel
    by_cases hlt : i < b
    · have hi0 : (i : Int) < (b : Int) := by omega
      have hi1 : (a : Int) + 1 ≤ (i : Int) := by omega
      obtain ⟨wo, rfl⟩ : ∃ wo : World, wo = wr := ⟨_, rfl⟩
      go_wp2
      go_loopw [9] (fun vj wr => ∃ (j : Nat) (zs : List Nat), a ≤ j ∧ j ≤ i ∧ vj = .int .i64 (j : Int) ∧ Hid (Row g N cap w0 zs wr ∧ SwR a b xs zs ∧ InsI a i j zs)) (fun vj _ => (intOf vj).toNat)
      case atStart => exact ⟨i, ys, by omega, Nat.le_refl _, rfl, Lib.hid ⟨H.out.2.1, H.out.2.2.1, InsI.start H.out.2.2.2⟩⟩
      case round =>
        obtain ⟨j, zs, hj1, hj2, rfl, HJ⟩ := hrel
        by_cases hj : a < j
        · have hjN : j < N := by have := hB.out; omega
          have c1 := HJ.out.1.cell j hjN
          have c2 := HJ.out.1.cell (j - 1) (by omega)
          have l1 := HJ.out.1.lt j hjN
          have l2 := HJ.out.1.lt (j - 1) (by omega)
          have HCC : Hid (∀ w1, ((w1.cell? ⟨g, j, none⟩ = some (.complex .f32 (reP (va zs j)) (imP (va zs j))) ∧ w1.cell? ⟨g, j - 1, none⟩ = some (.complex .f32 (reP (va zs (j - 1))) (imP (va zs (j - 1))))) ∧ Row g N cap w0 zs w1) → Calls Try.prog 58 #[.complex .f32 (reP (va zs j)) (imP (va zs j)), .complex .f32 (reP (va zs (j - 1))) (imP (va zs (j - 1)))] w1 fun e w2 => e = .returned (.int .i64 (cmpC (va zs j) (va zs (j - 1)))) ∧ ((w2.cell? ⟨g, j, none⟩ = some (.complex .f32 (reP (va zs j)) (imP (va zs j))) ∧ w2.cell? ⟨g, j - 1, none⟩ = some (.complex .f32 (reP (va zs (j - 1))) (imP (va zs (j - 1))))) ∧ Row g N cap w0 zs w2)) :=
            Lib.hid (fun w1 h1 => (HC.out _ _ l1 l2 w1).mono fun _ _ ⟨he, hk⟩ => ⟨he, (h1.2.below hk).at2 hjN (by omega)⟩)
          have HR := Lib.hid (HJ.out.1.drew.at2 (j := j) (k := j - 1) hjN (by omega))
          have q1 : (a : Int) < (j : Int) := by omega
          have q2 : (j : Int) < (N : Int) := by omega
          have q3 : ((j : Int) - 1).toNat = j - 1 := by omega
          have q5 : (1 : Int) ≤ (j : Int) := by omega
          have q6 : (j : Int) - 1 < (N : Int) := by omega
          have q7 := Lib.hid (IntWalk.i64_in ((j : Int) - 1) (by omega))
          by_cases hl : keyC (va zs j) < keyC (va zs (j - 1))
          · have hcn : decide (cmpC (va zs j) (va zs (j - 1)) < 0) = true := by rw [cmp_neg]; exact decide_eq_true hl
            have HL := Lib.hid hl
            clear hl
            go_wp2
            have q8 := q7.out
            go_region_held3 (fun w' => (w'.cell? ⟨g, j, none⟩ = some (.complex .f32 (reP (va zs j)) (imP (va zs j))) ∧ w'.cell? ⟨g, j - 1, none⟩ = some (.complex .f32 (reP (va zs (j - 1))) (imP (va zs (j - 1))))) ∧ Row g N cap w0 zs w') (first | assumption | exact HR.out) (first | (go_at_call 58; refine (HCC.out _ (by assumption)).mono ?_; rintro _ w2 ⟨rfl, H2⟩))
            have HQ := Lib.hid H2.2
            clear H2 c1 c2 q8
            go_wp2
            have c3 := HQ.out.cell j hjN
            have c4 := HQ.out.cell (j - 1) (by omega)
            have f3 := HQ.out.frozen j
            have f4 := HQ.out.frozen (j - 1)
            have hne : j ≠ j - 1 := by omega
            have hne' : j - 1 ≠ j := by omega
            go_region
            all_goals
              go_wp2
              go_roundw
              case rel => exact ⟨j - 1, swp zs j (j - 1), by omega, by omega, by go_num, Lib.hid ⟨by first | exact Row.swap HQ.out j (j - 1) hjN (by omega) | exact Row.swap (HQ.out.drewN 1) j (j - 1) hjN (by omega) | exact Row.drewN (Row.swap HQ.out j (j - 1) hjN (by omega)) 1, HJ.out.2.1.trans (SwR.swap ⟨by omega, by omega⟩ ⟨by omega, by omega⟩ (by rw [HQ.out.1]; have := hB.out; omega)), HJ.out.2.2.step hj hj2 (by rw [HQ.out.1]; have := hB.out; omega) HL.out⟩⟩
              case measure => simp [intOf]; omega
          · have hcn : decide (cmpC (va zs j) (va zs (j - 1)) < 0) = false := by rw [cmp_neg]; exact decide_eq_false hl
            have HS := Lib.hid (InsI.stop HJ.out.2.2 hj hj2 hl)
            clear hl
            go_wp2
            have q8 := q7.out
            go_region_held3 (fun w' => (w'.cell? ⟨g, j, none⟩ = some (.complex .f32 (reP (va zs j)) (imP (va zs j))) ∧ w'.cell? ⟨g, j - 1, none⟩ = some (.complex .f32 (reP (va zs (j - 1))) (imP (va zs (j - 1))))) ∧ Row g N cap w0 zs w') (first | assumption | exact HR.out) (first | (go_at_call 58; refine (HCC.out _ (by assumption)).mono ?_; rintro _ w2 ⟨rfl, H2⟩))
            have HQ := Lib.hid H2.2
            clear H2 c1 c2 q8
            go_wp2
            go_roundw
            case rel => exact ⟨i + 1, zs, by omega, by go_num, Lib.hid ⟨.inl (by omega), HQ.out, HJ.out.2.1, HS.out⟩⟩
            case measure => simp [intOf]; omega
        · obtain rfl : j = a := by omega
          have hd : decide ((j : Int) < (j : Int)) = false := decide_eq_false (by omega)
          go_wp2
          have HS := Lib.hid (InsI.stop0 HJ.out.2.2)
          go_quiet (fail)
          go_wp2
          go_roundw
          case rel => exact ⟨i + 1, zs, by omega, by go_num, Lib.hid ⟨.inl (by omega), HJ.out.1.drewN _, HJ.out.2.1, HS.out⟩⟩
          case measure => simp [intOf]; omega
    · have hi0 : decide ((i : Int) < (b : Int)) = false := decide_eq_false (by omega)
      have HS : Hid (Srt a b ys) := by
        rcases H.out.1 with h | h
        · exact Lib.hid (H.out.2.2.2.mono (Nat.le_refl _) (by omega))
        · exact Lib.hid (fun u v h1 h2 h3 => by omega)
      go_wp2
      go_end0
      exact ⟨ys, ⟨_, rfl⟩, H.out.2.1, H.out.2.2.1, HS.out⟩
end Go.Proofs.Ytbceiphiopdegaa.Pt
