/-
  Points as numbers: the order of points, both sides' comparisons.
-/
import Derived.Test.YtbceiphiopdegaaRow
set_option linter.unusedSimpArgs false
set_option linter.unusedVariables false
namespace Go.Proofs.Ytbceiphiopdegaa.Pt
open Go.RowKit

/-- a point is one number: the bits of its real part above those of its imaginary part -/
def B64 : Nat := 18446744073709551616
def reP (z : Nat) : Nat := z / 4294967296
def imP (z : Nat) : Nat := z % 4294967296
def mkz (a b : Nat) : Nat := a * 4294967296 + b
theorem reP_mk {a b : Nat} (h : b < 4294967296) : reP (mkz a b) = a := by unfold reP mkz; omega
theorem imP_mk {a b : Nat} (h : b < 4294967296) : imP (mkz a b) = b := by unfold imP mkz; omega
theorem mkz_lt {a b : Nat} (ha : a < 4294967296) (hb : b < 4294967296) : mkz a b < B64 := by unfold mkz B64; omega
theorem reP_lt {z : Nat} (h : z < B64) : reP z < 4294967296 := by unfold reP B64 at *; omega
theorem imP_lt (z : Nat) : imP z < 4294967296 := by unfold imP; omega
/-- the cell of a point -/
def cxv (z : Nat) : Value := .complex .f32 (reP z) (imP z)
theorem cxv_mk {a b : Nat} (h : b < 4294967296) : cxv (mkz a b) = .complex .f32 a b := by unfold cxv; rw [reP_mk h, imP_mk h]
/-- a point's place -/
def keyC (z : Nat) : Int := keyR (reP z) * 18446744073709551616 + keyR (imP z)
def ltC (x y : Nat) : Bool := decide (keyC x < keyC y)
def cmpC (x y : Nat) : Int := if cmpR (reP x) (reP y) = 0 then cmpR (imP x) (imP y) else cmpR (reP x) (reP y)
theorem keyR_rng {a : Nat} (h : a < 4294967296) : -4294967296 < keyR a ∧ keyR a ≤ 9223372036854775807 := by
  have := keyB_lt a h
  unfold keyR kNaN
  split <;> omega
theorem keyC_lt {x y : Nat} : keyC x < keyC y ↔ keyR (reP x) < keyR (reP y) ∨ keyR (reP x) = keyR (reP y) ∧ keyR (imP x) < keyR (imP y) := by
  have h1 := keyR_rng (imP_lt x)
  have h2 := keyR_rng (imP_lt y)
  unfold keyC
  constructor
  · intro h; omega
  · rintro (h | h) <;> omega
theorem keyC_eq {x y : Nat} : keyC x = keyC y ↔ keyR (reP x) = keyR (reP y) ∧ keyR (imP x) = keyR (imP y) := by
  have h1 := keyR_rng (imP_lt x)
  have h2 := keyR_rng (imP_lt y)
  unfold keyC
  constructor
  · intro h; omega
  · rintro ⟨h, h'⟩; omega
theorem cmpR_neg (a b : Nat) : cmpR a b < 0 ↔ keyR a < keyR b := by unfold cmpR; split; omega; split <;> omega
theorem cmpR_zero (a b : Nat) : cmpR a b = 0 ↔ keyR a = keyR b := by unfold cmpR; split; omega; split <;> omega
theorem cmp_neg {x y : Nat} : decide (cmpC x y < 0) = ltC x y := by
  unfold ltC
  rw [decide_eq_decide, keyC_lt]
  have h1 := cmpR_neg (reP x) (reP y)
  have h2 := cmpR_zero (reP x) (reP y)
  have h3 := cmpR_neg (imP x) (imP y)
  unfold cmpC
  split <;> omega
/-- the same point -/
def sameC (x y : Nat) : Bool := sameB (reP x) (reP y) && sameB (imP x) (imP y)
theorem sameB_key {a b : Nat} (ha : a < 4294967296) (hb : b < 4294967296) : sameB a b = decide (keyR a = keyR b) := by
  have h1 := keyB_lt a ha
  have h2 := keyB_lt b hb
  rw [Bool.eq_iff_iff, decide_eq_true_iff]
  constructor
  · intro h
    cases na : nanB a
    · rw [same_num a b na, beq_iff_eq] at h; rw [h]
    · rw [same_nan a b na] at h; rw [keyR_nan na, keyR_nan h]
  · intro h
    rcases keyR_eqn ha hb h with rfl | ⟨na, nb⟩
    · cases na : nanB a
      · rw [same_num a a na]; simp
      · rw [same_nan a a na, na]
    · rw [same_nan a b na, nb]
theorem sameC_key {x y : Nat} (hx : x < B64) (hy : y < B64) : sameC x y = decide (keyC x = keyC y) := by
  unfold sameC
  rw [sameB_key (reP_lt hx) (reP_lt hy), sameB_key (imP_lt x) (imP_lt y), Bool.eq_iff_iff, Bool.and_eq_true, decide_eq_true_iff, decide_eq_true_iff, decide_eq_true_iff, keyC_eq]
/-- the cells of a slice's row of points -/
def Holds32 (w : World) (g o n : Nat) (xs : List Nat) : Prop := ∀ i, i < n → w.cell? ⟨g, o + i, none⟩ = some (.complex .f32 (reP (xs.getD i 0)) (imP (xs.getD i 0)))
theorem Holds32.kept {w w' : World} {g o n : Nat} {xs : List Nat} (h : Holds32 w g o n xs) (hk : Kept w w') : Holds32 w' g o n xs := fun i hi => hk.cell (h i hi)
def Src (w : World) (a : Option Addr) (n : Nat) (xs : List Nat) : Prop :=
  xs.length = n ∧ (∀ x ∈ xs, x < B64) ∧ (n = 0 ∨ ∃ g o, a = some ⟨g, o, none⟩ ∧ Holds32 w g o n xs)
theorem Src.kept {w w' : World} {a : Option Addr} {n : Nat} {xs : List Nat} (h : Src w a n xs) (hk : Kept w w') : Src w' a n xs := by
  obtain ⟨h1, h0, h2 | ⟨g, o, h3, h4⟩⟩ := h
  · exact ⟨h1, h0, .inl h2⟩
  · exact ⟨h1, h0, .inr ⟨g, o, h3, h4.kept hk⟩⟩

set_option maxHeartbeats 4000000 in
theorem or2 (g : Nat) (x y : Int) (w : World) (h0 : w.cell? ⟨g, 0, none⟩ = some (.int .i64 x)) (h1 : w.cell? ⟨g, 1, none⟩ = some (.int .i64 y)) :
    Calls Try.prog 71 #[.slice (some ⟨g, 0, none⟩) 2 2] w fun e w' => e = .returned (.int .i64 (if x = 0 then y else x)) ∧ w = w' := by
  by_cases hx : x = 0
  · subst hx
    rw [if_pos rfl]
    by_cases hy : y = 0
    · subst hy
      go_enter Try.func71, Try.ntmps71
      go_wp2
      refine wp_loop_rounds 3 ?_; rw [rounds_succ]
      go_wp2
      rw [rounds_succ]
      go_wp2
      rw [rounds_succ]
      go_wp2
      go_ret
      exact ⟨rfl, rfl⟩
    · have hy' : (y == 0) = false := beq_eq_false_iff_ne.2 hy
      have hy2 : (y != 0) = true := bne_iff_ne.2 hy
      clear hy
      go_enter Try.func71, Try.ntmps71
      go_wp2
      refine wp_loop_rounds 3 ?_; rw [rounds_succ]
      go_wp2
      rw [rounds_succ]
      go_wp2
      go_ret
      exact ⟨rfl, rfl⟩
  · rw [if_neg hx]
    have hx' : (x == 0) = false := beq_eq_false_iff_ne.2 hx
    have hx2 : (x != 0) = true := bne_iff_ne.2 hx
    clear hx
    go_enter Try.func71, Try.ntmps71
    go_wp2
    refine wp_loop_rounds 3 ?_; rw [rounds_succ]
    go_wp2
    go_ret
    exact ⟨rfl, rfl⟩
set_option maxHeartbeats 4000000 in
theorem compareC (x1 x2 y1 y2 : Nat) (h1 : x1 < 4294967296) (h2 : x2 < 4294967296) (h3 : y1 < 4294967296) (h4 : y2 < 4294967296) (w : World) :
    Calls Try.prog 58 #[.complex .f32 x1 x2, .complex .f32 y1 y2] w fun e w' => e = .returned (.int .i64 (if cmpR x1 y1 = 0 then cmpR x2 y2 else cmpR x1 y1)) ∧ Kept w w' := by
  have HA := Lib.hid (compareOk x1 y1 h1 h3)
  have HB := Lib.hid (compareOk x2 y2 h2 h4)
  clear h1 h2 h3 h4
  generalize cmpR x1 y1 = c1 at *
  generalize cmpR x2 y2 = c2 at *
  have HO : Hid (∀ t, Calls Try.prog 71 #[.slice (some ⟨w.heap.size, 0, none⟩) 2 2] (w.alloc (.cells #[.int .i64 c1, .int .i64 c2] t)) fun e w' => e = .returned (.int .i64 (if c1 = 0 then c2 else c1)) ∧ w.alloc (.cells #[.int .i64 c1, .int .i64 c2] t) = w') :=
    Lib.hid (fun t => or2 _ c1 c2 _ (World.cell?_alloc_at _ _ _ _ rfl) (World.cell?_alloc_at _ _ _ _ rfl))
  generalize (if c1 = 0 then c2 else c1) = r at *
  go_enter Try.func58, Try.ntmps58
  go_wp2_with fail
  refine (HA.out _).mono ?_
  rintro _ _ ⟨rfl, rfl⟩
  go_wp2_with fail
  refine (HB.out _).mono ?_
  rintro _ _ ⟨rfl, rfl⟩
  go_wp2_with fail
  refine (HO.out _).mono ?_
  rintro _ _ ⟨rfl, rfl⟩
  go_wp2
  go_ret
  exact ⟨rfl, (Kept.refl w).alloc _⟩
theorem compareOk (x y : Nat) (hx : x < B64) (hy : y < B64) (w : World) :
    Calls Try.prog 58 #[.complex .f32 (reP x) (imP x), .complex .f32 (reP y) (imP y)] w fun e w' => e = .returned (.int .i64 (cmpC x y)) ∧ Kept w w' :=
  compareC _ _ _ _ (reP_lt hx) (imP_lt x) (reP_lt hy) (imP_lt y) w
set_option maxHeartbeats 4000000 in
theorem beforeOk (x y : Nat) (hx : x < B64) (hy : y < B64) (w : World) :
    Calls Try.prog 59 #[.complex .f32 (reP x) (imP x), .complex .f32 (reP y) (imP y)] w fun e w' => e = .returned (.bool (ltC x y)) ∧ w = w' := by
  have HA := Lib.hid (Go.Proofs.Ytbceiphiopdegaa.beforeOk (reP x) (reP y) (reP_lt hx) (reP_lt hy))
  have HB := Lib.hid (Go.Proofs.Ytbceiphiopdegaa.beforeOk (reP y) (reP x) (reP_lt hy) (reP_lt hx))
  have HC := Lib.hid (Go.Proofs.Ytbceiphiopdegaa.beforeOk (imP x) (imP y) (imP_lt x) (imP_lt y))
  have hk : Hid (keyC x < keyC y ↔ keyR (reP x) < keyR (reP y) ∨ keyR (reP x) = keyR (reP y) ∧ keyR (imP x) < keyR (imP y)) := Lib.hid keyC_lt
  by_cases h1 : keyR (reP x) < keyR (reP y)
  · have e : ltC x y = true := decide_eq_true (hk.out.2 (.inl h1))
    rw [show ltR (reP x) (reP y) = true from decide_eq_true h1] at HA
    rw [e]
    clear h1 e hx hy
    go_enter Try.func59, Try.ntmps59
    go_wp2_with fail
    refine (HA.out _).mono ?_
    rintro _ _ ⟨rfl, rfl⟩
    go_wp2
    go_ret
    exact ⟨rfl, rfl⟩
  · rw [show ltR (reP x) (reP y) = false from decide_eq_false h1] at HA
    by_cases h2 : keyR (reP y) < keyR (reP x)
    · have e : ltC x y = false := decide_eq_false (fun h => by have := hk.out.1 h; omega)
      rw [show ltR (reP y) (reP x) = true from decide_eq_true h2] at HB
      rw [e]
      clear h1 h2 e hx hy
      go_enter Try.func59, Try.ntmps59
      go_wp2_with fail
      refine (HA.out _).mono ?_
      rintro _ _ ⟨rfl, rfl⟩
      go_wp2_with fail
      refine (HB.out _).mono ?_
      rintro _ _ ⟨rfl, rfl⟩
      go_wp2
      go_ret
      exact ⟨rfl, rfl⟩
    · have e : ltC x y = ltR (imP x) (imP y) := by
        unfold ltC ltR
        rw [decide_eq_decide]
        have := hk.out
        constructor
        · intro h; have := this.1 h; omega
        · intro h; exact this.2 (.inr ⟨by omega, h⟩)
      rw [show ltR (reP y) (reP x) = false from decide_eq_false h2] at HB
      rw [e]
      clear h1 h2 e hx hy
      go_enter Try.func59, Try.ntmps59
      go_wp2_with fail
      refine (HA.out _).mono ?_
      rintro _ _ ⟨rfl, rfl⟩
      go_wp2_with fail
      refine (HB.out _).mono ?_
      rintro _ _ ⟨rfl, rfl⟩
      go_wp2_with fail
      refine (HC.out _).mono ?_
      rintro _ _ ⟨rfl, rfl⟩
      go_wp2
      go_ret
      exact ⟨rfl, rfl⟩
set_option maxHeartbeats 4000000 in
theorem implSameP (x y : Nat) (hx : x < B64) (hy : y < B64) (w : World) :
    Calls Try.prog 38 #[.complex .f32 (reP x) (imP x), .complex .f32 (reP y) (imP y)] w fun e w' => e = .returned (.bool (sameC x y)) ∧ w = w' := by
  have HA := Lib.hid (implSame (reP x) (reP y) (reP_lt hx) (reP_lt hy))
  have HB := Lib.hid (implSame (imP x) (imP y) (imP_lt x) (imP_lt y))
  unfold sameC
  clear hx hy
  cases h : sameB (reP x) (reP y)
  all_goals
    rw [h] at HA
    clear h
    go_enter Try.func38, Try.ntmps38
    go_wp2_with fail
    refine (HA.out _).mono ?_
    rintro _ _ ⟨rfl, rfl⟩
  · go_wp2
    go_ret
    exact ⟨rfl, rfl⟩
  · go_wp2_with fail
    refine (HB.out _).mono ?_
    rintro _ _ ⟨rfl, rfl⟩
    go_wp2
    go_ret
    exact ⟨rfl, rfl⟩
set_option maxHeartbeats 4000000 in
theorem l02SameP (x y : Nat) (w : World) :
    Calls Try.prog 39 #[.complex .f32 (reP x) (imP x), .complex .f32 (reP y) (imP y)] w fun e w' => e = .returned (.bool (sameC x y)) ∧ w = w' := by
  have HA := Lib.hid (specSame1 (reP x) (reP y))
  have HB := Lib.hid (specSame1 (imP x) (imP y))
  unfold sameC
  cases h : sameB (reP x) (reP y)
  all_goals
    rw [h] at HA
    clear h
    go_enter Try.func39, Try.ntmps39
    go_wp2_with fail
    refine (HA.out _).mono ?_
    rintro _ _ ⟨rfl, rfl⟩
  · go_wp2
    go_ret
    exact ⟨rfl, rfl⟩
  · go_wp2_with fail
    refine (HB.out _).mono ?_
    rintro _ _ ⟨rfl, rfl⟩
    go_wp2
    go_ret
    exact ⟨rfl, rfl⟩
set_option maxHeartbeats 4000000 in
theorem specSameP (x y : Nat) (w : World) :
    Calls Try.prog 22 #[.complex .f32 (reP x) (imP x), .complex .f32 (reP y) (imP y)] w fun e w' => e = .returned (.bool (sameC x y)) ∧ w = w' := by
  have HA := Lib.hid (l02SameP x y)
  go_enter Try.func22, Try.ntmps22
  go_wp2_with fail
  refine (HA.out _).mono ?_
  rintro _ _ ⟨rfl, rfl⟩
  go_wp2
  go_ret
  exact ⟨rfl, rfl⟩
end Go.Proofs.Ytbceiphiopdegaa.Pt
