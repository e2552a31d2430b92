/-
  The walks of the sums of narrow numbers on both sides, and of the law SumOf; no condition beside the length.
-/
import Derived.Test.YtjhmamkbdcfcoaaLists2
set_option linter.unusedSimpArgs false
set_option linter.unusedVariables false
namespace Go.Proofs.Ytjhmamkbdcfcoaa
open Go.RowKit

/-- what a sum from left to right can be: the first k numbers -/
def SumIs : List Nat → Nat → Nat → Prop
  | xs, 0, s => s = 0
  | xs, 1, s => eqn s (xs.getD 0 0)
  | xs, k + 2, s => ∃ t x w, SumIs xs (k + 1) t ∧ eqn x (xs.getD (k + 1) 0) ∧ s = arB .add .f32 t x w

theorem eqn_refl (x : Nat) : eqn x x := .inl rfl
theorem eqn_symm {x y : Nat} (h : eqn x y) : eqn y x := by rcases h with rfl | h; exact .inl rfl; exact .inr ⟨h.2, h.1⟩
theorem eqn_trans {x y z : Nat} (h : eqn x y) (h' : eqn y z) : eqn x z := by
  rcases h with rfl | h
  · exact h'
  · rcases h' with rfl | h'
    · exact .inr h
    · exact .inr ⟨h.1, h'.2⟩
theorem sum_eqn (xs : List Nat) : ∀ k s t, SumIs xs k s → SumIs xs k t → eqn s t := by
  intro k
  induction k with
  | zero => intro s t h h'; unfold SumIs at h h'; subst h; subst h'; exact eqn_refl _
  | succ k ih =>
    intro s t h h'
    cases k with
    | zero => exact eqn_trans h (eqn_symm h')
    | succ k =>
      obtain ⟨t1, x1, w1, a1, b1, rfl⟩ := h
      obtain ⟨t2, x2, w2, a2, b2, rfl⟩ := h'
      exact ar_eqn .add _ _ _ _ _ _ (ih _ _ a1 a2) (eqn_trans b1 (eqn_symm b2))
theorem sum_first (xs : List Nat) : SumIs xs 1 (xs.getD 0 0) := eqn_refl _
theorem sum_next (xs : List Nat) (k t : Nat) (w : World) (hk : ¬ k = 0) (h : SumIs xs k t) : SumIs xs (k + 1) (arB .add .f32 t (xs.getD k 0) w) := by
  cases k with
  | zero => exact absurd rfl hk
  | succ k => exact ⟨t, _, w, h, eqn_refl _, rfl⟩

set_option maxHeartbeats 1000000 in
theorem specSum (xs : List Nat) (g o n c : Nat) (w : World) (hn : n ≤ 256) (h1 : Holds32 w g o n xs) :
    Calls Try.prog 27 #[.slice (some ⟨g, o, none⟩) n c] w fun e w' => ∃ s, e = .returned (.tuple #[.float .f32 s, .int .i64 0]) ∧ SumIs xs n s ∧ Drawn w w' := by
  have ha := fun t x y w => run_ar (P := Try.prog) .add (by simp) t .f32 x y w
  have H1 := Lib.hid h1
  clear h1
  go_enter Try.func27, Try.ntmps27
  go_wp2
  go_loopw [4, 5] (fun s i wr => ∃ (k t : Nat), k ≤ n ∧ i = .int .i64 k ∧ s = .float .f32 t ∧ Hid (SumIs xs k t) ∧ Drawn w wr) (fun _ i _ => n - (intOf i).toNat)
  case atStart => exact ⟨0, 0, Nat.zero_le _, rfl, rfl, rfl, Drawn.refl _⟩
  case round =>
    obtain ⟨k, t, hk, rfl, rfl, HS, m, rfl⟩ := hrel
    by_cases hlt : k < n
    · by_cases h0 : k = 0
      · have e1 := H1.out k hlt
        have e2 : Hid (SumIs xs (k + 1) (xs.getD k 0)) := by subst h0; exact sum_first xs
        generalize xs.getD k 0 = x at *
        have e3 : ((k : Int) == 0) = true := by simp [h0]
        have H0 := Lib.hid h0
        have e4 : w.cell? ⟨g, o, none⟩ = some (.float .f32 x) := by subst h0; simpa using e1
        clear h0
        go_wp2
        go_roundw
        case rel => exact ⟨k + 1, _, by omega, by go_num, rfl, e2, by repeat (first | exact Drawn.refl _ | apply Drawn.arW | apply Drawn.drewN)⟩
        case measure => simp [intOf]; omega
      · have e1 := H1.out k hlt
        have e2 := fun w => Lib.hid (sum_next xs k t w h0 HS.out)
        generalize xs.getD k 0 = x at *
        have e3 : ((k : Int) == 0) = false := by simp [h0]
        clear h0
        have H2 := Lib.hid e2
        clear e2
        go_wp2
        go_roundw
        case rel => exact ⟨k + 1, _, by omega, by go_num, rfl, H2.out _, by repeat (first | exact Drawn.refl _ | apply Drawn.arW | apply Drawn.drewN)⟩
        case measure => simp [intOf]; omega
    · have e1 : SumIs xs n t := by have : k = n := by omega
                                   subst this; exact HS.out
      have H2 := Lib.hid e1
      clear e1
      go_wp2
      go_ret2
      exact ⟨_, rfl, H2.out, _, rfl⟩

set_option maxHeartbeats 1000000 in
theorem implSum1 (xs : List Nat) (g o n c : Nat) (w : World) (hn : n ≤ 256) (h1 : Holds32 w g o n xs) :
    Calls Try.prog 43 #[.slice (some ⟨g, o, none⟩) n c] w fun e w' => ∃ s, e = .returned (.float .f32 s) ∧ SumIs xs n s ∧ Drawn w w' := by
  have ha := fun t x y w => run_ar (P := Try.prog) .add (by simp) t .f32 x y w
  have H1 := Lib.hid h1
  clear h1
  go_enter Try.func43, Try.ntmps43
  go_wp2
  go_loopw [3, 8] (fun s i wr => ∃ (k t : Nat), k ≤ n ∧ i = .int .i64 k ∧ s = .float .f32 t ∧ Hid (SumIs xs k t) ∧ Drawn w wr) (fun _ i _ => n - (intOf i).toNat)
  case atStart => exact ⟨0, 0, Nat.zero_le _, rfl, rfl, rfl, Drawn.refl _⟩
  case round =>
    obtain ⟨k, t, hk, rfl, rfl, HS, m, rfl⟩ := hrel
    by_cases hlt : k < n
    · have e1 := H1.out k hlt
      by_cases h0 : k = 0
      · have e2 : Hid (SumIs xs (k + 1) (xs.getD k 0)) := by subst h0; exact sum_first xs
        generalize xs.getD k 0 = x at *
        have e3 : ((k : Int) == 0) = true := by simp [h0]
        clear h0
        go_wp2
        go_roundw
        case rel => exact ⟨k + 1, _, by omega, by go_num, rfl, e2, by repeat (first | exact Drawn.refl _ | apply Drawn.arW | apply Drawn.drewN)⟩
        case measure => simp [intOf]; omega
      · have e2 := fun w => Lib.hid (sum_next xs k t w h0 HS.out)
        generalize xs.getD k 0 = x at *
        have e3 : ((k : Int) == 0) = false := by simp [h0]
        clear h0
        have H2 := Lib.hid e2
        clear e2
        go_wp2
        go_roundw
        case rel => exact ⟨k + 1, _, by omega, by go_num, rfl, H2.out _, by repeat (first | exact Drawn.refl _ | apply Drawn.arW | apply Drawn.drewN)⟩
        case measure => simp [intOf]; omega
    · have e1 : SumIs xs n t := by have : k = n := by omega
                                   subst this; exact HS.out
      have H2 := Lib.hid e1
      clear e1
      go_wp2
      go_ret
      exact ⟨_, rfl, H2.out, _, rfl⟩
set_option maxHeartbeats 1000000 in
theorem implSum (xs : List Nat) (g o n c : Nat) (w : World) (hn : n ≤ 256) (h1 : Holds32 w g o n xs) :
    Calls Try.prog 29 #[.slice (some ⟨g, o, none⟩) n c] w fun e w' => ∃ s, e = .returned (.tuple #[.float .f32 s, .int .i64 0]) ∧ SumIs xs n s ∧ Drawn w w' := by
  have H1 := Lib.hid h1
  clear h1
  go_enter Try.func29, Try.ntmps29
  go_wp2_with (go_at_call 43; refine (implSum1 xs g o n c _ hn H1.out).mono ?_; rintro e w' ⟨s, rfl, hs, m, rfl⟩; have HS := Lib.hid hs; clear hs)
  go_ret2
  exact ⟨_, rfl, HS.out, _, rfl⟩
set_option maxHeartbeats 400000 in
theorem specSumBig (a : Option Addr) (n c : Nat) (w : World) (hn : 256 < n) :
    Calls Try.prog 27 #[.slice a n c] w fun e w' => e = .returned (.tuple #[.float .f32 0, .int .i64 3]) ∧ w = w' := by
  go_enter Try.func27, Try.ntmps27
  go_wp2
  go_ret2
  exact ⟨rfl, rfl⟩
set_option maxHeartbeats 400000 in
theorem implSumBig (a : Option Addr) (n c : Nat) (w : World) (hn : 256 < n) :
    Calls Try.prog 29 #[.slice a n c] w fun e w' => e = .returned (.tuple #[.float .f32 0, .int .i64 3]) ∧ w = w' := by
  go_enter Try.func29, Try.ntmps29
  go_wp2
  go_ret2
  exact ⟨rfl, rfl⟩
end Go.Proofs.Ytjhmamkbdcfcoaa
