/-
  The walks of the sums of products on both sides, and of the law DotOf; no condition beside the lengths.
-/
import Derived.Test.YtjhmamkbdcfcoaaLists4
import Derived.OwnWalk
set_option linter.unusedSimpArgs false
set_option linter.unusedVariables false
namespace Go.Proofs.Ytjhmamkbdcfcoaa
open Go.RowKit

/-- what a sum of terms from left to right can be, the i-th term being one of those that T lets -/
def SumP (T : Nat → Nat → Prop) : Nat → Nat → Prop
  | 0, s => s = 0
  | 1, s => T 0 s
  | k + 2, s => ∃ t x w, SumP T (k + 1) t ∧ T (k + 1) x ∧ s = arB .add .f32 t x w
theorem sumP_eqn (T : Nat → Nat → Prop) (hT : ∀ i x y, T i x → T i y → eqn x y) : ∀ k s t, SumP T k s → SumP T k t → eqn s t := by
  intro k
  induction k with
  | zero => intro s t h h'; unfold SumP at h h'; subst h; subst h'; exact eqn_refl _
  | succ k ih =>
    intro s t h h'
    cases k with
    | zero => exact hT 0 s t h h'
    | succ k =>
      obtain ⟨t1, x1, w1, a1, b1, rfl⟩ := h
      obtain ⟨t2, x2, w2, a2, b2, rfl⟩ := h'
      exact ar_eqn .add _ _ _ _ _ _ (ih _ _ a1 a2) (hT _ _ _ b1 b2)
theorem sumP_next (T : Nat → Nat → Prop) (k t x : Nat) (w : World) (hk : ¬ k = 0) (h : SumP T k t) (hx : T k x) : SumP T (k + 1) (arB .add .f32 t x w) := by
  cases k with
  | zero => exact absurd rfl hk
  | succ k => exact ⟨t, x, w, h, hx, rfl⟩
/-- a product of two lists at a place -/
def DotT (xs ys : List Nat) (i x : Nat) : Prop := ∃ w, eqn x (arB .mul .f32 (xs.getD i 0) (ys.getD i 0) w)
theorem dotT_eqn (xs ys : List Nat) (i x y : Nat) (h : DotT xs ys i x) (h' : DotT xs ys i y) : eqn x y := by
  obtain ⟨w, h⟩ := h; obtain ⟨w', h'⟩ := h'
  exact eqn_trans h (eqn_trans (ar_eqn .mul _ _ _ _ w w' (eqn_refl _) (eqn_refl _)) (eqn_symm h'))
theorem dotT_mk (xs ys : List Nat) (i : Nat) (w : World) : DotT xs ys i (arB .mul .f32 (xs.getD i 0) (ys.getD i 0) w) := ⟨w, eqn_refl _⟩
theorem sum_of_list (xs ys zs : List Nat) (n : Nat) (hz : ∀ i, i < n → DotT xs ys i (zs.getD i 0)) : ∀ k s, k ≤ n → SumIs zs k s → SumP (DotT xs ys) k s := by
  intro k
  induction k with
  | zero => intro s _ h; exact h
  | succ k ih =>
    intro s hk h
    cases k with
    | zero => obtain ⟨w, hw⟩ := hz 0 (by omega); exact ⟨w, eqn_trans h hw⟩
    | succ k =>
      obtain ⟨t, x, w, h1, h2, rfl⟩ := h
      obtain ⟨w', hw⟩ := hz (k + 1) (by omega)
      exact ⟨t, x, w, ih t (by omega) h1, ⟨w', eqn_trans h2 hw⟩, rfl⟩

/-! ### the code of two lists -/
def twoB (n m : Nat) : Int := if 256 < n ∨ 256 < m then 3 else if n = m then 0 else 2
set_option maxHeartbeats 400000 in
theorem specTwo (a b : Option Addr) (n m c d : Nat) (w : World) :
    Calls Try.prog 44 #[.slice a n c, .slice b m d] w fun e w' => e = .returned (.int .i64 (twoB n m)) ∧ w = w' := by
  by_cases h1 : 256 < n
  · have e1 : twoB n m = 3 := by unfold twoB; rw [if_pos (.inl h1)]
    rw [e1]; clear e1
    go_enter Try.func44, Try.ntmps44
    go_wp2
    go_ret
    exact ⟨rfl, rfl⟩
  · by_cases h2 : 256 < m
    · have e1 : twoB n m = 3 := by unfold twoB; rw [if_pos (.inr h2)]
      rw [e1]; clear e1
      have h1' : decide (256 < n) = false := by simpa using h1
      go_enter Try.func44, Try.ntmps44
      go_wp2
      go_ret
      exact ⟨rfl, rfl⟩
    · by_cases h3 : n = m
      · have e1 : twoB n m = 0 := by unfold twoB; rw [if_neg (by omega), if_pos h3]
        rw [e1]; clear e1
        subst h3
        go_enter Try.func44, Try.ntmps44
        go_wp2
        go_ret
        exact ⟨rfl, rfl⟩
      · have e1 : twoB n m = 2 := by unfold twoB; rw [if_neg (by omega), if_neg h3]
        rw [e1]; clear e1
        have h4 : ((n : Int) != (m : Int)) = true := by simp; omega
        clear h3
        go_enter Try.func44, Try.ntmps44
        go_wp2
        go_ret
        exact ⟨rfl, rfl⟩
set_option maxHeartbeats 400000 in
theorem implTwo (a b : Option Addr) (n m c d : Nat) (w : World) :
    Calls Try.prog 45 #[.slice a n c, .slice b m d] w fun e w' => e = .returned (.int .i64 (twoB n m)) ∧ w = w' := by
  by_cases h1 : 256 < n
  · have e1 : twoB n m = 3 := by unfold twoB; rw [if_pos (.inl h1)]
    rw [e1]; clear e1
    go_enter Try.func45, Try.ntmps45
    go_wp2
    go_ret
    exact ⟨rfl, rfl⟩
  · by_cases h2 : 256 < m
    · have e1 : twoB n m = 3 := by unfold twoB; rw [if_pos (.inr h2)]
      rw [e1]; clear e1
      have h1' : decide (256 < n) = false := by simpa using h1
      go_enter Try.func45, Try.ntmps45
      go_wp2
      go_ret
      exact ⟨rfl, rfl⟩
    · by_cases h3 : n = m
      · have e1 : twoB n m = 0 := by unfold twoB; rw [if_neg (by omega), if_pos h3]
        rw [e1]; clear e1
        subst h3
        go_enter Try.func45, Try.ntmps45
        go_wp2
        go_ret
        exact ⟨rfl, rfl⟩
      · have e1 : twoB n m = 2 := by unfold twoB; rw [if_neg (by omega), if_neg h3]
        rw [e1]; clear e1
        have h4 : ((n : Int) != (m : Int)) = true := by simp; omega
        clear h3
        go_enter Try.func45, Try.ntmps45
        go_wp2
        go_ret
        exact ⟨rfl, rfl⟩

/-! ### the sums -/
theorem twoB_zero (n : Nat) (hn : n ≤ 256) : twoB n n = 0 := by unfold twoB; rw [if_neg (by omega), if_pos rfl]
set_option maxHeartbeats 1000000 in
theorem specDot (xs ys : List Nat) (g g' n : Nat) (w : World) (hn : n ≤ 256) (h1 : Holds32 w g 0 n xs) (h2 : Holds32 w g' 0 n ys) :
    Calls Try.prog 32 #[.slice (some ⟨g, 0, none⟩) n n, .slice (some ⟨g', 0, none⟩) n n] w fun e w' => ∃ s, e = .returned (.tuple #[.float .f32 s, .int .i64 0]) ∧ SumP (DotT xs ys) n s ∧ Drawn w w' := by
  have ha := fun t x y w => run_ar (P := Try.prog) .add (by simp) t .f32 x y w
  have hm := fun t x y w => run_ar (P := Try.prog) .mul (by simp) t .f32 x y w
  have ht := twoB_zero n hn
  have H1 := Lib.hid h1
  have H2 := Lib.hid h2
  clear h1 h2
  go_enter Try.func32, Try.ntmps32
  go_wp2_with (go_at_call 44; refine (specTwo _ _ _ _ _ _ _).mono ?_; rintro e w' ⟨rfl, rfl⟩)
  go_loopw [7, 8] (fun s i wr => ∃ (k t : Nat), k ≤ n ∧ i = .int .i64 k ∧ s = .float .f32 t ∧ Hid (SumP (DotT xs ys) k t) ∧ Drawn w wr) (fun _ i _ => n - (intOf i).toNat)
  case atStart => exact ⟨0, 0, Nat.zero_le _, rfl, rfl, rfl, Drawn.refl _⟩
  case round =>
    obtain ⟨k, t, hk, rfl, rfl, HS, m, rfl⟩ := hrel
    by_cases hlt : k < n
    · have e1 := H1.out k hlt
      have e2 := H2.out k hlt
      rw [Nat.zero_add] at e1 e2
      have e3 := fun w => Lib.hid (dotT_mk xs ys k w)
      by_cases h0 : k = 0
      · have e5 : Hid (∀ x, DotT xs ys k x → SumP (DotT xs ys) (k + 1) x) := by subst h0; exact fun x hx => hx
        generalize xs.getD k 0 = x at *
        generalize ys.getD k 0 = y at *
        have e6 : ((k : Int) == 0) = true := by simp [h0]
        have H3 := Lib.hid e3
        clear h0 e3
        go_wp2
        go_region
        all_goals
          go_wp2
          go_roundw
          case rel => exact ⟨k + 1, _, by omega, by go_num, rfl, e5.out _ (H3.out _).out, by repeat (first | exact Drawn.refl _ | apply Drawn.arW | apply Drawn.drewN)⟩
          case measure => simp [intOf]; omega
      · have e5 : Hid (∀ x w, DotT xs ys k x → SumP (DotT xs ys) (k + 1) (arB .add .f32 t x w)) := fun x w hx => sumP_next _ k t x w h0 HS.out hx
        generalize xs.getD k 0 = x at *
        generalize ys.getD k 0 = y at *
        have e6 : ((k : Int) == 0) = false := by simp [h0]
        have H3 := Lib.hid e3
        clear h0 e3
        go_wp2
        go_region
        all_goals
          go_wp2
          go_roundw
          case rel => exact ⟨k + 1, _, by omega, by go_num, rfl, e5.out _ _ (H3.out _).out, by repeat (first | exact Drawn.refl _ | apply Drawn.arW | apply Drawn.drewN)⟩
          case measure => simp [intOf]; omega
    · have e1 : SumP (DotT xs ys) n t := by have : k = n := by omega
                                            subst this; exact HS.out
      have H3 := Lib.hid e1
      clear e1
      go_wp2
      go_ret2
      exact ⟨_, rfl, H3.out, _, rfl⟩
end Go.Proofs.Ytjhmamkbdcfcoaa
