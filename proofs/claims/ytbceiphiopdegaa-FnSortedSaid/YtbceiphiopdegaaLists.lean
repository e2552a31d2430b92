/-
  The walks over slices of narrow numbers: eqFloat32S, toFloat32S; no condition beside the lengths.
-/
import Derived.Test.YtbceiphiopdegaaCplx
import Derived.Test.YtbceiphiopdegaaFrame
import Derived.RegionTactic
import Derived.ChangeAlike
import Derived.Deep.RegionWith
import Derived.Deep.RegionHeld3
import Derived.Lib.Hide
set_option linter.unusedSimpArgs false
set_option linter.unusedVariables false
namespace Go.Proofs.Ytbceiphiopdegaa
open Go.RowKit

/-- some draws later -/
def Drawn (w w' : World) : Prop := ∃ m, w' = w.drewN m
theorem Drawn.refl (w : World) : Drawn w w := ⟨0, rfl⟩
theorem Drawn.drewN {w w' : World} (h : Drawn w w') (m : Nat) : Drawn w (w'.drewN m) := by obtain ⟨n, rfl⟩ := h; exact ⟨n + m, World.drewN_drewN _ _ _⟩
theorem Drawn.cvW {w w' : World} (h : Drawn w w') (a : Nat) : Drawn w (cvW a w') := by obtain ⟨n, hn⟩ := cvW_is a w'; rw [hn]; exact h.drewN n
theorem Drawn.arW {w w' : World} (h : Drawn w w') (op : BinOp) (k : FloatKind) (x y : Nat) : Drawn w (arW op k x y w') := by obtain ⟨n, hn⟩ := arW_is op k x y w'; rw [hn]; exact h.drewN n
theorem Kept.drawn {w w1 w2 : World} (h : Kept w w1) (h' : Drawn w1 w2) : Kept w w2 := by obtain ⟨n, rfl⟩ := h'; exact h.drewN n
theorem Drawn.grown {w w' : World} (h : Drawn w w') : Grown w w' := by obtain ⟨n, rfl⟩ := h; exact grown_drewN (Grown.refl _) n

set_option maxHeartbeats 1000000 in
theorem eqF (xs ys : List Nat) (g o g' o' n c c' : Nat) (w : World) (hn : n ≤ 1048576) (h1 : Holds32 w g o n xs) (h2 : Holds32 w g' o' n ys) (hE : ∀ i, i < n → eqn (xs.getD i 0) (ys.getD i 0)) :
    Calls Try.prog 8 #[.slice (some ⟨g, o, none⟩) n c, .slice (some ⟨g', o', none⟩) n c'] w fun e w' => e = .returned (.bool true) ∧ Drawn w w' := by
  have hc := fun a w => run_cv (P := Try.prog) 34 51 a w (by kernel_rfl) Try.underlying51
  have H1 := Lib.hid h1
  have H2 := Lib.hid h2
  have HE := Lib.hid hE
  clear h1 h2 hE
  go_enter Try.func8, Try.ntmps8
  go_wp2
  go_loopw [5] (fun i wr => ∃ k : Nat, k ≤ n ∧ i = .int .i64 k ∧ Drawn w wr) (fun i _ => n - (intOf i).toNat)
  case atStart => exact ⟨0, Nat.zero_le _, rfl, Drawn.refl _⟩
  case round =>
    obtain ⟨k, hk, rfl, m, rfl⟩ := hrel
    by_cases hlt : k < n
    · have e1 := H1.out k hlt
      have e2 := H2.out k hlt
      have e3 := HE.out k hlt
      generalize xs.getD k 0 = x at *
      generalize ys.getD k 0 = y at *
      have HE' := Lib.hid e3
      clear e3
      go_wp2
      go_region_with (go_at_call 27; refine (cv2 _ _ HE'.out _ _ _).mono ?_; rintro e w' ⟨rfl, rfl⟩)
      all_goals
        go_wp2
        go_roundw
        case rel => exact ⟨k + 1, by omega, by go_num, by repeat (first | exact Drawn.refl _ | apply Drawn.cvW | apply Drawn.drewN)⟩
        case measure => simp [intOf]; omega
    · go_wp2
      go_ret
      exact ⟨rfl, _, rfl⟩

end Go.Proofs.Ytbceiphiopdegaa
