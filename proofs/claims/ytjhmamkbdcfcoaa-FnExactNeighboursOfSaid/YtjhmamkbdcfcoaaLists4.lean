/-
  The law SumOf walked: whatever slice comes in; no condition beside its length.
-/
import Derived.Test.YtjhmamkbdcfcoaaLists3
set_option linter.unusedSimpArgs false
set_option linter.unusedVariables false
namespace Go.Proofs.Ytjhmamkbdcfcoaa
open Go.RowKit

theorem holds_new (w : World) (xs : List Nat) (n : Nat) (hl : xs.length = n) (t : TypeId) : Holds32 (w.alloc (.cells (fl xs) t)) w.heap.size 0 n xs := by
  intro i hi
  rw [Nat.zero_add, World.cell?_alloc_at (fl xs) t _ i rfl, fl_get, List.getElem?_eq_getElem (by omega)]
  simp [List.getD, List.getElem?_eq_getElem (show i < xs.length by omega)]

theorem toF_any (a : Option Addr) (n c : Nat) (xs : List Nat) (w : World) (hn : n ≤ 1048576) (h : Src w a n xs) :
    Calls Try.prog 28 #[.slice a n c] w fun e w' => ∃ g, e = .returned (.slice (some ⟨g, 0, none⟩) n n) ∧ Holds32 w' g 0 n xs ∧ Kept w w' := by
  obtain ⟨h1, _, h2 | ⟨g, o, h3, h4⟩⟩ := h
  · subst h2
    refine (toF0 a c w).mono ?_
    rintro e w' ⟨rfl, rfl⟩
    exact ⟨_, rfl, fun i hi => absurd hi (Nat.not_lt_zero _), (Kept.refl w).alloc _⟩
  · subst h3
    refine (toF xs g o n c w hn h4 h1).mono ?_
    rintro e w' ⟨rfl, rfl⟩
    exact ⟨_, rfl, holds_new w xs n h1 _, (Kept.refl w).alloc _⟩
theorem eqF_self (xs : List Nat) (g g' n : Nat) (w : World) (hn : n ≤ 1048576) (h1 : Holds32 w g 0 n xs) (h2 : Holds32 w g' 0 n xs) :
    Calls Try.prog 31 #[.slice (some ⟨g, 0, none⟩) n n, .slice (some ⟨g', 0, none⟩) n n] w fun e w' => e = .returned (.bool true) ∧ Drawn w w' :=
  eqF xs xs g 0 g' 0 n n n w hn h1 h2 (fun i _ => eqn_refl _)

/-- one statement for both sides: a sum of at most 256 numbers, or the limit -/
def SumR (xs : List Nat) (n s : Nat) (code : Int) : Prop := n ≤ 256 ∧ SumIs xs n s ∧ code = 0 ∨ 256 < n ∧ s = 0 ∧ code = 3
theorem sumR_eqn (xs : List Nat) (n s t : Nat) (c d : Int) (h : SumR xs n s c) (h' : SumR xs n t d) : eqn s t ∧ c = d := by
  rcases h with ⟨h1, h2, h3⟩ | ⟨h1, h2, h3⟩ <;> rcases h' with ⟨k1, k2, k3⟩ | ⟨k1, k2, k3⟩
  · exact ⟨sum_eqn xs n s t h2 k2, by omega⟩
  · omega
  · omega
  · exact ⟨by rw [h2, k2]; exact eqn_refl _, by omega⟩
theorem specSumAny (xs : List Nat) (g n : Nat) (w : World) (h1 : Holds32 w g 0 n xs) :
    Calls Try.prog 27 #[.slice (some ⟨g, 0, none⟩) n n] w fun e w' => ∃ s code, e = .returned (.tuple #[.float .f32 s, .int .i64 code]) ∧ SumR xs n s code ∧ Drawn w w' := by
  by_cases hn : n ≤ 256
  · refine (specSum xs g 0 n n w hn h1).mono ?_
    rintro e w' ⟨s, rfl, hs, hd⟩
    exact ⟨s, 0, rfl, .inl ⟨hn, hs, rfl⟩, hd⟩
  · refine (specSumBig _ n n w (by omega)).mono ?_
    rintro e w' ⟨rfl, rfl⟩
    exact ⟨0, 3, rfl, .inr ⟨by omega, rfl, rfl⟩, Drawn.refl _⟩
theorem implSumAny (xs : List Nat) (g n : Nat) (w : World) (h1 : Holds32 w g 0 n xs) :
    Calls Try.prog 29 #[.slice (some ⟨g, 0, none⟩) n n] w fun e w' => ∃ s code, e = .returned (.tuple #[.float .f32 s, .int .i64 code]) ∧ SumR xs n s code ∧ Drawn w w' := by
  by_cases hn : n ≤ 256
  · refine (implSum xs g 0 n n w hn h1).mono ?_
    rintro e w' ⟨s, rfl, hs, hd⟩
    exact ⟨s, 0, rfl, .inl ⟨hn, hs, rfl⟩, hd⟩
  · refine (implSumBig _ n n w (by omega)).mono ?_
    rintro e w' ⟨rfl, rfl⟩
    exact ⟨0, 3, rfl, .inr ⟨by omega, rfl, rfl⟩, Drawn.refl _⟩

set_option maxHeartbeats 1000000 in
theorem sumLaw (a : Option Addr) (n c : Nat) (xs : List Nat) (w : World) (hm : n ≤ 9223372036854775807) (h : Src w a n xs) :
    Calls Try.prog 8 #[.slice a n c] w fun e w' => e = .returned (.bool true) ∧ Below w.heap.size w w' := by
  have HH := Lib.hid h
  clear h
  have hc := fun a w => run_cv (P := Try.prog) 29 53 a w (by kernel_rfl) Try.underlying53
  by_cases hn : n ≤ 1048576
  · go_enter Try.func8, Try.ntmps8
    go_wp2_with fail
    refine (toF_any a n c xs _ hn HH.out).mono ?_
    rintro e w1 ⟨g1, rfl, hh1, hk1⟩
    have A1 := Lib.hid hh1; have K1 := Lib.hid hk1; clear hh1 hk1
    go_wp2_with fail
    refine (specSumAny xs g1 n _ A1.out).mono ?_
    rintro e w2 ⟨s, code, rfl, hs, hd⟩
    have K2 := Lib.hid (K1.out.drawn hd); have S2 := Lib.hid hs; clear hs hd
    go_wp2_with fail
    refine (toF_any a n c xs _ hn (HH.out.kept K2.out)).mono ?_
    rintro e w3 ⟨g3, rfl, hh3, hk3⟩
    have A3 := Lib.hid hh3; have K3 := Lib.hid (K2.out.trans hk3); clear hh3 hk3
    go_wp2_with fail
    refine (implSumAny xs g3 n _ A3.out).mono ?_
    rintro e w4 ⟨t, code', rfl, ht, hd⟩
    have K4 := Lib.hid (K3.out.drawn hd); have A4 := Lib.hid (A3.out.kept ((Kept.refl _).drawn hd))
    have hcode := (sumR_eqn xs n s t code code' S2.out ht).2
    have E4 := Lib.hid (sumR_eqn xs n s t code code' S2.out ht).1
    clear ht hd
    subst hcode
    go_wp2_with fail
    refine (cv2 _ _ (eqn_symm E4.out) _ _ _).mono ?_
    rintro e w5 ⟨rfl, rfl⟩
    go_wp2_with fail
    refine (toF_any a n c xs _ hn (HH.out.kept ((K4.out.cvW _).cvW _))).mono ?_
    rintro e w6 ⟨g6, rfl, hh6, hk6⟩
    have A6 := Lib.hid hh6; have K6 := Lib.hid hk6; clear hh6 hk6
    go_wp2_with fail
    refine (eqF_self xs g3 g6 n _ hn (A4.out.kept ((((Kept.refl _).cvW _).cvW _).trans K6.out)) A6.out).mono ?_
    rintro e w7 ⟨rfl, hd7⟩
    have K7 := Lib.hid (((((K4.out.cvW _).cvW _).trans K6.out)).drawn hd7); clear hd7
    go_wp2
    go_ret
    exact ⟨rfl, K7.out⟩
  · have hn' : 1048576 < n := by omega
    go_enter Try.func8, Try.ntmps8
    go_wp2
    go_ret
    exact ⟨rfl, Below.refl _ _⟩
theorem law_FnExactSumOf (a : Option Addr) (n c : Nat) (xs : List Nat) (hn : n ≤ 9223372036854775807) (w : World) (h : Src w a n xs) :
    Calls Try.prog 8 #[.slice a n c] w fun e w' => e = .returned (.bool true) ∧ Below w.heap.size w w' := sumLaw a n c xs w hn h
end Go.Proofs.Ytjhmamkbdcfcoaa
