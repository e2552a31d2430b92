/-
  Walks for FnSorted: lists are held against each other; the length of an input.
-/
import Derived.Test.YtbceiphiopdegaaPUniI
import Derived.Test.YtbceiphiopdegaaSortLaw
set_option linter.unusedSimpArgs false
set_option linter.unusedVariables false
namespace Go.Proofs.Ytbceiphiopdegaa
open Go.RowKit

set_option maxHeartbeats 1000000 in
theorem sameReals0 (a a' : Option Addr) (c c' : Nat) (w : World) :
    Calls Try.prog 13 #[.slice a 0 c, .slice a' 0 c'] w fun e w' => e = .returned (.bool true) ∧ Drawn w w' := by
  go_enter Try.func13, Try.ntmps13
  go_wp2
  refine wp_loop_rounds 1 ?_; rw [rounds_succ]
  go_wp2
  go_ret
  exact ⟨rfl, Drawn.refl _⟩
set_option maxRecDepth 100000 in
set_option maxHeartbeats 4000000 in
theorem sameRealsN (g g' n c c' : Nat) (ys zs : List Nat) (hn : n ≤ 1000) (w : World) (h1 : Holds32 w g 0 n ys) (h2 : Holds32 w g' 0 n zs) (hE : ∀ i, i < n → sameB (va ys i) (va zs i) = true) :
    Calls Try.prog 13 #[.slice (some ⟨g, 0, none⟩) n c, .slice (some ⟨g', 0, none⟩) n c'] w fun e w' => e = .returned (.bool true) ∧ Drawn w w' := by
  have H1 := Lib.hid h1
  have H2 := Lib.hid h2
  have HE := Lib.hid hE
  have hni : (n : Int) ≤ 1000 := by omega
  clear h1 h2 hE hn
  go_enter Try.func13, Try.ntmps13
  go_wp2
  go_loopw [5] (fun vi wr => ∃ k : Nat, k ≤ n ∧ vi = .int .i64 (k : Int) ∧ Hid (Drawn w wr)) (fun vi _ => n - (intOf vi).toNat)
  case atStart => exact ⟨0, Nat.zero_le _, rfl, Lib.hid (Drawn.refl _)⟩
  case round =>
    obtain ⟨k, hk, rfl, HD⟩ := hrel
    by_cases hkn : k < n
    · have q0 : (k : Int) < (n : Int) := by omega
      have q1 : (0 : Int) ≤ (k : Int) := by omega
      have KD : Kept w wr := (Kept.refl w).drawn HD.out
      have c0 := KD.cell (H1.out k hkn)
      have c1 := KD.cell (H2.out k hkn)
      rw [Nat.zero_add] at c0 c1
      have HC := Lib.hid (specSame1 (va ys k) (va zs k))
      rw [HE.out k hkn] at HC
      have e0 : ys.getD k 0 = va ys k := rfl
      have e1 : zs.getD k 0 = va zs k := rfl
      rw [e0] at c0
      rw [e1] at c1
      clear KD e0 e1
      go_wp2
      go_quiet ((go_at_call 31; exact quiet_left (HC.out _)))
      go_wp2
      go_roundw
      case rel => exact ⟨k + 1, by omega, by go_num, Lib.hid (HD.out.drewN _)⟩
      case measure => simp [intOf]; omega
    · have q0 : decide ((k : Int) < (n : Int)) = false := decide_eq_false (by omega)
      go_wp2
      go_ret
      exact ⟨rfl, HD.out⟩
theorem sameReals (v v' : Value) (ys zs : List Nat) (w : World) (hn : ys.length ≤ 1000) (hl : zs.length = ys.length) (h1 : RowV w v ys) (h2 : RowV w v' zs) (hE : ∀ i, i < ys.length → sameB (va ys i) (va zs i) = true) :
    Calls Try.prog 13 #[v, v'] w fun e w' => e = .returned (.bool true) ∧ Drawn w w' := by
  obtain ⟨a, c, rfl, h1⟩ := h1
  obtain ⟨a', c', rfl, h2⟩ := h2
  rw [hl] at h2 ⊢
  rcases h1 with rfl | ⟨g, rfl, h1⟩
  · exact sameReals0 a a' c c' w
  · rcases h2 with rfl | ⟨g', rfl, h2⟩
    · have h0 : ys.length = 0 := hl.symm
      rw [h0]
      exact sameReals0 _ a' c c' w
    · exact sameRealsN g g' ys.length c c' ys zs hn w h1 h2 hE
set_option maxHeartbeats 1000000 in
theorem bigOk (a : Option Addr) (n c : Nat) (b : Bool) (hb : decide ((4096 : Int) < (n : Int)) = b) (w : World) :
    Calls Try.prog 11 #[.slice a n c] w fun e w' => e = .returned (.bool b) ∧ w = w' := by
  cases b
  all_goals
    go_enter Try.func11, Try.ntmps11
    go_wp2
    go_ret
    exact ⟨rfl, rfl⟩
end Go.Proofs.Ytbceiphiopdegaa
namespace Go.Proofs.Ytbceiphiopdegaa.Pt
open Go.RowKit

set_option maxHeartbeats 1000000 in
theorem lists0 (a a' : Option Addr) (c c' : Nat) (w : World) :
    Calls Try.prog 40 #[.slice a 0 c, .slice a' 0 c'] w fun e w' => e = .returned (.bool true) ∧ Drawn w w' := by
  go_enter Try.func40, Try.ntmps40
  go_wp2
  refine wp_loop_rounds 1 ?_; rw [rounds_succ]
  go_wp2
  go_ret
  exact ⟨rfl, Drawn.refl _⟩
set_option maxRecDepth 100000 in
set_option maxHeartbeats 4000000 in
theorem listsN (g g' n c c' : Nat) (ys zs : List Nat) (hn : n ≤ 1000) (w : World) (h1 : Holds32 w g 0 n ys) (h2 : Holds32 w g' 0 n zs) (hE : ∀ i, i < n → sameC (va ys i) (va zs i) = true) :
    Calls Try.prog 40 #[.slice (some ⟨g, 0, none⟩) n c, .slice (some ⟨g', 0, none⟩) n c'] w fun e w' => e = .returned (.bool true) ∧ Drawn w w' := by
  have H1 := Lib.hid h1
  have H2 := Lib.hid h2
  have HE := Lib.hid hE
  have hni : (n : Int) ≤ 1000 := by omega
  clear h1 h2 hE hn
  go_enter Try.func40, Try.ntmps40
  go_wp2
  go_loopw [5] (fun vi wr => ∃ k : Nat, k ≤ n ∧ vi = .int .i64 (k : Int) ∧ Hid (Drawn w wr)) (fun vi _ => n - (intOf vi).toNat)
  case atStart => exact ⟨0, Nat.zero_le _, rfl, Lib.hid (Drawn.refl _)⟩
  case round =>
    obtain ⟨k, hk, rfl, HD⟩ := hrel
    by_cases hkn : k < n
    · have q0 : (k : Int) < (n : Int) := by omega
      have q1 : (0 : Int) ≤ (k : Int) := by omega
      have KD : Kept w wr := (Kept.refl w).drawn HD.out
      have c0 := KD.cell (H1.out k hkn)
      have c1 := KD.cell (H2.out k hkn)
      rw [Nat.zero_add] at c0 c1
      have HC := Lib.hid (l02SameP (va ys k) (va zs k))
      rw [HE.out k hkn] at HC
      have e0 : ys.getD k 0 = va ys k := rfl
      have e1 : zs.getD k 0 = va zs k := rfl
      rw [e0] at c0
      rw [e1] at c1
      clear KD e0 e1
      go_wp2
      go_quiet ((go_at_call 39; exact quiet_left (HC.out _)))
      go_wp2
      go_roundw
      case rel => exact ⟨k + 1, by omega, by go_num, Lib.hid (HD.out.drewN _)⟩
      case measure => simp [intOf]; omega
    · have q0 : decide ((k : Int) < (n : Int)) = false := decide_eq_false (by omega)
      go_wp2
      go_ret
      exact ⟨rfl, HD.out⟩
theorem lists (v v' : Value) (ys zs : List Nat) (w : World) (hn : ys.length ≤ 1000) (hl : zs.length = ys.length) (h1 : RowV w v ys) (h2 : RowV w v' zs) (hE : ∀ i, i < ys.length → sameC (va ys i) (va zs i) = true) :
    Calls Try.prog 40 #[v, v'] w fun e w' => e = .returned (.bool true) ∧ Drawn w w' := by
  obtain ⟨a, c, rfl, h1⟩ := h1
  obtain ⟨a', c', rfl, h2⟩ := h2
  rw [hl] at h2 ⊢
  rcases h1 with rfl | ⟨g, rfl, h1⟩
  · exact lists0 a a' c c' w
  · rcases h2 with rfl | ⟨g', rfl, h2⟩
    · have h0 : ys.length = 0 := hl.symm
      rw [h0]
      exact lists0 _ a' c c' w
    · exact listsN g g' ys.length c c' ys zs hn w h1 h2 hE
set_option maxHeartbeats 1000000 in
theorem samePoints (v v' : Value) (ys zs : List Nat) (w : World) (hn : ys.length ≤ 1000) (hl : zs.length = ys.length) (h1 : RowV w v ys) (h2 : RowV w v' zs) (hE : ∀ i, i < ys.length → sameC (va ys i) (va zs i) = true) :
    Calls Try.prog 21 #[v, v'] w fun e w' => e = .returned (.bool true) ∧ Drawn w w' := by
  have HL := Lib.hid (lists v v' ys zs w hn hl h1 h2 hE)
  clear hn hl h1 h2 hE
  go_enter Try.func21, Try.ntmps21
  go_wp2_with fail
  refine HL.out.mono ?_
  rintro _ w1 ⟨rfl, hd⟩
  have HD := Lib.hid hd
  clear hd HL
  go_wp2
  go_ret
  exact ⟨rfl, HD.out⟩
end Go.Proofs.Ytbceiphiopdegaa.Pt
