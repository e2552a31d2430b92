/-
  Walks for SortReals: Go's exchange of two ranges, and its rotation.
-/
import Derived.Test.YtbceiphiopdegaaIns
set_option linter.unusedSimpArgs false
set_option linter.unusedVariables false
namespace Go.Proofs.Ytbceiphiopdegaa
open Go.RowKit

/-- the ranges from a and from b on, exchanged in their first i places -/
def Exch (a b i : Nat) (xs ys : List Nat) : Prop := ∀ k, (a ≤ k → k < a + i → va ys k = va xs (k + (b - a))) ∧ (b ≤ k → k < b + i → va ys k = va xs (k - (b - a))) ∧ (¬ (a ≤ k ∧ k < a + i) → ¬ (b ≤ k ∧ k < b + i) → va ys k = va xs k)
theorem Exch.step {a b i n : Nat} {xs ys : List Nat} (h : Exch a b i xs ys) (hi : i < n) (hab : a + n ≤ b) (hb : b + n ≤ ys.length) : Exch a b (i + 1) xs (swp ys (a + i) (b + i)) := fun k => by
  have e1 : va (swp ys (a + i) (b + i)) (a + i) = va ys (b + i) := swp_i _ _ _ (by omega) (by omega)
  have e2 : va (swp ys (a + i) (b + i)) (b + i) = va ys (a + i) := swp_j _ _ _ (by omega)
  have e3 : ∀ k, k ≠ a + i → k ≠ b + i → va (swp ys (a + i) (b + i)) k = va ys k := fun k => swp_k _ _ _ k
  have g1 : va ys (b + i) = va xs (b + i) := (h (b + i)).2.2 (by omega) (by omega)
  have g2 : va ys (a + i) = va xs (a + i) := (h (a + i)).2.2 (by omega) (by omega)
  refine ⟨fun h1 h2 => ?_, fun h1 h2 => ?_, fun h1 h2 => ?_⟩
  · by_cases e : k = a + i
    · subst e; rw [e1, g1]; congr 1; omega
    · rw [e3 k e (by omega)]; exact (h k).1 h1 (by omega)
  · by_cases e : k = b + i
    · subst e; rw [e2, g2]; congr 1; omega
    · rw [e3 k (by omega) e]; exact (h k).2.1 h1 (by omega)
  · rw [e3 k (by omega) (by omega)]; exact (h k).2.2 (by omega) (by omega)
set_option maxRecDepth 100000 in
set_option maxHeartbeats 8000000 in
theorem exchOk (g N cap a b n : Nat) (hab : a + n ≤ b) (hb : b + n ≤ N) (hN : N ≤ 1000) (w0 : World) (xs : List Nat) (w : World) (R : Row g N cap w0 xs w) :
    Calls Try.prog 79 #[.slice (some ⟨g, 0, none⟩) N cap, .int .i64 (a : Int), .int .i64 (b : Int), .int .i64 (n : Int), .func (.func 26) #[] #[]] w fun e w' => ∃ ys, (∃ v, e = .returned v) ∧ Row g N cap w0 ys w' ∧ SwR a (b + n) xs ys ∧ Exch a b n xs ys := by
  have R0 := Lib.hid R
  have hB := Lib.hid (And.intro hab (And.intro hb hN))
  have ha0 : (a : Int) + (n : Int) ≤ (b : Int) := by omega
  have hb0 : (b : Int) + (n : Int) ≤ (N : Int) := by omega
  have hN0 : (N : Int) ≤ 1000 := by omega
  have ha1 : (0 : Int) ≤ (a : Int) := by omega
  clear R hab hb hN
  go_enter Try.func79, Try.ntmps79
  go_wp2
  go_loopw [10] (fun vi wr => ∃ (i : Nat) (ys : List Nat), i ≤ n ∧ vi = .int .i64 (i : Int) ∧ Hid (Row g N cap w0 ys wr ∧ SwR a (b + n) xs ys ∧ Exch a b i xs ys)) (fun vi _ => n - (intOf vi).toNat)
  case atStart => exact ⟨0, xs, Nat.zero_le _, rfl, Lib.hid ⟨R0.out, SwR.refl _ _ _, fun k => ⟨fun _ _ => by omega, fun _ _ => by omega, fun _ _ => rfl⟩⟩⟩
  case round =>
    obtain ⟨i, ys, hi, rfl, H⟩ := hrel
    by_cases hlt : i < n
    · have hi0 : (i : Int) < (n : Int) := by omega
      have hi1 : (0 : Int) ≤ (i : Int) := by omega
      have q1 : a + i < N := by have := hB.out; omega
      have q2 : b + i < N := by have := hB.out; omega
      have c1 := H.out.1.cell (a + i) q1
      have c2 := H.out.1.cell (b + i) q2
      have f1 := H.out.1.frozen (a + i)
      have f2 := H.out.1.frozen (b + i)
      have hne : a + i ≠ b + i := by have := hB.out; omega
      have hne' : b + i ≠ a + i := by have := hB.out; omega
      have t1 : ((a : Int) + (i : Int)).toNat = a + i := by omega
      have t2 : ((b : Int) + (i : Int)).toNat = b + i := by omega
      have w1 : IntKind.i64.wrap ((a : Int) + (i : Int)) = (a : Int) + (i : Int) := by rw [IntKind.wrap_i64]; omega
      have w2 : IntKind.i64.wrap ((b : Int) + (i : Int)) = (b : Int) + (i : Int) := by rw [IntKind.wrap_i64]; omega
      have p1 : (0 : Int) ≤ (a : Int) + (i : Int) := by omega
      have p2 : (a : Int) + (i : Int) < (N : Int) := by omega
      have p3 : (0 : Int) ≤ (b : Int) + (i : Int) := by omega
      have p4 : (b : Int) + (i : Int) < (N : Int) := by omega
      go_wp2
      go_region
      all_goals
        go_wp2
        go_roundw
        case rel => exact ⟨i + 1, swp ys (a + i) (b + i), by omega, by go_num, Lib.hid ⟨by first | exact Row.swap H.out.1 (a + i) (b + i) q1 q2 | exact Row.swap (H.out.1.drewN 1) (a + i) (b + i) q1 q2 | exact Row.drewN (Row.swap H.out.1 (a + i) (b + i) q1 q2) 1, H.out.2.1.trans (SwR.swap ⟨by omega, by have := hB.out; omega⟩ ⟨by have := hB.out; omega, by omega⟩ (by rw [H.out.1.1]; have := hB.out; omega)), H.out.2.2.step hlt hB.out.1 (by rw [H.out.1.1]; have := hB.out; omega)⟩⟩
        case measure => simp [intOf]; omega
    · obtain rfl : i = n := by omega
      go_wp2
      go_end0
      exact ⟨ys, ⟨_, rfl⟩, H.out⟩
/-- what the rotation puts to a place -/
def rotF (a m b : Nat) (xs : List Nat) (k : Nat) : Nat := if k < a + (b - m) then va xs (k + (m - a)) else va xs (k - (b - m))
def RotI (a m b i j : Nat) (xs ys : List Nat) : Prop := ∀ k, a ≤ k → k < b →
  (k < m - i → va ys k = rotF a m b xs k) ∧ (m + j ≤ k → va ys k = rotF a m b xs k) ∧ (m - i ≤ k → k < m - i + j → rotF a m b xs k = va ys (k + i)) ∧ (m - i + j ≤ k → k < m + j → rotF a m b xs k = va ys (k - j))
theorem RotI.start (a m b : Nat) (xs : List Nat) (h1 : a < m) (h2 : m < b) : RotI a m b (m - a) (b - m) xs xs := fun k k1 k2 => by
  refine ⟨fun h => by omega, fun h => by omega, fun h3 h4 => ?_, fun h3 h4 => ?_⟩
  · unfold rotF; rw [if_pos (by omega)]
  · unfold rotF; rw [if_neg (by omega)]
theorem RotI.left {a m b i j : Nat} {xs ys zs : List Nat} (h : RotI a m b i j xs ys) (hE : Exch (m - i) m j ys zs) (hj : 0 < j) (hij : j < i) (hi : i ≤ m - a) (hb : j ≤ b - m) (hm : a < m) : RotI a m b (i - j) j xs zs := fun k k1 k2 => by
  obtain ⟨p1, p2, p3, p4⟩ := h k k1 k2
  obtain ⟨e1, e2, e3⟩ := hE k
  refine ⟨fun h => ?_, fun h => ?_, fun h3 h4 => ?_, fun h3 h4 => ?_⟩
  · by_cases c : k < m - i
    · rw [e3 (by omega) (by omega)]; exact p1 c
    · rw [e1 (by omega) (by omega), p3 (by omega) (by omega)]; congr 1; omega
  · rw [e3 (by omega) (by omega)]; exact p2 h
  · rw [p4 (by omega) (by omega), (hE (k + (i - j))).2.1 (by omega) (by omega)]; congr 1; omega
  · rw [p4 (by omega) (by omega), (hE (k - j)).2.2 (by omega) (by omega)]
theorem RotI.right {a m b i j : Nat} {xs ys zs : List Nat} (h : RotI a m b i j xs ys) (hE : Exch (m - i) (m + j - i) i ys zs) (hi0 : 0 < i) (hij : i < j) (hi : i ≤ m - a) (hb : j ≤ b - m) (hm : a < m) : RotI a m b i (j - i) xs zs := fun k k1 k2 => by
  obtain ⟨p1, p2, p3, p4⟩ := h k k1 k2
  obtain ⟨e1, e2, e3⟩ := hE k
  refine ⟨fun h => ?_, fun h => ?_, fun h3 h4 => ?_, fun h3 h4 => ?_⟩
  · rw [e3 (by omega) (by omega)]; exact p1 h
  · by_cases c : m + j ≤ k
    · rw [e3 (by omega) (by omega)]; exact p2 c
    · rw [e2 (by omega) (by omega), p4 (by omega) (by omega)]; congr 1; omega
  · rw [p3 (by omega) (by omega), (hE (k + i)).2.2 (by omega) (by omega)]
  · by_cases c : k < m - i + j
    · rw [p3 (by omega) c, (hE (k - (j - i))).1 (by omega) (by omega)]; congr 1; omega
    · rw [p4 (by omega) (by omega)]; exact absurd h4 (by omega)
theorem RotI.stop {a m b i : Nat} {xs ys zs : List Nat} (h : RotI a m b i i xs ys) (hE : Exch (m - i) m i ys zs) (hi0 : 0 < i) (hi : i ≤ m - a) (hb : i ≤ b - m) (hm : a < m) : ∀ k, a ≤ k → k < b → va zs k = rotF a m b xs k := fun k k1 k2 => by
  obtain ⟨p1, p2, p3, p4⟩ := h k k1 k2
  obtain ⟨e1, e2, e3⟩ := hE k
  by_cases c1 : k < m - i
  · rw [e3 (by omega) (by omega)]; exact p1 c1
  · by_cases c2 : k < m
    · rw [e1 (by omega) (by omega), p3 (by omega) (by omega)]; congr 1; omega
    · by_cases c3 : k < m + i
      · rw [e2 (by omega) (by omega), p4 (by omega) (by omega)]; congr 1; omega
      · rw [e3 (by omega) (by omega)]; exact p2 (by omega)
set_option maxRecDepth 100000 in
set_option maxHeartbeats 8000000 in
theorem rotOk (g N cap a m b : Nat) (hm : a < m) (hmb : m < b) (hb : b ≤ N) (hN : N ≤ 1000) (w0 : World) (xs : List Nat) (w : World) (R : Row g N cap w0 xs w) :
    Calls Try.prog 76 #[.slice (some ⟨g, 0, none⟩) N cap, .int .i64 (a : Int), .int .i64 (m : Int), .int .i64 (b : Int), .func (.func 26) #[] #[]] w fun e w' => ∃ ys, (∃ v, e = .returned v) ∧ Row g N cap w0 ys w' ∧ SwR a b xs ys ∧ ∀ k, a ≤ k → k < b → va ys k = rotF a m b xs k := by
  have R0 := Lib.hid R
  have HE := Lib.hid (fun a b n h1 h2 ys w => exchOk g N cap a b n h1 h2 hN w0 ys w)
  have hB := Lib.hid (And.intro hm (And.intro hmb (And.intro hb hN)))
  have ha0 : (a : Int) < (m : Int) := by omega
  have hb0 : (m : Int) < (b : Int) := by omega
  have hN0 : (b : Int) ≤ 1000 := by omega
  have ha1 : (0 : Int) ≤ (a : Int) := by omega
  clear R hm hmb hb hN
  go_enter Try.func76, Try.ntmps76
  go_wp2
  go_loopw [10, 11] (fun vi vj wr => ∃ (i j : Nat) (ys : List Nat), 0 < i ∧ 0 < j ∧ i ≤ m - a ∧ j ≤ b - m ∧ vi = .int .i64 (i : Int) ∧ vj = .int .i64 (j : Int) ∧ Hid (Row g N cap w0 ys wr ∧ SwR a b xs ys ∧ RotI a m b i j xs ys)) (fun vi vj _ => (intOf vi).toNat + (intOf vj).toNat)
  case atStart => have := hB.out; exact ⟨m - a, b - m, xs, by omega, by omega, Nat.le_refl _, Nat.le_refl _, by congr 1; omega, by congr 1; omega, Lib.hid ⟨R0.out, SwR.refl _ _ _, RotI.start a m b xs (by omega) (by omega)⟩⟩
  case round =>
    obtain ⟨i, j, ys, hi, hj, hi2, hj2, rfl, rfl, H⟩ := hrel
    have hi0 : (0 : Int) < (i : Int) := by omega
    have hj0 : (0 : Int) < (j : Int) := by omega
    have hi1 : (i : Int) ≤ (m : Int) - (a : Int) := by omega
    have hj1 : (j : Int) ≤ (b : Int) - (m : Int) := by omega
    have m1 : (m : Int) - (i : Int) = ((m - i : Nat) : Int) := by omega
    have M1 := Lib.hid m1
    clear m1
    by_cases hij : i = j
    · subst hij
      have m1 := M1.out
      clear M1
      go_wp2_with fail
      have hh := hB.out
      refine (HE.out (m - i) m i (by omega) (by omega) ys _ H.out.1).mono ?_
      rintro _ w1 ⟨zs, ⟨v, rfl⟩, hr, hs, he⟩
      have G := Lib.hid (And.intro hr (And.intro (H.out.2.1.trans (hs.mono (by omega) (by omega))) (RotI.stop H.out.2.2 he hi hi2 hj2 hh.1)))
      clear hr hs he hh
      go_wp2
      go_end0
      exact ⟨zs, ⟨_, rfl⟩, G.out⟩
    · have hne : ((i : Int) == (j : Int)) = false := by rw [beq_eq_false_iff_ne]; omega
      have hne2 : ((i : Int) != (j : Int)) = true := by rw [bne_iff_ne]; omega
      by_cases hlt : j < i
      · have hl0 : (j : Int) < (i : Int) := by omega
        go_wp2_with fail
        rw [M1.out]
        have hh := hB.out
        refine (HE.out (m - i) m j (by omega) (by omega) ys _ H.out.1).mono ?_
        rintro _ w1 ⟨zs, ⟨v, rfl⟩, hr, hs, he⟩
        have G := Lib.hid (And.intro hr (And.intro (H.out.2.1.trans (hs.mono (by omega) (by omega))) (RotI.left H.out.2.2 he hj hlt hi2 hj2 hh.1)))
        clear hr hs he hh
        go_wp2
        go_roundw
        case rel => exact ⟨i - j, j, zs, by omega, hj, by omega, hj2, by congr 1; omega, rfl, G⟩
        case measure => simp [intOf]; omega
      · have hl0 : decide ((j : Int) < (i : Int)) = false := decide_eq_false (by omega)
        have hl1 : (i : Int) < (j : Int) := by omega
        have m2 : (m : Int) + (j : Int) - (i : Int) = ((m + j - i : Nat) : Int) := by omega
        have M2 := Lib.hid m2
        clear m2
        go_wp2_with fail
        rw [M1.out, M2.out]
        have hh := hB.out
        refine (HE.out (m - i) (m + j - i) i (by omega) (by omega) ys _ H.out.1).mono ?_
        rintro _ w1 ⟨zs, ⟨v, rfl⟩, hr, hs, he⟩
        have G := Lib.hid (And.intro hr (And.intro (H.out.2.1.trans (hs.mono (by omega) (by omega))) (RotI.right H.out.2.2 he hi (by omega) hi2 hj2 hh.1)))
        clear hr hs he hh
        go_wp2
        go_roundw
        case rel => exact ⟨i, j - i, zs, hi, by omega, hi2, by omega, rfl, by congr 1; omega, G⟩
        case measure => simp [intOf]; omega
end Go.Proofs.Ytbceiphiopdegaa
