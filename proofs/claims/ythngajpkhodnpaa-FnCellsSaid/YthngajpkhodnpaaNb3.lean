/-
  Walks for NeighboursOf: the implementation's side. (The nine rounds are printed by program.)
-/
import Derived.Test.YthngajpkhodnpaaNb2
set_option linter.unusedSimpArgs false
set_option linter.unusedVariables false
namespace Go.Proofs.Ythngajpkhodnpaa
open Go.RowKit

theorem NbS.alloc {w : World} {x y : Int} {v : Value} {n : Nat} {xs : List Value} {wr : World} (S : NbS w x y v n xs wr) (o : Obj) : NbS w x y v n xs (wr.alloc o) := by
  obtain ⟨h1, h2, h3, h4, h5⟩ := S
  exact ⟨h1.alloc o, h2.alloc o, ((Kept.refl wr).alloc o).cell h3, ((Kept.refl wr).alloc o).cell h4, by simp; omega⟩
set_option maxRecDepth 100000 in
set_option maxHeartbeats 8000000 in
theorem implNbGo (x y : Int) (hx : inC x = true) (hy : inC y = true) (w : World) :
    Calls Try.prog 10 #[c2 x y] w fun e w' => ∃ v, e = .returned (.tuple #[v, .int .i64 0]) ∧ NbS w x y v 8 (nbL x y) w' := by
  have bx : -1073741823 ≤ x ∧ x ≤ 1073741823 := by simpa [inC] using hx
  have bY : -1073741823 ≤ y ∧ y ≤ 1073741823 := by simpa [inC] using hy
  have HX := Lib.hid (implInR x)
  have HY := Lib.hid (implInR y)
  rw [hx] at HX
  rw [hy] at HY
  have wr : ∀ z : Int, -1073741823 ≤ z ∧ z ≤ 1073741823 → IntKind.i32.wrap (z - 1) = z - 1 ∧ IntKind.i32.wrap (z + 1) = z + 1 ∧ IntKind.i32.wrap z = z ∧ IntKind.i32.wrap (z - 1 + 1) = z ∧ IntKind.i32.wrap (z + 1 + 1) = z + 1 + 1 ∧ decide (z - 1 ≤ z + 1) = true ∧ decide (z ≤ z + 1) = true ∧ decide (z + 1 + 1 ≤ z + 1) = false ∧ (z - 1 == z) = false ∧ (z + 1 == z) = false := fun z hz => by
    obtain ⟨h1, h2⟩ := hz
    refine ⟨?_, ?_, ?_, ?_, ?_, ?_, ?_, ?_, ?_, ?_⟩
    · rw [IntKind.wrap_i32]; omega
    · rw [IntKind.wrap_i32]; omega
    · rw [IntKind.wrap_i32]; omega
    · rw [IntKind.wrap_i32]; omega
    · rw [IntKind.wrap_i32]; omega
    · exact decide_eq_true (by omega)
    · exact decide_eq_true (by omega)
    · exact decide_eq_false (by omega)
    · rw [beq_eq_false_iff_ne]; omega
    · rw [beq_eq_false_iff_ne]; omega
  obtain ⟨x1, x2, x3, x4, x5, x6, x7, x8, x9, xa⟩ := wr x bx
  obtain ⟨y1, y2, y3, y4, y5, y6, y7, y8, y9, ya⟩ := wr y bY
  clear wr bx bY hx hy
  obtain ⟨i0, i1, i2, i3, i4⟩ := info_parts2
  have II := Lib.hid (And.intro i1 (And.intro i2 (And.intro i3 i4)))
  clear i1 i2 i3 i4
  go_enter Try.func10, Try.ntmps10
  go_wp2_with fail
  refine (HX.out _).mono ?_
  rintro _ _ ⟨rfl, rfl⟩
  go_wp2_with fail
  refine (HY.out _).mono ?_
  rintro _ _ ⟨rfl, rfl⟩
  go_wp2
  have S0 : Hid (NbS w x y (.slice (some ⟨w.heap.size + 1, 0, none⟩) 0 0) 0 [] ((w.alloc (.cells #[.int .i32 x, .int .i32 y] 29)).alloc (.cells #[] 29))) := by
    have l0 : (w.alloc (.cells #[.int .i32 x, .int .i32 y] 29)).cell? ⟨w.heap.size, 0, none⟩ = some (.int .i32 x) := World.cell?_alloc_at (w := w) #[.int .i32 x, .int .i32 y] 29 w.heap.size 0 rfl
    have l1 : (w.alloc (.cells #[.int .i32 x, .int .i32 y] 29)).cell? ⟨w.heap.size, 1, none⟩ = some (.int .i32 y) := World.cell?_alloc_at (w := w) #[.int .i32 x, .int .i32 y] 29 w.heap.size 1 rfl
    have o := own_start2 (w.alloc (.cells #[.int .i32 x, .int .i32 y] 29)) (w.heap.size + 1) (by simp) 29
    rw [World.size_alloc] at o
    exact ⟨o, ((Kept.refl w).alloc _).alloc _, ((Kept.refl _).alloc _).cell l0, ((Kept.refl _).alloc _).cell l1, by simp; omega⟩
  generalize (w.alloc (.cells #[.int .i32 x, .int .i32 y] 29)).alloc (.cells #[] 29) = w0 at *
  generalize Value.slice (some ⟨w.heap.size + 1, 0, none⟩) 0 0 = v0 at *
  refine wp_loop_rounds 4 ?_; rw [rounds_succ]
  obtain ⟨-, -, l0, l1, hs⟩ := S0.out
  go_wp2
  refine wp_loop_rounds 4 ?_; rw [rounds_succ]
  go_wp2_with (at_builtin; refine wpList_append_own _ rfl _ _ 34 rfl (w.heap.size + 1) 29 i0 (c2 0 0) 2 8 Try.underlying34 II.out.1 II.out.2.1 II.out.2.2.1 II.out.2.2.2 rfl (by decide) _ 0 _ rfl (World.ownsRow.alloc (NbS.alloc S0.out (.cells #[.int .i32 (x - 1), .int .i32 (y - 1)] 29)).1 _) ⟨w0.heap.size + 1, 0, none⟩ 1 1 [.int .i32 (x - 1), .int .i32 (y - 1)] rfl rfl ?c1 ?c2 ?c3 ?c4 ?c5 ?_)
  case c1 => exact cell_two _ _ (by simp) _ _ _
  case c2 => simp [Value.oneCell']
  case c3 => unfold maxLen; omega
  case c4 => omega
  case c5 => have := S0.out.2.2.2.2; simp; omega
  intro v1 w1 hown hgrow _
  have S1 := Lib.hid (nb_step (NbS.alloc S0.out _) hgrow hown)
  clear hown hgrow l0 l1 hs S0
  obtain ⟨-, -, l0, l1, hs⟩ := S1.out
  go_wp2
  rw [rounds_succ]
  go_wp2_with (at_builtin; refine wpList_append_own _ rfl _ _ 34 rfl (w.heap.size + 1) 29 i0 (c2 0 0) 2 8 Try.underlying34 II.out.1 II.out.2.1 II.out.2.2.1 II.out.2.2.2 rfl (by decide) _ 1 _ rfl (World.ownsRow.alloc (NbS.alloc S1.out (.cells #[.int .i32 (x - 1), .int .i32 y] 29)).1 _) ⟨w1.heap.size + 1, 0, none⟩ 1 1 [.int .i32 (x - 1), .int .i32 y] rfl rfl ?c1 ?c2 ?c3 ?c4 ?c5 ?_)
  case c1 => exact cell_two _ _ (by simp) _ _ _
  case c2 => simp [Value.oneCell']
  case c3 => unfold maxLen; omega
  case c4 => omega
  case c5 => have := S1.out.2.2.2.2; simp; omega
  intro v2 w2 hown hgrow _
  have S2 := Lib.hid (nb_step (NbS.alloc S1.out _) hgrow hown)
  clear hown hgrow l0 l1 hs S1
  obtain ⟨-, -, l0, l1, hs⟩ := S2.out
  go_wp2
  rw [rounds_succ]
  go_wp2_with (at_builtin; refine wpList_append_own _ rfl _ _ 34 rfl (w.heap.size + 1) 29 i0 (c2 0 0) 2 8 Try.underlying34 II.out.1 II.out.2.1 II.out.2.2.1 II.out.2.2.2 rfl (by decide) _ 2 _ rfl (World.ownsRow.alloc (NbS.alloc S2.out (.cells #[.int .i32 (x - 1), .int .i32 (y + 1)] 29)).1 _) ⟨w2.heap.size + 1, 0, none⟩ 1 1 [.int .i32 (x - 1), .int .i32 (y + 1)] rfl rfl ?c1 ?c2 ?c3 ?c4 ?c5 ?_)
  case c1 => exact cell_two _ _ (by simp) _ _ _
  case c2 => simp [Value.oneCell']
  case c3 => unfold maxLen; omega
  case c4 => omega
  case c5 => have := S2.out.2.2.2.2; simp; omega
  intro v3 w3 hown hgrow _
  have S3 := Lib.hid (nb_step (NbS.alloc S2.out _) hgrow hown)
  clear hown hgrow l0 l1 hs S2
  obtain ⟨-, -, l0, l1, hs⟩ := S3.out
  go_wp2
  rw [rounds_succ]
  go_wp2
  clear l0 l1 hs
  rw [rounds_succ]
  obtain ⟨-, -, l0, l1, hs⟩ := S3.out
  go_wp2
  refine wp_loop_rounds 4 ?_; rw [rounds_succ]
  go_wp2_with (at_builtin; refine wpList_append_own _ rfl _ _ 34 rfl (w.heap.size + 1) 29 i0 (c2 0 0) 2 8 Try.underlying34 II.out.1 II.out.2.1 II.out.2.2.1 II.out.2.2.2 rfl (by decide) _ 3 _ rfl (World.ownsRow.alloc (NbS.alloc S3.out (.cells #[.int .i32 x, .int .i32 (y - 1)] 29)).1 _) ⟨w3.heap.size + 1, 0, none⟩ 1 1 [.int .i32 x, .int .i32 (y - 1)] rfl rfl ?c1 ?c2 ?c3 ?c4 ?c5 ?_)
  case c1 => exact cell_two _ _ (by simp) _ _ _
  case c2 => simp [Value.oneCell']
  case c3 => unfold maxLen; omega
  case c4 => omega
  case c5 => have := S3.out.2.2.2.2; simp; omega
  intro v4 w4 hown hgrow _
  have S4 := Lib.hid (nb_step (NbS.alloc S3.out _) hgrow hown)
  clear hown hgrow l0 l1 hs S3
  obtain ⟨-, -, l0, l1, hs⟩ := S4.out
  go_wp2
  rw [rounds_succ]
  go_wp2
  have S4m := Lib.hid (NbS.alloc S4.out (.cells #[.int .i32 x, .int .i32 y] 29))
  clear S4 l0 l1 hs
  generalize w4.alloc (.cells #[.int .i32 x, .int .i32 y] 29) = w4m at *
  obtain ⟨-, -, l0, l1, hs⟩ := S4m.out
  rw [rounds_succ]
  go_wp2_with (at_builtin; refine wpList_append_own _ rfl _ _ 34 rfl (w.heap.size + 1) 29 i0 (c2 0 0) 2 8 Try.underlying34 II.out.1 II.out.2.1 II.out.2.2.1 II.out.2.2.2 rfl (by decide) _ 4 _ rfl (World.ownsRow.alloc (NbS.alloc S4m.out (.cells #[.int .i32 x, .int .i32 (y + 1)] 29)).1 _) ⟨w4m.heap.size + 1, 0, none⟩ 1 1 [.int .i32 x, .int .i32 (y + 1)] rfl rfl ?c1 ?c2 ?c3 ?c4 ?c5 ?_)
  case c1 => exact cell_two _ _ (by simp) _ _ _
  case c2 => simp [Value.oneCell']
  case c3 => unfold maxLen; omega
  case c4 => omega
  case c5 => have := S4m.out.2.2.2.2; simp; omega
  intro v5 w5 hown hgrow _
  have S5 := Lib.hid (nb_step (NbS.alloc S4m.out _) hgrow hown)
  clear hown hgrow l0 l1 hs S4m
  obtain ⟨-, -, l0, l1, hs⟩ := S5.out
  go_wp2
  rw [rounds_succ]
  go_wp2
  clear l0 l1 hs
  rw [rounds_succ]
  obtain ⟨-, -, l0, l1, hs⟩ := S5.out
  go_wp2
  refine wp_loop_rounds 4 ?_; rw [rounds_succ]
  go_wp2_with (at_builtin; refine wpList_append_own _ rfl _ _ 34 rfl (w.heap.size + 1) 29 i0 (c2 0 0) 2 8 Try.underlying34 II.out.1 II.out.2.1 II.out.2.2.1 II.out.2.2.2 rfl (by decide) _ 5 _ rfl (World.ownsRow.alloc (NbS.alloc S5.out (.cells #[.int .i32 (x + 1), .int .i32 (y - 1)] 29)).1 _) ⟨w5.heap.size + 1, 0, none⟩ 1 1 [.int .i32 (x + 1), .int .i32 (y - 1)] rfl rfl ?c1 ?c2 ?c3 ?c4 ?c5 ?_)
  case c1 => exact cell_two _ _ (by simp) _ _ _
  case c2 => simp [Value.oneCell']
  case c3 => unfold maxLen; omega
  case c4 => omega
  case c5 => have := S5.out.2.2.2.2; simp; omega
  intro v6 w6 hown hgrow _
  have S6 := Lib.hid (nb_step (NbS.alloc S5.out _) hgrow hown)
  clear hown hgrow l0 l1 hs S5
  obtain ⟨-, -, l0, l1, hs⟩ := S6.out
  go_wp2
  rw [rounds_succ]
  go_wp2_with (at_builtin; refine wpList_append_own _ rfl _ _ 34 rfl (w.heap.size + 1) 29 i0 (c2 0 0) 2 8 Try.underlying34 II.out.1 II.out.2.1 II.out.2.2.1 II.out.2.2.2 rfl (by decide) _ 6 _ rfl (World.ownsRow.alloc (NbS.alloc S6.out (.cells #[.int .i32 (x + 1), .int .i32 y] 29)).1 _) ⟨w6.heap.size + 1, 0, none⟩ 1 1 [.int .i32 (x + 1), .int .i32 y] rfl rfl ?c1 ?c2 ?c3 ?c4 ?c5 ?_)
  case c1 => exact cell_two _ _ (by simp) _ _ _
  case c2 => simp [Value.oneCell']
  case c3 => unfold maxLen; omega
  case c4 => omega
  case c5 => have := S6.out.2.2.2.2; simp; omega
  intro v7 w7 hown hgrow _
  have S7 := Lib.hid (nb_step (NbS.alloc S6.out _) hgrow hown)
  clear hown hgrow l0 l1 hs S6
  obtain ⟨-, -, l0, l1, hs⟩ := S7.out
  go_wp2
  rw [rounds_succ]
  go_wp2_with (at_builtin; refine wpList_append_own _ rfl _ _ 34 rfl (w.heap.size + 1) 29 i0 (c2 0 0) 2 8 Try.underlying34 II.out.1 II.out.2.1 II.out.2.2.1 II.out.2.2.2 rfl (by decide) _ 7 _ rfl (World.ownsRow.alloc (NbS.alloc S7.out (.cells #[.int .i32 (x + 1), .int .i32 (y + 1)] 29)).1 _) ⟨w7.heap.size + 1, 0, none⟩ 1 1 [.int .i32 (x + 1), .int .i32 (y + 1)] rfl rfl ?c1 ?c2 ?c3 ?c4 ?c5 ?_)
  case c1 => exact cell_two _ _ (by simp) _ _ _
  case c2 => simp [Value.oneCell']
  case c3 => unfold maxLen; omega
  case c4 => omega
  case c5 => have := S7.out.2.2.2.2; simp; omega
  intro v8 w8 hown hgrow _
  have S8 := Lib.hid (nb_step (NbS.alloc S7.out _) hgrow hown)
  clear hown hgrow l0 l1 hs S7
  obtain ⟨-, -, l0, l1, hs⟩ := S8.out
  go_wp2
  rw [rounds_succ]
  go_wp2
  clear l0 l1 hs
  obtain ⟨-, -, l0, l1, hs⟩ := S8.out
  rw [rounds_succ]
  go_wp2
  go_ret2
  exact ⟨v8, rfl, S8.out⟩
end Go.Proofs.Ythngajpkhodnpaa
