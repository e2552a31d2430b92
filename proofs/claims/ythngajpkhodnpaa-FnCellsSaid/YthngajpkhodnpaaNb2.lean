/-
  Walks for NeighboursOf: the reference's side. (The nine rounds are printed by program.)
-/
import Derived.Test.YthngajpkhodnpaaNb
set_option linter.unusedSimpArgs false
set_option linter.unusedVariables false
namespace Go.Proofs.Ythngajpkhodnpaa
open Go.RowKit

theorem info_parts2 : ∃ i0, Try.prog.info? 29 = some i0 ∧ i0.zero = some (c2 0 0) ∧ i0.size = 2 ∧ i0.bytes = 8 := by
  have h := infoCell
  cases hh : Try.prog.info? 29 with
  | none => rw [hh] at h; cases h
  | some i =>
    rw [hh] at h
    simp only [Option.map_some, Option.some.injEq, Prod.mk.injEq] at h
    exact ⟨i, rfl, h.1, h.2.1, h.2.2⟩
set_option maxRecDepth 100000 in
set_option maxHeartbeats 8000000 in
theorem specNbGo (x y : Int) (hx : inC x = true) (hy : inC y = true) (w : World) :
    Calls Try.prog 11 #[c2 x y] w fun e w' => ∃ v, e = .returned (.tuple #[v, .int .i64 0]) ∧ NbS w x y v 8 (nbL x y) w' := by
  have bx : -1073741823 ≤ x ∧ x ≤ 1073741823 := by simpa [inC] using hx
  have bY : -1073741823 ≤ y ∧ y ≤ 1073741823 := by simpa [inC] using hy
  have HI := Lib.hid (specInR x y (by constructor <;> omega) (by constructor <;> omega))
  rw [hx, hy] at HI
  have wr : ∀ z : Int, -1073741823 ≤ z ∧ z ≤ 1073741823 → IntKind.i32.wrap (z + -1) = z + -1 ∧ IntKind.i32.wrap (z + 1) = z + 1 ∧ IntKind.i32.wrap z = z := fun z hz => by
    obtain ⟨h1, h2⟩ := hz
    refine ⟨?_, ?_, ?_⟩ <;> (rw [IntKind.wrap_i32]; omega)
  obtain ⟨x1, x2, x3⟩ := wr x bx
  obtain ⟨y1, y2, y3⟩ := wr y bY
  clear wr bx bY hx hy
  obtain ⟨i0, i1, i2, i3, i4⟩ := info_parts2
  have II := Lib.hid (And.intro i1 (And.intro i2 (And.intro i3 i4)))
  clear i1 i2 i3 i4
  go_enter Try.func11, Try.ntmps11
  go_wp2_with fail
  refine (HI.out _).mono ?_
  rintro _ wa ⟨rfl, k1⟩
  have l0 : wa.cell? ⟨w.heap.size, 0, none⟩ = some (.int .i32 x) := k1.cell (World.cell?_alloc_at (w := w) #[.int .i32 x, .int .i32 y] 29 w.heap.size 0 rfl)
  have l1 : wa.cell? ⟨w.heap.size, 1, none⟩ = some (.int .i32 y) := k1.cell (World.cell?_alloc_at (w := w) #[.int .i32 x, .int .i32 y] 29 w.heap.size 1 rfl)
  have hs := lt_of_cell l0
  have S0 : Hid (NbS w x y (.slice (some ⟨wa.heap.size, 0, none⟩) 0 0) 0 [] (wa.alloc (.cells #[] 29))) :=
    ⟨own_start2 wa _ hs _, (Kept.trans ((Kept.refl w).alloc _) k1).alloc _, ((Kept.refl wa).alloc _).cell l0, ((Kept.refl wa).alloc _).cell l1, by simp; have := hs; simp at this; omega⟩
  clear k1 l0 l1 hs
  go_wp2
  generalize wa.alloc (.cells #[] 29) = w0 at *
  generalize Value.slice (some ⟨wa.heap.size, 0, none⟩) 0 0 = v0 at *
  refine wp_loop_rounds 4 ?_; rw [rounds_succ]
  obtain ⟨-, -, l0, l1, hs⟩ := S0.out
  go_wp2
  refine wp_loop_rounds 4 ?_; rw [rounds_succ]
  go_wp2_with (at_builtin; refine wpList_append_own _ rfl _ _ 34 rfl (w.heap.size + 1) 29 i0 (c2 0 0) 2 8 Try.underlying34 II.out.1 II.out.2.1 II.out.2.2.1 II.out.2.2.2 rfl (by decide) _ 0 _ rfl (World.ownsRow.alloc S0.out.1 _) ⟨w0.heap.size, 0, none⟩ 1 1 [.int .i32 (x + -1), .int .i32 (y + -1)] rfl rfl ?c1 ?c2 ?c3 ?c4 ?c5 ?_)
  case c1 => exact cell_two _ _ rfl _ _ _
  case c2 => simp [Value.oneCell']
  case c3 => unfold maxLen; omega
  case c4 => omega
  case c5 => have := S0.out.2.2.2.2; simp; omega
  intro v1 w1 hown hgrow _
  have S1 := Lib.hid (nb_step S0.out hgrow hown)
  clear hown hgrow l0 l1 hs S0
  obtain ⟨-, -, l0, l1, hs⟩ := S1.out
  go_wp2
  rw [rounds_succ]
  go_wp2_with (at_builtin; refine wpList_append_own _ rfl _ _ 34 rfl (w.heap.size + 1) 29 i0 (c2 0 0) 2 8 Try.underlying34 II.out.1 II.out.2.1 II.out.2.2.1 II.out.2.2.2 rfl (by decide) _ 1 _ rfl (World.ownsRow.alloc S1.out.1 _) ⟨w1.heap.size, 0, none⟩ 1 1 [.int .i32 (x + -1), .int .i32 y] rfl rfl ?c1 ?c2 ?c3 ?c4 ?c5 ?_)
  case c1 => exact cell_two _ _ rfl _ _ _
  case c2 => simp [Value.oneCell']
  case c3 => unfold maxLen; omega
  case c4 => omega
  case c5 => have := S1.out.2.2.2.2; simp; omega
  intro v2 w2 hown hgrow _
  have S2 := Lib.hid (nb_step S1.out hgrow hown)
  clear hown hgrow l0 l1 hs S1
  obtain ⟨-, -, l0, l1, hs⟩ := S2.out
  go_wp2
  rw [rounds_succ]
  go_wp2_with (at_builtin; refine wpList_append_own _ rfl _ _ 34 rfl (w.heap.size + 1) 29 i0 (c2 0 0) 2 8 Try.underlying34 II.out.1 II.out.2.1 II.out.2.2.1 II.out.2.2.2 rfl (by decide) _ 2 _ rfl (World.ownsRow.alloc S2.out.1 _) ⟨w2.heap.size, 0, none⟩ 1 1 [.int .i32 (x + -1), .int .i32 (y + 1)] rfl rfl ?c1 ?c2 ?c3 ?c4 ?c5 ?_)
  case c1 => exact cell_two _ _ rfl _ _ _
  case c2 => simp [Value.oneCell']
  case c3 => unfold maxLen; omega
  case c4 => omega
  case c5 => have := S2.out.2.2.2.2; simp; omega
  intro v3 w3 hown hgrow _
  have S3 := Lib.hid (nb_step S2.out hgrow hown)
  clear hown hgrow l0 l1 hs S2
  obtain ⟨-, -, l0, l1, hs⟩ := S3.out
  go_wp2
  rw [rounds_succ]
  go_wp2
  clear l0 l1 hs
  rw [rounds_succ]
  obtain ⟨-, -, l0, l1, hs⟩ := S3.out
  go_wp2
  refine wp_loop_rounds 4 ?_; rw [rounds_succ]
  go_wp2_with (at_builtin; refine wpList_append_own _ rfl _ _ 34 rfl (w.heap.size + 1) 29 i0 (c2 0 0) 2 8 Try.underlying34 II.out.1 II.out.2.1 II.out.2.2.1 II.out.2.2.2 rfl (by decide) _ 3 _ rfl (World.ownsRow.alloc S3.out.1 _) ⟨w3.heap.size, 0, none⟩ 1 1 [.int .i32 x, .int .i32 (y + -1)] rfl rfl ?c1 ?c2 ?c3 ?c4 ?c5 ?_)
  case c1 => exact cell_two _ _ rfl _ _ _
  case c2 => simp [Value.oneCell']
  case c3 => unfold maxLen; omega
  case c4 => omega
  case c5 => have := S3.out.2.2.2.2; simp; omega
  intro v4 w4 hown hgrow _
  have S4 := Lib.hid (nb_step S3.out hgrow hown)
  clear hown hgrow l0 l1 hs S3
  obtain ⟨-, -, l0, l1, hs⟩ := S4.out
  go_wp2
  rw [rounds_succ]
  go_wp2
  rw [rounds_succ]
  go_wp2_with (at_builtin; refine wpList_append_own _ rfl _ _ 34 rfl (w.heap.size + 1) 29 i0 (c2 0 0) 2 8 Try.underlying34 II.out.1 II.out.2.1 II.out.2.2.1 II.out.2.2.2 rfl (by decide) _ 4 _ rfl (World.ownsRow.alloc S4.out.1 _) ⟨w4.heap.size, 0, none⟩ 1 1 [.int .i32 x, .int .i32 (y + 1)] rfl rfl ?c1 ?c2 ?c3 ?c4 ?c5 ?_)
  case c1 => exact cell_two _ _ rfl _ _ _
  case c2 => simp [Value.oneCell']
  case c3 => unfold maxLen; omega
  case c4 => omega
  case c5 => have := S4.out.2.2.2.2; simp; omega
  intro v5 w5 hown hgrow _
  have S5 := Lib.hid (nb_step S4.out hgrow hown)
  clear hown hgrow l0 l1 hs S4
  obtain ⟨-, -, l0, l1, hs⟩ := S5.out
  go_wp2
  rw [rounds_succ]
  go_wp2
  clear l0 l1 hs
  rw [rounds_succ]
  obtain ⟨-, -, l0, l1, hs⟩ := S5.out
  go_wp2
  refine wp_loop_rounds 4 ?_; rw [rounds_succ]
  go_wp2_with (at_builtin; refine wpList_append_own _ rfl _ _ 34 rfl (w.heap.size + 1) 29 i0 (c2 0 0) 2 8 Try.underlying34 II.out.1 II.out.2.1 II.out.2.2.1 II.out.2.2.2 rfl (by decide) _ 5 _ rfl (World.ownsRow.alloc S5.out.1 _) ⟨w5.heap.size, 0, none⟩ 1 1 [.int .i32 (x + 1), .int .i32 (y + -1)] rfl rfl ?c1 ?c2 ?c3 ?c4 ?c5 ?_)
  case c1 => exact cell_two _ _ rfl _ _ _
  case c2 => simp [Value.oneCell']
  case c3 => unfold maxLen; omega
  case c4 => omega
  case c5 => have := S5.out.2.2.2.2; simp; omega
  intro v6 w6 hown hgrow _
  have S6 := Lib.hid (nb_step S5.out hgrow hown)
  clear hown hgrow l0 l1 hs S5
  obtain ⟨-, -, l0, l1, hs⟩ := S6.out
  go_wp2
  rw [rounds_succ]
  go_wp2_with (at_builtin; refine wpList_append_own _ rfl _ _ 34 rfl (w.heap.size + 1) 29 i0 (c2 0 0) 2 8 Try.underlying34 II.out.1 II.out.2.1 II.out.2.2.1 II.out.2.2.2 rfl (by decide) _ 6 _ rfl (World.ownsRow.alloc S6.out.1 _) ⟨w6.heap.size, 0, none⟩ 1 1 [.int .i32 (x + 1), .int .i32 y] rfl rfl ?c1 ?c2 ?c3 ?c4 ?c5 ?_)
  case c1 => exact cell_two _ _ rfl _ _ _
  case c2 => simp [Value.oneCell']
  case c3 => unfold maxLen; omega
  case c4 => omega
  case c5 => have := S6.out.2.2.2.2; simp; omega
  intro v7 w7 hown hgrow _
  have S7 := Lib.hid (nb_step S6.out hgrow hown)
  clear hown hgrow l0 l1 hs S6
  obtain ⟨-, -, l0, l1, hs⟩ := S7.out
  go_wp2
  rw [rounds_succ]
  go_wp2_with (at_builtin; refine wpList_append_own _ rfl _ _ 34 rfl (w.heap.size + 1) 29 i0 (c2 0 0) 2 8 Try.underlying34 II.out.1 II.out.2.1 II.out.2.2.1 II.out.2.2.2 rfl (by decide) _ 7 _ rfl (World.ownsRow.alloc S7.out.1 _) ⟨w7.heap.size, 0, none⟩ 1 1 [.int .i32 (x + 1), .int .i32 (y + 1)] rfl rfl ?c1 ?c2 ?c3 ?c4 ?c5 ?_)
  case c1 => exact cell_two _ _ rfl _ _ _
  case c2 => simp [Value.oneCell']
  case c3 => unfold maxLen; omega
  case c4 => omega
  case c5 => have := S7.out.2.2.2.2; simp; omega
  intro v8 w8 hown hgrow _
  have S8 := Lib.hid (nb_step S7.out hgrow hown)
  clear hown hgrow l0 l1 hs S7
  obtain ⟨-, -, l0, l1, hs⟩ := S8.out
  go_wp2
  rw [rounds_succ]
  go_wp2
  clear l0 l1 hs
  rw [rounds_succ]
  go_wp2
  go_ret2
  refine ⟨v8, rfl, ?_⟩
  have e : nbL x y = [.int .i32 (x + -1), .int .i32 (y + -1), .int .i32 (x + -1), .int .i32 y, .int .i32 (x + -1), .int .i32 (y + 1), .int .i32 x, .int .i32 (y + -1), .int .i32 x, .int .i32 (y + 1), .int .i32 (x + 1), .int .i32 (y + -1), .int .i32 (x + 1), .int .i32 y, .int .i32 (x + 1), .int .i32 (y + 1)] := by
    simp only [nbL, Int.sub_eq_add_neg]
  rw [e]
  exact S8.out
end Go.Proofs.Ythngajpkhodnpaa
