/-
  Walks for NeighboursOf: both sides out of range; the law; how a [2]int32 that comes in is opened.
-/
import Derived.Test.YthngajpkhodnpaaNb5
set_option linter.unusedSimpArgs false
set_option linter.unusedVariables false
namespace Go.Proofs.Ythngajpkhodnpaa
open Go.RowKit

def zsL (x y : Int) : List (Int × Int) := [(x - 1, y - 1), (x - 1, y), (x - 1, y + 1), (x, y - 1), (x, y + 1), (x + 1, y - 1), (x + 1, y), (x + 1, y + 1)]
theorem nb_cells (x y : Int) (i : Nat) (hi : i < 8) : (nbL x y)[i * 2]? = some (.int .i32 ((zsL x y).getD i (0, 0)).1) ∧ (nbL x y)[i * 2 + 1]? = some (.int .i32 ((zsL x y).getD i (0, 0)).2) := by
  match i, hi with
  | 0, _ => exact ⟨rfl, rfl⟩
  | 1, _ => exact ⟨rfl, rfl⟩
  | 2, _ => exact ⟨rfl, rfl⟩
  | 3, _ => exact ⟨rfl, rfl⟩
  | 4, _ => exact ⟨rfl, rfl⟩
  | 5, _ => exact ⟨rfl, rfl⟩
  | 6, _ => exact ⟨rfl, rfl⟩
  | 7, _ => exact ⟨rfl, rfl⟩
  | n + 8, h => omega
theorem nb_out {w : World} {x y : Int} {v : Value} {w' : World} (S : NbS w x y v 8 (nbL x y) w') :
    ∃ g cap, v = .slice (some ⟨g, 0, none⟩) 8 cap ∧ w.heap.size < g ∧ g < w'.heap.size ∧ HoldsC w' g 8 (zsL x y) ∧ RowM (w.heap.size + 1) g cap (nbL x y) w' 0 w' ∧ Kept w w' := by
  obtain ⟨h1, h2, -, -, -⟩ := S
  obtain ⟨g, cap, rfl, hb, hlt⟩ := World.ownsRow.form h1 (by decide)
  refine ⟨g, cap, rfl, hb, hlt, fun i hi => ?_, ?_, h2⟩
  · rw [World.ownsRow.cellAt h1 _ (by omega), World.ownsRow.cellAt h1 _ (by omega)]
    exact nb_cells x y i hi
  · unfold RowM
    rw [mk_zero]
    exact ⟨h1, Below.refl _ _⟩
theorem HoldsC.below {w w' : World} {B g n : Nat} {zs : List (Int × Int)} (h : HoldsC w g n zs) (hk : Below B w w') (hg : g < B) : HoldsC w' g n zs := fun i hi =>
  ⟨(Below.cell hk (p := ⟨g, _, none⟩) hg).trans (h i hi).1, (Below.cell hk (p := ⟨g, _, none⟩) hg).trans (h i hi).2⟩
theorem nbL_int (x y : Int) : ∀ z ∈ nbL x y, ∃ k, z = .int .i32 k := by
  intro z hz
  simp only [nbL, List.mem_cons, List.not_mem_nil, or_false] at hz
  rcases hz with h | h | h | h | h | h | h | h | h | h | h | h | h | h | h | h <;> exact ⟨_, h⟩
/-- both sides in range -/
theorem specNbIn (x y : Int) (hx : inC x = true) (hy : inC y = true) (w : World) :
    Calls Try.prog 11 #[c2 x y] w fun e w' => ∃ g cap, e = .returned (.tuple #[.slice (some ⟨g, 0, none⟩) 8 cap, .int .i64 0]) ∧ (w.heap.size < g ∧ g < w'.heap.size) ∧ HoldsC w' g 8 (zsL x y) ∧ RowM (w.heap.size + 1) g cap (nbL x y) w' 0 w' ∧ Kept w w' := by
  refine (specNbGo x y hx hy w).mono ?_
  rintro _ w' ⟨v, rfl, S⟩
  obtain ⟨g, cap, rfl, h1, h2, h3⟩ := nb_out S
  exact ⟨g, cap, rfl, ⟨h1, h2⟩, h3⟩
theorem implNbIn (x y : Int) (hx : inC x = true) (hy : inC y = true) (w : World) :
    Calls Try.prog 10 #[c2 x y] w fun e w' => ∃ g cap, e = .returned (.tuple #[.slice (some ⟨g, 0, none⟩) 8 cap, .int .i64 0]) ∧ (w.heap.size < g ∧ g < w'.heap.size) ∧ HoldsC w' g 8 (zsL x y) ∧ RowM (w.heap.size + 1) g cap (nbL x y) w' 0 w' ∧ Kept w w' := by
  refine (implNbGo x y hx hy w).mono ?_
  rintro _ w' ⟨v, rfl, S⟩
  obtain ⟨g, cap, rfl, h1, h2, h3⟩ := nb_out S
  exact ⟨g, cap, rfl, ⟨h1, h2⟩, h3⟩
set_option maxHeartbeats 4000000 in
theorem specNbNo (x y : Int) (hx : I32 x) (hy : I32 y) (hn : (inC x && inC y) = false) (w : World) :
    Calls Try.prog 11 #[c2 x y] w fun e w' => ∃ g, e = .returned (.tuple #[.slice (some ⟨g, 0, none⟩) 0 0, .int .i64 2]) ∧ Kept w w' := by
  have HI := Lib.hid (specInR x y hx hy)
  rw [hn] at HI
  clear hn hx hy
  go_enter Try.func11, Try.ntmps11
  go_wp2_with fail
  refine (HI.out _).mono ?_
  rintro _ wa ⟨rfl, k1⟩
  have K1 := Lib.hid k1
  clear k1
  go_wp2
  go_ret2
  exact ⟨_, rfl, (Kept.trans ((Kept.refl w).alloc _) K1.out).alloc _⟩
set_option maxHeartbeats 4000000 in
theorem implNbNo (x y : Int) (hn : (inC x && inC y) = false) (w : World) :
    Calls Try.prog 10 #[c2 x y] w fun e w' => e = .returned (.tuple #[.slice none 0 0, .int .i64 2]) ∧ Kept w w' := by
  have HX := Lib.hid (implInR x)
  have HY := Lib.hid (implInR y)
  cases hx : inC x
  · rw [hx] at HX
    clear hn hx
    go_enter Try.func10, Try.ntmps10
    go_wp2_with fail
    refine (HX.out _).mono ?_
    rintro _ _ ⟨rfl, rfl⟩
    go_wp2
    go_ret2
    exact ⟨rfl, (Kept.refl w).alloc _⟩
  · rw [hx] at HX hn
    rw [Bool.true_and] at hn
    rw [hn] at HY
    clear hn hx
    go_enter Try.func10, Try.ntmps10
    go_wp2_with fail
    refine (HX.out _).mono ?_
    rintro _ _ ⟨rfl, rfl⟩
    go_wp2_with fail
    refine (HY.out _).mono ?_
    rintro _ _ ⟨rfl, rfl⟩
    go_wp2
    go_ret2
    exact ⟨rfl, (Kept.refl w).alloc _⟩
theorem cell_alloc2 (w : World) (x y : Int) (t : TypeId) : (w.alloc (.cells #[.int .i32 x, .int .i32 y] t)).cell? ⟨w.heap.size, 0, none⟩ = some (.int .i32 x) ∧ (w.alloc (.cells #[.int .i32 x, .int .i32 y] t)).cell? ⟨w.heap.size, 1, none⟩ = some (.int .i32 y) :=
  ⟨World.cell?_alloc_at _ _ _ _ rfl, World.cell?_alloc_at _ _ _ _ rfl⟩
end Go.Proofs.Ythngajpkhodnpaa
