/-
  Walks for NeighboursOf: a cell's test, both sides.
-/
import Derived.Test.YthngajpkhodnpaaDot2
import Derived.Lib.Hide
set_option linter.unusedSimpArgs false
set_option linter.unusedVariables false
namespace Go.Proofs.Ythngajpkhodnpaa
open Go.RowKit

abbrev c2 (x y : Int) : Value := .agg #[.int .i32 x, .int .i32 y]
def I32 (x : Int) : Prop := -2147483648 ≤ x ∧ x ≤ 2147483647
def inC (x : Int) : Bool := decide (-1073741823 ≤ x) && decide (x ≤ 1073741823)
theorem wide_i32 (x : Int) (h : I32 x) : IntKind.i64.wrap x = x := by
  obtain ⟨h1, h2⟩ := h
  rw [IntKind.wrap_i64]; omega
@[go_sem] theorem eq_c2 (a b a' b' : Int) (w : World) :
    (Op.equalIn 10000 29 (.agg #[.int .i32 a, .int .i32 b]) (.agg #[.int .i32 a', .int .i32 b'])).run Try.prog w = .ok (a == a' && b == b') w := by
  have u3 := Try.underlying21
  have a3 := Try.isAgg21
  have z3 := Try.sizeOf21
  rw [show (10000 : Nat) = 9999 + 1 from rfl, Op.equalIn]
  simp only [Sem.run_bind, run_underlying Try.underlying29, Result.andThen_ok]
  simp only [Std.Legacy.Range.forIn_eq_forIn_range', Std.Legacy.Range.size, Nat.sub_zero, Nat.add_sub_cancel, Nat.div_one, List.range'_succ, List.range'_zero, List.forIn_cons, List.forIn_nil]
  go_simp
  by_cases h1 : a = a'
  by_cases h2 : b = b'
  all_goals simp [*]
set_option maxHeartbeats 400000 in
theorem implInR (x : Int) (w : World) :
    Calls Try.prog 23 #[.int .i32 x, .int .i32 (-1073741823), .int .i32 1073741823] w fun e w' => e = .returned (.bool (inC x)) ∧ w = w' := by
  by_cases h1 : -1073741823 ≤ x
  · have e1 : decide (-1073741823 ≤ x) = true := decide_eq_true h1
    have e2 : inC x = decide (x ≤ 1073741823) := by unfold inC; simp [h1]
    rw [e2]
    clear h1 e2
    go_enter Try.func23, Try.ntmps23
    go_wp2
    go_ret
    exact ⟨rfl, rfl⟩
  · have e1 : decide (-1073741823 ≤ x) = false := decide_eq_false h1
    have e2 : inC x = false := by unfold inC; simp [h1]
    rw [e2]
    clear h1 e2
    go_enter Try.func23, Try.ntmps23
    go_wp2
    go_ret
    exact ⟨rfl, rfl⟩
set_option maxHeartbeats 400000 in
theorem specInR (x y : Int) (hx : I32 x) (hy : I32 y) (w : World) :
    Calls Try.prog 24 #[c2 x y, .int .i64 1073741823] w fun e w' => e = .returned (.bool (inC x && inC y)) ∧ Kept w w' := by
  have e1 := wide_i32 x hx
  have e2 := wide_i32 y hy
  have HI := fun n w => Lib.hid (specIn n (-1073741823) 1073741823 w)
  clear hx hy
  cases h1 : inC x
  all_goals
    have H1 := Lib.hid h1
    have h2 : decide (-1073741823 ≤ x ∧ x ≤ 1073741823) = inC x := by unfold inC; exact Bool.decide_and _ _
    rw [h1] at h2
    clear h1
    go_enter Try.func24, Try.ntmps24
    go_wp2_with (go_at_call 31; refine (HI _ _).out.mono ?_; rintro e w' ⟨rfl, rfl⟩)
    go_ret
    exact ⟨by rfl, by repeat (first | exact Kept.refl _ | apply Kept.alloc)⟩

def nbL (x y : Int) : List Value := [.int .i32 (x - 1), .int .i32 (y - 1), .int .i32 (x - 1), .int .i32 y, .int .i32 (x - 1), .int .i32 (y + 1), .int .i32 x, .int .i32 (y - 1), .int .i32 x, .int .i32 (y + 1), .int .i32 (x + 1), .int .i32 (y - 1), .int .i32 (x + 1), .int .i32 y, .int .i32 (x + 1), .int .i32 (y + 1)]
/-- the state between two appends -/
def NbS (w : World) (x y : Int) (v : Value) (n : Nat) (xs : List Value) (wr : World) : Prop :=
  wr.ownsRow (w.heap.size + 1) 29 2 v n xs ∧ Kept w wr ∧ wr.cell? ⟨w.heap.size, 0, none⟩ = some (.int .i32 x) ∧ wr.cell? ⟨w.heap.size, 1, none⟩ = some (.int .i32 y) ∧ w.heap.size < wr.heap.size
theorem nb_step {w : World} {x y : Int} {v v' : Value} {n m : Nat} {xs ys : List Value} {wr w' : World} {o : Obj} (S : NbS w x y v n xs wr) (hg : (wr.alloc o).grownBy w' v.ownBlock)
    (hown : w'.ownsRow (w.heap.size + 1) 29 2 v' m ys) : NbS w x y v' m ys w' := by
  obtain ⟨h1, h2, h3, h4, h5⟩ := S
  have B : Below (w.heap.size + 1) wr w' := Below.grown ((Below.refl _ wr).alloc h5 o) hg (by simp; omega) (fun k hk => (h1.lt k hk).1)
  refine ⟨hown, Below.trans h2 (B.mono (Nat.le_succ _)), (Below.cell B (p := ⟨w.heap.size, 0, none⟩) (Nat.lt_succ_self _)).trans h3, (Below.cell B (p := ⟨w.heap.size, 1, none⟩) (Nat.lt_succ_self _)).trans h4, ?_⟩
  have := B.size
  omega
theorem cell_two (W : World) (n : Nat) (hn : n = W.heap.size) (u v : Value) (t : TypeId) : ∀ (j : Nat) (z : Value), [u, v][j]? = some z → (W.alloc (.cells #[u, v] t)).cell? ((⟨n, 0, none⟩ : Addr).add j) = some z := by
  intro j z hj
  match j, hj with
  | 0, hj =>
    simp at hj; subst hj
    show (W.alloc (.cells #[u, v] t)).cell? ⟨n, 0, none⟩ = _
    rw [World.cell?_alloc_at _ _ _ _ hn]; rfl
  | 1, hj =>
    simp at hj; subst hj
    show (W.alloc (.cells #[u, v] t)).cell? ⟨n, 1, none⟩ = _
    rw [World.cell?_alloc_at _ _ _ _ hn]; rfl
  | k + 2, hj => simp at hj
theorem own_start2 (w : World) (B : Nat) (hB : B ≤ w.heap.size) (t : TypeId) : (w.alloc (.cells #[] t)).ownsRow B t 2 (.slice (some ⟨w.heap.size, 0, none⟩) 0 0) 0 [] :=
  World.ownsRow_made w #[] 0 hB (by decide) rfl
theorem infoCell : (Try.prog.info? 29).map (fun i => (i.zero, i.size, i.bytes)) = some (some (c2 0 0), 2, 8) := by kernel_rfl
end Go.Proofs.Ythngajpkhodnpaa
