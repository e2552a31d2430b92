/-
  Laws of the walk for float operations whose answer the model draws: the result is a NaN, of bits that the tape names.
-/
import Derived.Test.YtbceiphiopdegaaBits
import Derived.Laws.NewFold
import Derived.Deep.Draws
namespace Go.Proofs.Ytbceiphiopdegaa
open Ieee

def nvArith (k : FloatKind) (x y : Nat) (w : World) : Nat := (Question.nanBits k x y).cut (w.tape w.drawn (.nanBits k x y))
def nvConv (k : FloatKind) (b : Nat) (w : World) : Nat := (Question.nanConv k b).cut (w.tape w.drawn (.nanConv k b))

theorem cut32_nan (t : Nat) : nanB ((t % 2) * 2 ^ 31 + 0x7f800000 + 1 + (t / 2) % (2 ^ 23 - 1)) = true ∧ (t % 2) * 2 ^ 31 + 0x7f800000 + 1 + (t / 2) % (2 ^ 23 - 1) < 4294967296 := by
  unfold nanB
  have h1 : t / 2 % (2 ^ 23 - 1) < 8388607 := Nat.mod_lt _ (by decide)
  have h2 : t % 2 < 2 := Nat.mod_lt _ (by decide)
  generalize t / 2 % (2 ^ 23 - 1) = u at *
  generalize t % 2 = v at *
  have h3 : v = 0 ∨ v = 1 := by omega
  refine ⟨decide_eq_true ?_, ?_⟩ <;> rcases h3 with rfl | rfl <;> omega
theorem cut64_nan (t : Nat) : nan64 ((t % 2) * 2 ^ 63 + 0x7ff0000000000000 + 1 + (t / 2) % (2 ^ 52 - 1)) = true := by
  unfold nan64
  have h1 : t / 2 % (2 ^ 52 - 1) < 4503599627370495 := Nat.mod_lt _ (by decide)
  have h2 : t % 2 < 2 := Nat.mod_lt _ (by decide)
  generalize t / 2 % (2 ^ 52 - 1) = u at *
  generalize t % 2 = v at *
  have h3 : v = 0 ∨ v = 1 := by omega
  refine decide_eq_true ?_
  rcases h3 with rfl | rfl <;> omega
theorem nvArith32 (x y : Nat) (w : World) : nanB (nvArith .f32 x y w) = true := (cut32_nan _).1
theorem nvArith32_lt (x y : Nat) (w : World) : nvArith .f32 x y w < 4294967296 := (cut32_nan _).2
theorem nvConv32 (b : Nat) (w : World) : nanB (nvConv .f32 b w) = true := (cut32_nan _).1
theorem nvConv32_lt (b : Nat) (w : World) : nvConv .f32 b w < 4294967296 := (cut32_nan _).2
theorem nvArith64 (x y : Nat) (w : World) : nan64 (nvArith .f64 x y w) = true := cut64_nan _
theorem nvConv64 (b : Nat) (w : World) : nan64 (nvConv .f64 b w) = true := cut64_nan _

section
variable {P : Program} (w : World)
theorem run_arith_nan (op : BinOp) (hop : op = .add ∨ op = .sub ∨ op = .mul ∨ op = .quo) (t : TypeId) (k : FloatKind) (x y : Nat) (h : floatBits op k x y = none) :
    (binOp op t (.float k x) (.float k y)).run P w = .ok (.float k (nvArith k x y w)) w.drew := by
  rcases hop with rfl | rfl | rfl | rfl <;> (simp only [floatBits] at h; simp [binOp, Op.floatArith, h, Question.forced, nvArith])

theorem run_conv_nan (src dst : TypeId) (s k : FloatKind) (b : Nat) (hs : (P.underlying src).isSome = true) (hd : P.underlying dst = some (.float k)) (hne : s ≠ k) (hok : s.format.binade ≤ s.format.infRung) (h : isnan s.format b = true) :
    (convert src dst (.float s b)).run P w = .ok (.float k (nvConv k b w)) w.drew := by
  obtain ⟨u, hs'⟩ := Option.isSome_iff_exists.1 hs
  have hd' : s.decode b = .nan (sgn s.format b) (rung s.format b - s.format.infRung) := read_nan s.format hok b (by simpa [isnan] using h)
  cases u <;> simp [convert, run_underlying hs', run_underlying hd, Conv.floatToFloat, hne, hd', Question.forced, nvConv]
end

/-- x op y, whatever they are: the bits, and the world behind -/
def arB (op : BinOp) (k : FloatKind) (x y : Nat) (w : World) : Nat := (floatBits op k x y).getD (nvArith k x y w)
def arW (op : BinOp) (k : FloatKind) (x y : Nat) (w : World) : World := if (floatBits op k x y).isNone then w.drew else w
theorem arW_is (op : BinOp) (k : FloatKind) (x y : Nat) (w : World) : ∃ n, arW op k x y w = w.drewN n := by
  unfold arW; split
  · exact ⟨1, rfl⟩
  · exact ⟨0, rfl⟩
theorem run_ar {P : Program} (op : BinOp) (hop : op = .add ∨ op = .sub ∨ op = .mul ∨ op = .quo) (t : TypeId) (k : FloatKind) (x y : Nat) (w : World) :
    (binOp op t (.float k x) (.float k y)).run P w = .ok (.float k (arB op k x y w)) (arW op k x y w) := by
  unfold arB arW
  cases h : floatBits op k x y with
  | none => exact run_arith_nan w op hop t k x y h
  | some r => exact run_float_arith w op t k x y r h
theorem arB_lt32 (op : BinOp) (x y : Nat) (w : World) : arB op .f32 x y w < 4294967296 := by
  unfold arB
  cases h : floatBits op .f32 x y with
  | none => exact nvArith32_lt x y w
  | some r =>
    have := floatBits_wf h
    simpa [Lit.wf] using this
/-- the same number, narrow -/
def eqn (x y : Nat) : Prop := x = y ∨ nanB x = true ∧ nanB y = true
theorem floatBits_nan (op : BinOp) (k : FloatKind) (hk : k.format.binade ≤ k.format.infRung) (x y : Nat) (h : isnan k.format x = true ∨ isnan k.format y = true) : floatBits op k x y = none := by
  have hx : ∀ z, isnan k.format z = true → k.format.read z = .nan (sgn k.format z) (rung k.format z - k.format.infRung) := fun z hz => read_nan _ hk z (by simpa [isnan] using hz)
  unfold floatBits
  cases op <;> try rfl
  all_goals (simp only [Format.add, Format.sub, Format.mul, Format.div]; rcases h with h | h)
  all_goals (rw [hx _ h]; first | rfl | (cases k.format.read x <;> rfl))
/-- a sum, product, quotient of the same numbers is the same number, in whatever worlds -/
theorem ar_eqn (op : BinOp) (x y x' y' : Nat) (w w' : World) (hx : eqn x x') (hy : eqn y y') : eqn (arB op .f32 x y w) (arB op .f32 x' y' w') := by
  have nan1 : ∀ a b w, nanB a = true ∨ nanB b = true → nanB (arB op .f32 a b w) = true := by
    intro a b w h
    have : floatBits op .f32 a b = none := floatBits_nan op .f32 okS a b (by rw [show FloatKind.f32.format = single from rfl, isnan_single, isnan_single]; exact h)
    unfold arB; rw [this]; exact nvArith32 a b w
  by_cases hn : nanB x = true ∨ nanB y = true
  · refine .inr ⟨nan1 x y w hn, nan1 x' y' w' ?_⟩
    rcases hn with hn | hn
    · rcases hx with rfl | hx; exact .inl hn; exact .inl hx.2
    · rcases hy with rfl | hy; exact .inr hn; exact .inr hy.2
  · have e1 : x = x' := by rcases hx with h | h; exact h; exact absurd (.inl h.1) hn
    have e2 : y = y' := by rcases hy with h | h; exact h; exact absurd (.inr h.1) hn
    subst e1 e2
    unfold arB
    cases floatBits op .f32 x y with
    | none => exact .inr ⟨nvArith32 _ _ _, nvArith32 _ _ _⟩
    | some r => exact .inl (by rw [Option.getD_some, Option.getD_some])
theorem sub_self_B (a : Nat) (w : World) : (FloatKind.f32.format.order (arB .sub .f32 a a w) 0 == some .eq) = finB a := by
  rw [zero_single]
  unfold arB floatBits
  simp only [show FloatKind.f32.format = single from rfl]
  by_cases h : rung single a < single.infRung
  · rw [sub_self_fin single a h]
    rw [infS] at h; unfold rung at h; rw [swS] at h
    rw [Option.getD_some]; unfold finB; rw [decide_eq_decide]; omega
  · rw [sub_self_inf single okS a h]
    rw [infS] at h; unfold rung at h; rw [swS] at h
    have := of_decide_eq_true (nvArith32 a a w)
    simp only [Option.getD_none, finB, decide_eq_decide]
    omega

/-- the widened number -/
def wideB (a : Nat) : Nat := (floatToFloatBits .f32 a .f64).getD 0
theorem wide_some (a : Nat) (h : nanB a = false) : floatToFloatBits .f32 a .f64 = some (wideB a) := by
  obtain ⟨r, h1, _⟩ := widen a (by rw [isnan_single]; exact h)
  unfold wideB; rw [h1]; rfl
theorem wide_num (a : Nat) (h : nanB a = false) : nan64 (wideB a) = false := by
  obtain ⟨r, h1, h2, _⟩ := widen a (by rw [isnan_single]; exact h)
  unfold wideB; rw [h1, ← isnan_double]; exact h2

/-- float64(a), whatever a is: the bits, in a world -/
def cvB (a : Nat) (w : World) : Nat := if nanB a then nvConv .f64 a w else wideB a
def cvW (a : Nat) (w : World) : World := if nanB a then w.drew else w
theorem cvW_is (a : Nat) (w : World) : ∃ n, cvW a w = w.drewN n := by
  unfold cvW; split
  · exact ⟨1, rfl⟩
  · exact ⟨0, rfl⟩
theorem run_cv {P : Program} (src dst : TypeId) (a : Nat) (w : World) (hs : (P.underlying src).isSome = true) (hd : P.underlying dst = some (.float .f64)) :
    (convert src dst (.float .f32 a)).run P w = .ok (.float .f64 (cvB a w)) (cvW a w) := by
  unfold cvB cvW
  cases h : nanB a
  · exact run_convert_float_float w src dst .f32 .f64 a _ hs hd (wide_some a h)
  · exact run_conv_nan w src dst .f32 .f64 a hs hd (by decide) okS (by rw [← isnan_single] at h; exact h)
/-- a store of a float, of a complex number into a cell -/
@[go_sem] theorem run_store_float (P : Program) (w : World) (a : Addr) (m : Mode) (k : FloatKind) (b : Nat) : (store a (.float k b) m).run P w = stored P w a (.float k b) m := run_store P w a _ m rfl
@[go_sem] theorem run_store_complex (P : Program) (w : World) (a : Addr) (m : Mode) (k : FloatKind) (b c : Nat) : (store a (.complex k b c) m).run P w = stored P w a (.complex k b c) m := run_store P w a _ m rfl
@[simp, go_sem] theorem cell_cvW (a : Nat) (w : World) (p : Addr) : (cvW a w).cell? p = w.cell? p := by unfold cvW; split <;> rfl
@[simp, go_sem] theorem frozen_cvW (a : Nat) (w : World) (p : Addr) : (cvW a w).frozen? p = w.frozen? p := by unfold cvW; split <;> rfl
@[simp, go_sem] theorem heap_cvW (a : Nat) (w : World) : (cvW a w).heap = w.heap := by unfold cvW; split <;> rfl
@[simp, go_sem] theorem cell_arW (op : BinOp) (k : FloatKind) (x y : Nat) (w : World) (p : Addr) : (arW op k x y w).cell? p = w.cell? p := by unfold arW; split <;> rfl
@[simp, go_sem] theorem frozen_arW (op : BinOp) (k : FloatKind) (x y : Nat) (w : World) (p : Addr) : (arW op k x y w).frozen? p = w.frozen? p := by unfold arW; split <;> rfl
@[simp, go_sem] theorem heap_arW (op : BinOp) (k : FloatKind) (x y : Nat) (w : World) : (arW op k x y w).heap = w.heap := by unfold arW; split <;> rfl
/-- the same number, seen wide -/
def eqv (x y : Nat) : Prop := x = y ∨ nan64 x = true ∧ nan64 y = true
theorem cv_eqv (a b : Nat) (w w' : World) (h : a = b ∨ nanB a = true ∧ nanB b = true) : eqv (cvB a w) (cvB b w') := by
  unfold cvB
  by_cases hn : nanB a = true
  · have hb : nanB b = true := by rcases h with rfl | h; exact hn; exact h.2
    rw [if_pos hn, if_pos hb]
    exact .inr ⟨nvConv64 _ _, nvConv64 _ _⟩
  · rcases h with rfl | h
    · rw [if_neg hn, if_neg hn]; exact .inl rfl
    · exact absurd h.1 hn
end Go.Proofs.Ytbceiphiopdegaa
