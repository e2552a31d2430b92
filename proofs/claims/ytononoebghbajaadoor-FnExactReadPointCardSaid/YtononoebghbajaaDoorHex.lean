/-
  Walks for RealText: strconv.FormatUint at base 16, at a number of nine digits.
-/
import Derived.Test.YtononoebghbajaaDoorFrame
import Derived.Test.YtononoebghbajaaDoorReal2
import Derived.Laws.BytesArg
import Derived.Laws.Bits64b
import Derived.Lib.Hide
import Derived.Outline
set_option linter.unusedSimpArgs false
set_option linter.unusedVariables false
namespace Go.Proofs.YtononoebghbajaaDoor
open Go.RowKit

/-- a digit's letter -/
def hexB (d : Nat) : Nat := if d < 10 then 48 + d else 87 + d
theorem hexB_lt (d : Nat) (h : d < 16) : hexB d < 256 := by unfold hexB; split <;> omega
set_option maxRecDepth 100000 in
theorem digit36 (d : Nat) (h : d < 16) (h' : d < (⟨#[48, 49, 50, 51, 52, 53, 54, 55, 56, 57, 97, 98, 99, 100, 101, 102, 103, 104, 105, 106, 107, 108, 109, 110, 111, 112, 113, 114, 115, 116, 117, 118, 119, 120, 121, 122]⟩ : ByteArray).size) : (((⟨#[48, 49, 50, 51, 52, 53, 54, 55, 56, 57, 97, 98, 99, 100, 101, 102, 103, 104, 105, 106, 107, 108, 109, 110, 111, 112, 113, 114, 115, 116, 117, 118, 119, 120, 121, 122]⟩ : ByteArray)[d]'h').toNat) = hexB d := by
  have hd : d = 0 ∨ d = 1 ∨ d = 2 ∨ d = 3 ∨ d = 4 ∨ d = 5 ∨ d = 6 ∨ d = 7 ∨ d = 8 ∨ d = 9 ∨ d = 10 ∨ d = 11 ∨ d = 12 ∨ d = 13 ∨ d = 14 ∨ d = 15 := by omega
  clear h
  rcases hd with rfl | rfl | rfl | rfl | rfl | rfl | rfl | rfl | rfl | rfl | rfl | rfl | rfl | rfl | rfl | rfl <;> rfl
theorem and_u64_15 (v : Nat) (h : v < 18446744073709551616) : bits .and .u64 (v : Int) 15 = ((v % 16 : Nat) : Int) := by
  rw [show (15 : Int) = ((15 : Nat) : Int) from rfl, bits_and_u64_nat v 15 h (by decide), show (15 : Nat) = 2 ^ 4 - 1 from rfl, Nat.and_two_pow_sub_one_eq_mod]
theorem tzKey : IntKind.u64.wrap (bits BinOp.and IntKind.u64 16 (IntKind.u64.wrap (-16)) * 285870213051353865) / 288230376151711744 = 15 := by kernel_rfl
/-- the de Bruijn table's one cell that base 16 reads -/
def Tab16 (w : World) : Prop := w.cell? ⟨7, 15, none⟩ = some (.int .u8 4)
theorem tz16 (w : World) (h : Tab16 w) : Calls Tryd.prog 58 #[.int .u64 16] w fun e w' => e = .returned (.int .i64 4) ∧ w = w' := by
  unfold Tab16 at h
  have hk := tzKey
  go_enter Tryd.func58, Tryd.ntmps58
  go_wp2
  go_ret
  exact ⟨rfl, rfl⟩
theorem pow2_16 (w : World) : Calls Tryd.prog 57 #[.int .i64 16] w fun e w' => e = .returned (.bool true) ∧ w = w' := by
  have hk : bits BinOp.and IntKind.i64 16 15 = 0 := by kernel_rfl
  go_enter Tryd.func57, Tryd.ntmps57
  go_wp2
  go_ret
  exact ⟨rfl, rfl⟩
/-- the row of 65 letters behind t rounds: from the end on t digits of U -/
def DigS (w0 : World) (g U t : Nat) (wr : World) : Prop :=
  (∀ j, j < 65 → ∃ z, wr.cell? ⟨g, j, none⟩ = some z) ∧ (∀ j, wr.frozen? ⟨g, j, none⟩ = false) ∧ (∀ k, k < t → wr.cell? ⟨g, 64 - k, none⟩ = some (.int .u8 (hexB (U / 16 ^ k % 16) : Nat))) ∧ Kept w0 wr ∧ w0.heap.size ≤ g
theorem DigS.step {w0 : World} {g U t : Nat} {wr : World} (h : DigS w0 g U t wr) (ht : t < 65) : DigS w0 g U (t + 1) (wr.setCell ⟨g, 64 - t, none⟩ (.int .u8 (hexB (U / 16 ^ t % 16) : Nat))) := by
  obtain ⟨h1, h2, h3, h4, h5⟩ := h
  obtain ⟨z, hz⟩ := h1 (64 - t) (by omega)
  refine ⟨fun j hj => ?_, fun j => ?_, fun k hk => ?_, Kept.setCell h4 h5 _, h5⟩
  · by_cases e : j = 64 - t
    · subst e; exact ⟨_, World.cell?_setCell_same _ _ _ hz⟩
    · rw [World.cell?_setCell_other _ _ _ _ (by simp only [ne_eq, Addr.mk.injEq, true_and, and_true]; omega)]; exact h1 j hj
  · rw [World.frozen?_setCell]; exact h2 j
  · by_cases e : k = t
    · subst e; exact World.cell?_setCell_same _ _ _ hz
    · rw [World.cell?_setCell_other _ _ _ _ (by simp only [ne_eq, Addr.mk.injEq, true_and, and_true]; omega)]; exact h3 k (by omega)
theorem zero65 : ∀ j, j < 65 → (Tryd.zeroCells82)[j]? = some (.int .u8 0) := by
  have h : (List.range 65).all (fun j => match (Tryd.zeroCells82)[j]? with | some (.int .u8 0) => true | _ => false) = true := by decide +kernel
  intro j hj
  have := List.all_eq_true.1 h j (List.mem_range.2 hj)
  revert this
  cases (Tryd.zeroCells82)[j]? with
  | none => simp
  | some v => cases v <;> simp
              split <;> simp_all
theorem DigS.zero (w : World) (U : Nat) : DigS w w.heap.size U 0 (w.alloc (.cells Tryd.zeroCells82 82)) :=
  ⟨fun j hj => ⟨_, (World.cell?_alloc_at _ _ _ _ rfl).trans (zero65 j hj)⟩, fun j => World.frozen?_alloc_new _ _ _ _, fun k hk => absurd hk (Nat.not_lt_zero _), (Kept.refl w).alloc _, Nat.le_refl _⟩
/-- the last k digits of U, the greatest first -/
def hexL (U : Nat) : Nat → List Int
  | 0 => []
  | k + 1 => ((hexB (U / 16 ^ k % 16) : Nat) : Int) :: hexL U k
theorem hexL_len (U : Nat) : ∀ k, (hexL U k).length = k
  | 0 => rfl
  | k + 1 => by simp [hexL, hexL_len U k]
theorem hexL_get (U : Nat) : ∀ k i, i < k → (hexL U k).getD i 0 = ((hexB (U / 16 ^ (k - 1 - i) % 16) : Nat) : Int)
  | 0, i, h => by omega
  | k + 1, 0, _ => by simp [hexL]
  | k + 1, i + 1, h => by
    have := hexL_get U k i (by omega)
    simp only [hexL, List.getD_cons_succ]
    rw [this, show k + 1 - 1 - (i + 1) = k - 1 - i by omega]
theorem DigS.text {w0 : World} {g U : Nat} {wr : World} (h : DigS w0 g U 9 wr) :
    (convert 56 9 (.slice (some ⟨g, 56, none⟩) 9 9)).run Tryd.prog wr = .ok (.string (strOfNums (hexL U 9))) wr := by
  refine run_convert_bytes_arg wr 56 5 Tryd.underlying56 Tryd.underlying5 g 56 9 9 (hexL U 9) (hexL_len U 9) (fun i hi => ?_) 9 Tryd.underlying9
  rw [hexL_get U 9 i hi]
  have := h.2.2.1 (9 - 1 - i) (by omega)
  rw [show 64 - (9 - 1 - i) = 56 + i by omega] at this
  exact this
set_option maxRecDepth 100000 in
set_option maxHeartbeats 4000000 in
theorem formatHex (U : Nat) (h1 : 4294967296 ≤ U) (h2 : U < 8589934592) (w : World) (hT : Tab16 w) :
    Calls Tryd.prog 46 #[.slice none 0 0, .int .u64 (U : Int), .int .i64 16, .bool false, .bool false] w fun e w' => e = .returned (.tuple #[.slice none 0 0, .string (strOfNums (hexL U 9))]) ∧ Kept w w' := by
  have D0 := Lib.hid (DigS.zero w U)
  have T0 : Hid (Tab16 (w.alloc (.cells Tryd.zeroCells82 82))) := ((Kept.refl w).alloc _).cell hT
  clear hT
  go_enter Tryd.func46, Tryd.ntmps46
  go_wp2_with (first | (go_at_call 57; refine (pow2_16 _).mono ?_; rintro e w' ⟨rfl, rfl⟩) | (go_at_call 58; refine (tz16 _ T0.out).mono ?_; rintro e w' ⟨rfl, rfl⟩))
  clear T0
  generalize w.alloc (.cells Tryd.zeroCells82 82) = w1 at *
  generalize hg : w.heap.size = g at *
  clear hg
  go_loopw [1, 13] (fun u i wr => ∃ t p v : Nat, t ≤ 8 ∧ u = .int .u64 (v : Int) ∧ i = .int .i64 (p : Int) ∧ p + t = 65 ∧ Hid (v = U / 16 ^ t ∧ DigS w g U t wr)) (fun _ i _ => (intOf i).toNat)
  case atStart => exact ⟨0, 65, U, by omega, rfl, rfl, rfl, Lib.hid ⟨by simp, D0.out⟩⟩
  case round =>
    obtain ⟨t, p, v, ht, rfl, rfl, hp, H⟩ := hrel
    by_cases hlt : t < 8
    · have v1 : 16 ≤ v ∧ v < 8589934592 := by
        have e := H.out.1
        have ht : t = 0 ∨ t = 1 ∨ t = 2 ∨ t = 3 ∨ t = 4 ∨ t = 5 ∨ t = 6 ∨ t = 7 := by omega
        rcases ht with rfl | rfl | rfl | rfl | rfl | rfl | rfl | rfl <;> (rw [e]; constructor <;> omega)
      obtain ⟨v1, v2⟩ := v1
      have HN : Hid (v / 16 = U / 16 ^ (t + 1) ∧ DigS w g U (t + 1) (wr.setCell ⟨g, p - 1, none⟩ (.int .u8 (hexB (v % 16) : Nat)))) := by
        have e := H.out.1
        have s := H.out.2.step (by omega)
        rw [← e, show 64 - t = p - 1 by omega] at s
        exact Lib.hid ⟨by rw [e, Nat.pow_succ, Nat.div_div_eq_div_mul], s⟩
      obtain ⟨z, hz⟩ := H.out.2.1 (p - 1) (by omega)
      have hf := H.out.2.2.1 (p - 1)
      have hb := and_u64_15 v (by omega)
      have hp1 : ((p : Int) - 1).toNat = p - 1 := by omega
      have hp0 : (1 : Int) ≤ (p : Int) := by omega
      have hp65 : (p : Int) ≤ 65 := by omega
      have hm : v % 16 < 16 := by omega
      have HP := Lib.hid (And.intro hp hlt)
      clear h1 h2 ht hp hlt D0 H
      go_wp2
      go_roundw
      case rel => exact ⟨t + 1, p - 1, v / 16, by have := HP.out; omega, by go_num, by go_num, by have := HP.out; omega, by rw [digit36 (v % 16) hm]; exact HN⟩
      case measure => simp [intOf]; omega
    · obtain rfl : t = 8 := by omega
      obtain rfl : p = 57 := by omega
      obtain rfl : v = 1 := by rw [H.out.1]; omega
      have HN : Hid (DigS w g U 9 (wr.setCell ⟨g, 56, none⟩ (.int .u8 49))) := by
        have s := H.out.2.step (by omega)
        rw [← H.out.1] at s
        exact s
      obtain ⟨z, hz⟩ := H.out.2.1 56 (by omega)
      have hf := H.out.2.2.1 56
      have hcv : (convert 56 9 (.slice (some ⟨g, 56, none⟩) 9 9)).run Tryd.prog (wr.setCell ⟨g, 56, none⟩ (.int .u8 ((((⟨#[48, 49, 50, 51, 52, 53, 54, 55, 56, 57, 97, 98, 99, 100, 101, 102, 103, 104, 105, 106, 107, 108, 109, 110, 111, 112, 113, 114, 115, 116, 117, 118, 119, 120, 121, 122]⟩ : ByteArray)[1]'(by decide)).toNat : Nat) : Int))) = .ok (.string (strOfNums (hexL U 9))) (wr.setCell ⟨g, 56, none⟩ (.int .u8 ((((⟨#[48, 49, 50, 51, 52, 53, 54, 55, 56, 57, 97, 98, 99, 100, 101, 102, 103, 104, 105, 106, 107, 108, 109, 110, 111, 112, 113, 114, 115, 116, 117, 118, 119, 120, 121, 122]⟩ : ByteArray)[1]'(by decide)).toNat : Nat) : Int))) := HN.out.text
      clear h1 h2 ht D0 H
      go_wp2
      go_ret2
      exact ⟨rfl, HN.out.2.2.2.1⟩
end Go.Proofs.YtononoebghbajaaDoor
