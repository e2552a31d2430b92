/-
  Walks for ReadReal: strconv.ParseUint at base 16 and 32 bits.
-/
import Derived.Test.YtononoebghbajaaDoorHex2
import Derived.Test.YtononoebghbajaaDoorShelfD
import Derived.Lib.Strings
import Derived.Lib.Walk
import Derived.Lib.ConvBytes
import Derived.Lib.IfaceNeq
import Derived.Laws.Strings3
import Derived.Laws.Closers25
import Derived.Laws.Closers25b
import Derived.Laws.BitsAllLaws
import Derived.WalkKit
import Derived.WalkSpells
import Derived.BigCall
import Derived.BigGuard
set_option linter.unusedSimpArgs false
set_option linter.unusedVariables false
namespace Go.Proofs.YtononoebghbajaaDoor
open Go.RowKit

/-- a letter with the bit of small letters -/
def lowN (c : UInt8) : Nat := c.toNat ||| 32
/-- the value of a hexadecimal digit -/
def hexV (c : UInt8) : Option Nat := if 48 ≤ c.toNat ∧ c.toNat ≤ 57 then some (c.toNat - 48) else if 97 ≤ lowN c ∧ lowN c ≤ 102 then some (lowN c - 87) else none
/-- the number of hexadecimal digits, of at most 32 bits -/
def P16 : Nat → List UInt8 → Option Nat
  | acc, [] => some acc
  | acc, c :: r => match hexV c with
    | none => none
    | some d => if 4294967295 < acc * 16 + d then none else P16 (acc * 16 + d) r
theorem lowN_bits (c : UInt8) : bits .or .u8 (c.toNat : Int) 32 = (lowN c : Int) := by
  rw [show (32 : Int) = ((32 : Nat) : Int) from rfl, u8_or_nat c.toNat 32 c.toNat_lt (by decide)]; rfl
theorem lowN_lt (c : UInt8) : lowN c < 256 := by
  have h := bits_hi_u8 .or (c.toNat : Int) 32
  rw [lowN_bits] at h
  omega
def Parsed (l : List UInt8) (w : World) (e : Ending) (w' : World) : Prop :=
  ((∃ v : Nat, P16 0 l = some v ∧ v < 4294967296 ∧ e = .returned (.tuple #[.int .u64 (v : Int), .nilIface])) ∨ (P16 0 l = none ∧ ∃ x c : Int, (c = 1 ∨ c = 2) ∧ e = .returned (.tuple #[.int .u64 x, .iface 62 (.int .i64 c)]))) ∧ Kept w w'
theorem Parsed.ok {l : List UInt8} {w w' : World} {v : Nat} (h : P16 0 l = some v) (hv : v < 4294967296) (hk : Kept w w') : Parsed l w (.returned (.tuple #[.int .u64 (v : Int), .nilIface])) w' := ⟨.inl ⟨v, h, hv, rfl⟩, hk⟩
theorem Parsed.bad {l : List UInt8} {w w' : World} {x c : Int} (h : P16 0 l = none) (hc : c = 1 ∨ c = 2) (hk : Kept w w') : Parsed l w (.returned (.tuple #[.int .u64 x, .iface 62 (.int .i64 c)])) w' := ⟨.inr ⟨h, x, c, hc, rfl⟩, hk⟩
theorem bytes_kept (w : World) (e : TypeId) (s : ByteArray) : Kept w (Lib.bytesWorld w e s) := Lib.bytesWorld_below _ _ _
set_option maxHeartbeats 32000000 in
set_option maxRecDepth 100000 in
theorem parseIn (t : ByteArray) (hne : t.size ≠ 0) (hmax : t.size ≤ 9223372036854775806) (w : World) :
    Calls Tryd.prog 31 #[.string t, .int .i64 16, .int .i64 32] w (Parsed t.data.toList w) := by
  have hemp : t.toList.isEmpty = false := by
    rw [← decide_eq_emptyBytes]
    exact decide_eq_false (fun h => hne (by rw [h]; rfl))
  have hcv := Lib.run_convert_string_bytes (P := Tryd.prog) w 9 56 5 t (u := .string) Tryd.underlying9 Tryd.underlying56 Tryd.underlying5
  have hB : ∀ j, j < t.size → (Lib.bytesWorld w 5 t).cell? ⟨w.heap.size, j, none⟩ = some (.int .u8 (t.data.toList.getD j 0).toNat) := fun j hj => Lib.bytesWorld_cell w 5 t j hj
  have HK := Lib.hid (bytes_kept w 5 t)
  generalize Lib.bytesWorld w 5 t = W1 at *
  obtain ⟨bs, hL⟩ : ∃ bs, bs = t.data.toList := ⟨_, rfl⟩
  have hLn : bs.length = t.size := by rw [hL, Lib.size_eq]
  rw [← hL] at hB ⊢
  clear hL
  have hmv : IntKind.u64.wrap (IntKind.u64.wrap 4294967296 - 1) = 4294967295 := by
    rw [IntKind.wrap_u64, IntKind.wrap_u64]
    decide
  go_enter Tryd.func31, Tryd.ntmps31
  go_wp2
  go_loop [12, 13, 101] (fun vu vn vi => ∃ (k acc : Nat) (a : Int), vu = .bool false ∧ vn = .int .u64 a ∧ vi = .int .i64 k ∧ k ≤ t.size ∧ Hid (a = (acc : Int) ∧ acc ≤ 4294967295 ∧ P16 0 bs = P16 acc (bs.drop k)))
    (fun _ _ vi => t.size - (intOf vi).toNat)
  case atStart => exact ⟨0, 0, 0, rfl, rfl, rfl, by omega, Lib.hid ⟨rfl, by omega, rfl⟩⟩
  case round =>
    obtain ⟨k, acc, a, rfl, rfl, rfl, hk, hh⟩ := hrel
    obtain ⟨ha, hacc, hdec⟩ := hh.out
    clear hh
    have a0 : 0 ≤ a := by omega
    have a1 : a ≤ 4294967295 := by omega
    by_cases hkn : k < t.size
    · have hc := hB k hkn
      have hdrop : bs.drop k = bs[k]'(by omega) :: bs.drop (k + 1) := List.drop_eq_getElem_cons (by omega)
      have hget : bs.getD k 0 = bs[k]'(by omega) := by simp [List.getD, List.getElem?_eq_getElem (show k < bs.length by omega)]
      rw [hdrop] at hdec
      rw [hget] at hc
      generalize bs[k]'(by omega) = c at hc hdec
      have hc256 : c.toNat < 256 := c.toNat_lt
      clear hB hdrop hget
      by_cases hdig : 48 ≤ c.toNat ∧ c.toNat ≤ 57
      · have hv : hexV c = some (c.toNat - 48) := by unfold hexV; rw [if_pos hdig]
        obtain ⟨hd0, hd1⟩ := hdig
        by_cases hov : 4294967295 < acc * 16 + (c.toNat - 48)
        · have hF : P16 acc (c :: bs.drop (k + 1)) = none := by simp only [P16, hv]; rw [if_pos hov]
          rw [hF] at hdec
          have HD := Lib.hid hdec
          have iov : 4294967295 < a * 16 + ((c.toNat : Int) - 48) := by omega
          clear hacc hF hov ha hv hdec
          go_wp2
          all_goals go_ret2
          all_goals exact Parsed.bad HD.out (.inl rfl) HK.out
        · have hF : P16 acc (c :: bs.drop (k + 1)) = P16 (acc * 16 + (c.toNat - 48)) (bs.drop (k + 1)) := by simp only [P16, hv]; rw [if_neg hov]
          have HN : Hid (a * 16 + ((c.toNat : Int) - 48) = ((acc * 16 + (c.toNat - 48) : Nat) : Int) ∧ acc * 16 + (c.toNat - 48) ≤ 4294967295 ∧ P16 0 bs = P16 (acc * 16 + (c.toNat - 48)) (bs.drop (k + 1))) := Lib.hid ⟨by omega, by omega, hdec.trans hF⟩
          have iov : a * 16 + ((c.toNat : Int) - 48) ≤ 4294967295 := by omega
          clear hacc hF hov hdec ha hv
          go_wp2
          refine ⟨⟨k + 1, acc * 16 + (c.toNat - 48), a * 16 + ((c.toNat : Int) - 48), rfl, (by first | rfl | (congr 1; omega)), (by first | rfl | (congr 1; omega)), by omega, HN⟩, by simp [intOf]; omega⟩
      · have hlo := lowN_bits c
        have hl256 := lowN_lt c
        by_cases hlet : 97 ≤ lowN c ∧ lowN c ≤ 102
        · have hv : hexV c = some (lowN c - 87) := by unfold hexV; rw [if_neg hdig, if_pos hlet]
          obtain ⟨hd0, hd1⟩ := hlet
          have hu : ((c.toNat : Int) == 95) = false := by
            rw [beq_eq_false_iff_ne]
            intro h
            have h' : c.toNat = 95 := by omega
            have h2 : lowN c = 127 := by unfold lowN; rw [h']; rfl
            omega
          by_cases hov : 4294967295 < acc * 16 + (lowN c - 87)
          · have hF : P16 acc (c :: bs.drop (k + 1)) = none := by simp only [P16, hv]; rw [if_pos hov]
            rw [hF] at hdec
            have HD := Lib.hid hdec
            have iov : 4294967295 < a * 16 + ((lowN c : Int) - 97 + 10) := by omega
            generalize lowN c = o at *
            clear hacc hF hov ha hv hdec
            go_wp2_with (go_at_call 36; refine (Tryd.internal_strconv_lower _ _).mono ?_; rintro e w' ⟨rfl, rfl⟩)
            all_goals go_ret2
            all_goals exact Parsed.bad HD.out (.inl rfl) HK.out
          · have hF : P16 acc (c :: bs.drop (k + 1)) = P16 (acc * 16 + (lowN c - 87)) (bs.drop (k + 1)) := by simp only [P16, hv]; rw [if_neg hov]
            have HN : Hid (a * 16 + ((lowN c : Int) - 97 + 10) = ((acc * 16 + (lowN c - 87) : Nat) : Int) ∧ acc * 16 + (lowN c - 87) ≤ 4294967295 ∧ P16 0 bs = P16 (acc * 16 + (lowN c - 87)) (bs.drop (k + 1))) := Lib.hid ⟨by omega, by omega, hdec.trans hF⟩
            have iov : a * 16 + ((lowN c : Int) - 97 + 10) ≤ 4294967295 := by omega
            generalize lowN c = o at *
            clear hacc hF hov hdec ha hv
            go_wp2_with (go_at_call 36; refine (Tryd.internal_strconv_lower _ _).mono ?_; rintro e w' ⟨rfl, rfl⟩)
            all_goals refine ⟨⟨k + 1, acc * 16 + (o - 87), a * 16 + ((o : Int) - 97 + 10), rfl, (by first | rfl | (congr 1; omega)), (by first | rfl | (congr 1; omega)), by omega, HN⟩, by simp [intOf]; omega⟩
        · have hv : hexV c = none := by unfold hexV; rw [if_neg hdig, if_neg hlet]
          have hF : P16 acc (c :: bs.drop (k + 1)) = none := by simp only [P16, hv]
          rw [hF] at hdec
          have HD := Lib.hid hdec
          generalize lowN c = o at *
          clear hacc hF ha hv hdec
          go_wp2_with (go_at_call 36; refine (Tryd.internal_strconv_lower _ _).mono ?_; rintro e w' ⟨rfl, rfl⟩)
          all_goals go_ret2
          all_goals exact Parsed.bad HD.out (.inr rfl) HK.out
    · have hkk : k = t.size := by omega
      subst hkk
      have hF : P16 acc (bs.drop t.size) = some acc := by rw [List.drop_eq_nil_of_le (by omega)]; rfl
      rw [hF] at hdec
      have HD := Lib.hid (And.intro hdec hacc)
      subst ha
      clear hacc hF a0 a1 hdec
      go_wp2
      go_ret2
      exact Parsed.ok HD.out.1 (by have := HD.out.2; omega) HK.out
end Go.Proofs.YtononoebghbajaaDoor
