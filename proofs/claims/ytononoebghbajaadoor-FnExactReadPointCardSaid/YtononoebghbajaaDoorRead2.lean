/-
  Plain laws for ReadReal: the eight digits of a number, read back; no program in sight.
-/
import Derived.Test.YtononoebghbajaaDoorRead
set_option linter.unusedSimpArgs false
set_option linter.unusedVariables false
namespace Go.Proofs.YtononoebghbajaaDoor

/-- the value of a small hexadecimal digit -/
def lowV (c : UInt8) : Option Nat := if 48 ≤ c.toNat ∧ c.toNat ≤ 57 then some (c.toNat - 48) else if 97 ≤ c.toNat ∧ c.toNat ≤ 102 then some (c.toNat - 87) else none
/-- the number of small hexadecimal digits -/
def R8 : Nat → List UInt8 → Option Nat
  | acc, [] => some acc
  | acc, c :: r => match lowV c with
    | none => none
    | some d => R8 (acc * 16 + d) r
/-- the number that the library reads -/
def okNum (l : List UInt8) : Option Nat := if l = [] then none else P16 0 l
theorem lowV_lt {c : UInt8} {d : Nat} (h : lowV c = some d) : d < 16 := by
  unfold lowV at h
  split at h
  · simp only [Option.some.injEq] at h; omega
  · split at h
    · simp only [Option.some.injEq] at h; omega
    · cases h
theorem lowV_hexV {c : UInt8} {d : Nat} (h : lowV c = some d) : hexV c = some d := by
  unfold lowV at h
  unfold hexV
  split at h
  · rename_i h1; rw [if_pos h1]; exact h
  · rename_i h1
    split at h
    · rename_i h2
      have e : lowN c = c.toNat := by
        unfold lowN
        have : c.toNat = 97 ∨ c.toNat = 98 ∨ c.toNat = 99 ∨ c.toNat = 100 ∨ c.toNat = 101 ∨ c.toNat = 102 := by omega
        rcases this with h | h | h | h | h | h <;> rw [h] <;> rfl
      rw [if_neg h1, if_pos (by rw [e]; exact h2), e]; exact h
    · cases h
theorem hexB_of {c : UInt8} {d : Nat} (h : lowV c = some d) : UInt8.ofNat (hexB d) = c := by
  have e : hexB d = c.toNat := by
    unfold lowV at h
    unfold hexB
    split at h
    · rename_i h1
      simp only [Option.some.injEq] at h
      rw [if_pos (by omega)]; omega
    · split at h
      · rename_i h2
        simp only [Option.some.injEq] at h
        rw [if_neg (by omega)]; omega
      · cases h
  rw [e]; exact UInt8.ofNat_toNat
theorem lowV_hexB (d : Nat) (h : d < 16) : lowV (UInt8.ofNat (hexB d)) = some d := by
  have hd : d = 0 ∨ d = 1 ∨ d = 2 ∨ d = 3 ∨ d = 4 ∨ d = 5 ∨ d = 6 ∨ d = 7 ∨ d = 8 ∨ d = 9 ∨ d = 10 ∨ d = 11 ∨ d = 12 ∨ d = 13 ∨ d = 14 ∨ d = 15 := by omega
  clear h
  rcases hd with rfl | rfl | rfl | rfl | rfl | rfl | rfl | rfl | rfl | rfl | rfl | rfl | rfl | rfl | rfl | rfl <;> rfl
def bytesOf (xs : List Int) : List UInt8 := xs.map fun n => UInt8.ofNat n.toNat
theorem strOf_list (xs : List Int) : (strOfNums xs).data.toList = bytesOf xs := strOfNums_data xs
theorem bytes_inj {s t : ByteArray} (h : s.data.toList = t.data.toList) : s = t := by
  apply ByteArray.ext
  exact Array.toList_inj.1 h
theorem R8_le : ∀ (l : List UInt8) (acc v : Nat), R8 acc l = some v → acc ≤ v
  | [], acc, v, h => by simp only [R8, Option.some.injEq] at h; omega
  | c :: r, acc, v, h => by
    simp only [R8] at h
    cases hc : lowV c with
    | none => rw [hc] at h; cases h
    | some d =>
      rw [hc] at h
      have := R8_le r _ _ h
      omega
theorem R8_P16 : ∀ (l : List UInt8) (acc v : Nat), R8 acc l = some v → v < 4294967296 → P16 acc l = some v
  | [], acc, v, h, _ => h
  | c :: r, acc, v, h, hv => by
    simp only [R8] at h
    cases hc : lowV c with
    | none => rw [hc] at h; cases h
    | some d =>
      rw [hc] at h
      have h1 : acc * 16 + d ≤ v := R8_le r _ _ h
      simp only [P16, lowV_hexV hc]
      rw [if_neg (by omega)]
      exact R8_P16 r _ _ h hv
theorem R8_digits : ∀ (l : List UInt8) (acc v : Nat), R8 acc l = some v → v / 16 ^ l.length = acc ∧ l = bytesOf (hexL v l.length)
  | [], acc, v, h => by
    simp only [R8, Option.some.injEq] at h
    subst h
    exact ⟨by simp, rfl⟩
  | c :: r, acc, v, h => by
    simp only [R8] at h
    cases hc : lowV c with
    | none => rw [hc] at h; cases h
    | some d =>
      rw [hc] at h
      obtain ⟨h1, h2⟩ := R8_digits r _ _ h
      have hd := lowV_lt hc
      have e : v / 16 ^ r.length % 16 = d := by rw [h1]; omega
      refine ⟨?_, ?_⟩
      · rw [List.length_cons, Nat.pow_succ, ← Nat.div_div_eq_div_mul, h1]; omega
      · simp only [List.length_cons, hexL, bytesOf, List.map_cons, e]
        rw [show ((hexB d : Nat) : Int).toNat = hexB d by simp, hexB_of hc]
        congr 1
theorem digits_R8 (v : Nat) : ∀ k, R8 (v / 16 ^ k) (bytesOf (hexL v k)) = some v
  | 0 => by simp [R8, bytesOf, hexL]
  | k + 1 => by
    have hl := lowV_hexB (v / 16 ^ k % 16) (Nat.mod_lt _ (by decide))
    simp only [hexL, bytesOf, List.map_cons, R8]
    rw [show ((hexB (v / 16 ^ k % 16) : Nat) : Int).toNat = hexB (v / 16 ^ k % 16) by simp, hl]
    simp only
    rw [show v / 16 ^ (k + 1) * 16 + v / 16 ^ k % 16 = v / 16 ^ k by rw [Nat.pow_succ, ← Nat.div_div_eq_div_mul]; omega]
    exact digits_R8 v k
/-- what the reference reads -/
def specNum (t : ByteArray) : Option Nat := if t.size = 8 then R8 0 t.data.toList else none
theorem size_list (t : ByteArray) : t.data.toList.length = t.size := rfl
theorem specNum_lt {t : ByteArray} {v : Nat} (h : specNum t = some v) : v < 4294967296 := by
  unfold specNum at h
  split at h
  · rename_i h8
    obtain ⟨h1, -⟩ := R8_digits _ _ _ h
    rw [size_list, h8] at h1
    omega
  · cases h
/-- the two sides: from the reference to the program -/
theorem spec_impl {t : ByteArray} {v : Nat} (h : specNum t = some v) (hn : nanB v = false) : okNum t.data.toList = some v ∧ textB v = t := by
  have hlt := specNum_lt h
  unfold specNum at h
  split at h
  · rename_i h8
    obtain ⟨h1, h2⟩ := R8_digits _ _ _ h
    rw [size_list, h8] at h2
    constructor
    · unfold okNum
      rw [if_neg (fun e => by rw [← size_list, e] at h8; cases h8)]
      exact R8_P16 _ _ _ h hlt
    · unfold textB
      rw [hn]
      exact bytes_inj (by rw [show (if false = true then nanS else strOfNums (hexL v 8)) = strOfNums (hexL v 8) from rfl, strOf_list, ← h2])
  · cases h
/-- .. and from the program to the reference -/
theorem impl_spec {t : ByteArray} {v : Nat} (hv : v < 4294967296) (ht : t ≠ nanS) (h : textB v = t) : specNum t = some v ∧ nanB v = false := by
  unfold textB at h
  cases hn : nanB v with
  | true => rw [hn] at h; exact absurd h.symm ht
  | false =>
    rw [hn] at h
    have h' : strOfNums (hexL v 8) = t := h
    refine ⟨?_, rfl⟩
    unfold specNum
    rw [← h', strOfNums_size, hexL_len, if_pos rfl, strOf_list]
    have := digits_R8 v 8
    rw [show v / 16 ^ 8 = 0 by omega] at this
    exact this
end Go.Proofs.YtononoebghbajaaDoor
