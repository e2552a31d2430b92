/-
  Plain facts on the IEEE 754 words of the model (order, conversion, square root), without the program; no condition.
-/
import Derived.Laws.FloatArith
import Derived.Laws.ComplexArith
namespace Go.Proofs.Ytbceiphiopdegaa
open Ieee

theorem binade_pos (f : Format) : 0 < f.binade := Nat.two_pow_pos _

/-- the magnitude of a rung, in units of the least place -/
def val (f : Format) (r : Nat) : Nat := if r < f.binade then r else (f.binade + r % f.binade) * 2 ^ (r / f.binade - 1)

theorem val_succ (f : Format) (r : Nat) : val f r < val f (r + 1) := by
  have hB := binade_pos f
  generalize hb : f.binade = B at *
  unfold val
  rw [hb]
  by_cases h : r < B
  · rw [if_pos h]
    by_cases h1 : r + 1 < B
    · rw [if_pos h1]; omega
    · have : r + 1 = B := by omega
      rw [if_neg h1, this]
      simp [Nat.div_self hB]; omega
  · rw [if_neg h, if_neg (by omega)]
    have hq : 1 ≤ r / B := (Nat.le_div_iff_mul_le hB).2 (by omega)
    have hr := Nat.mod_lt r hB
    have hd := Nat.div_add_mod r B
    by_cases h1 : r % B + 1 < B
    · have e1 : (r + 1) % B = r % B + 1 := by
        rw [Nat.add_mod]
        rw [Nat.mod_eq_of_lt (show 1 < B by omega)]
        exact Nat.mod_eq_of_lt h1
      have e2 : (r + 1) / B = r / B := by
        have := Nat.div_add_mod (r + 1) B
        rw [e1] at this
        have h3 : B * ((r + 1) / B) = B * (r / B) := by omega
        exact Nat.eq_of_mul_eq_mul_left hB h3
      rw [e1, e2]
      exact Nat.mul_lt_mul_of_pos_right (by omega) (Nat.two_pow_pos _)
    · have e0 : r % B + 1 = B := by omega
      have e3 : r + 1 = B * (r / B + 1) := by rw [Nat.mul_add, Nat.mul_one]; omega
      have e1 : (r + 1) % B = 0 := by rw [e3]; exact Nat.mul_mod_right _ _
      have e2 : (r + 1) / B = r / B + 1 := by rw [e3]; exact Nat.mul_div_cancel_left _ hB
      rw [e1, e2]
      have e4 : r / B + 1 - 1 = (r / B - 1) + 1 := by omega
      rw [e4, Nat.pow_succ, Nat.add_zero]
      have e5 : B * (2 ^ (r / B - 1) * 2) = (2 * B) * 2 ^ (r / B - 1) := by
        rw [Nat.mul_comm (2 ^ (r / B - 1)) 2, ← Nat.mul_assoc, Nat.mul_comm B 2]
      rw [e5]
      exact Nat.mul_lt_mul_of_pos_right (by omega) (Nat.two_pow_pos _)

theorem val_lt (f : Format) {r s : Nat} (h : r < s) : val f r < val f s := by
  induction s with
  | zero => omega
  | succ s ih =>
    rcases Nat.lt_or_ge r s with h' | h'
    · exact Nat.lt_trans (ih h') (val_succ f s)
    · have : r = s := by omega
      subst this; exact val_succ f r

theorem val_zero (f : Format) : val f 0 = 0 := by simp [val, binade_pos f]

def rung (f : Format) (w : Nat) : Nat := w % f.signWeight
def sgn (f : Format) (w : Nat) : Bool := w / f.signWeight % 2 == 1
/-- not a number -/
def isnan (f : Format) (w : Nat) : Bool := decide (f.infRung < rung f w)
/-- the signed rung: the two zeros have the same -/
def sk (f : Format) (w : Nat) : Int := if sgn f w then -(rung f w : Int) else (rung f w : Int)

theorem read_fin (f : Format) (w : Nat) (h : rung f w < f.infRung) :
    ∃ m e : Nat, f.read w = .number (sgn f w) m (f.leastPlace + (e : Int)) ∧ m * 2 ^ e = val f (rung f w) := by
  unfold Format.read val
  change rung f w < f.infRung at h
  by_cases h1 : rung f w < f.binade
  · refine ⟨rung f w, 0, ?_, ?_⟩
    · simp only [rung] at h1; simp [h1, rung, sgn]
    · simp [h1]
  · refine ⟨f.binade + rung f w % f.binade, rung f w / f.binade - 1, ?_, ?_⟩
    · simp only [rung] at h1 h; simp [h1, h, rung, sgn]
    · rw [if_neg h1]

theorem read_inf (f : Format) (hf : f.binade ≤ f.infRung) (w : Nat) (h : rung f w = f.infRung) : f.read w = .infinity (sgn f w) := by
  unfold Format.read
  simp only [rung] at h
  simp only [h, sgn, Nat.lt_irrefl, if_false, if_true]
  rw [if_neg (by omega)]

theorem read_nan (f : Format) (hf : f.binade ≤ f.infRung) (w : Nat) (h : f.infRung < rung f w) : f.read w = .nan (sgn f w) (rung f w - f.infRung) := by
  unfold Format.read
  simp only [rung] at h
  simp only [sgn, rung]
  rw [if_neg (by omega), if_neg (by omega), if_neg (by omega)]

theorem order_nan_left (f : Format) (hf : f.binade ≤ f.infRung) (a b : Nat) (h : isnan f a = true) : f.order a b = none := by
  unfold Format.order
  rw [read_nan f hf a (by simpa [isnan] using h)]
  rfl

theorem order_nan_right (f : Format) (hf : f.binade ≤ f.infRung) (a b : Nat) (h : isnan f b = true) : f.order a b = none := by
  unfold Format.order
  rw [read_nan f hf b (by simpa [isnan] using h)]
  cases f.read a <;> rfl

theorem compare_mul (x y : Int) (k : Nat) (hk : 0 < k) : compare (x * k) (y * k) = compare x y := by
  have hk' : (0 : Int) < k := by omega
  rcases Int.lt_trichotomy x y with h | h | h
  · rw [Int.compare_eq_lt.2 h, Int.compare_eq_lt.2 (Int.mul_lt_mul_of_pos_right h hk')]
  · subst h; simp
  · rw [Int.compare_eq_gt.2 h, Int.compare_eq_gt.2 (Int.mul_lt_mul_of_pos_right h hk')]

theorem signed_mul (s : Bool) (m e k : Nat) : signed s m e * ((2 ^ k : Nat) : Int) = signed s m (e + k) := by
  unfold signed
  simp only [Nat.shiftLeft_eq]
  split <;> simp [Nat.pow_add, Int.mul_assoc, Int.neg_mul]

/-- the signed value, in units of the least place -/
def sval (f : Format) (w : Nat) : Int := if sgn f w then -(val f (rung f w) : Int) else (val f (rung f w) : Int)

theorem signed_val (f : Format) (w m e : Nat) (h : m * 2 ^ e = val f (rung f w)) : signed (sgn f w) m e = sval f w := by
  unfold signed sval
  rw [Nat.shiftLeft_eq, h]

theorem compare_sval (f : Format) (a b : Nat) : compare (sval f a) (sval f b) = compare (sk f a) (sk f b) := by
  have hm := @val_lt f
  have h0 := val_zero f
  have inj : ∀ {r s : Nat}, val f r = val f s → r = s := by
    intro r s h
    rcases Nat.lt_trichotomy r s with h' | h' | h'
    · have := hm h'; omega
    · exact h'
    · have := hm h'; omega
  have lt : ∀ {r s : Nat}, val f r < val f s → r < s := by
    intro r s h
    rcases Nat.lt_trichotomy r s with h' | h' | h'
    · exact h'
    · subst h'; omega
    · have := hm h'; omega
  have pos : ∀ r : Nat, 0 < r → 0 < val f r := fun r hr => by have := hm hr; omega
  generalize ha : rung f a = r
  generalize hb : rung f b = s
  have key : (sval f a < sval f b ↔ sk f a < sk f b) ∧ (sval f a = sval f b ↔ sk f a = sk f b) := by
    unfold sval sk
    rw [ha, hb]
    have e1 : val f r < val f s ↔ r < s := ⟨lt, fun h => hm h⟩
    have e2 : val f s < val f r ↔ s < r := ⟨lt, fun h => hm h⟩
    have z1 : val f r = 0 ↔ r = 0 := ⟨fun h => by rcases Nat.eq_zero_or_pos r with h' | h'; exact h'; have := pos r h'; omega, fun h => by subst h; exact h0⟩
    have z2 : val f s = 0 ↔ s = 0 := ⟨fun h => by rcases Nat.eq_zero_or_pos s with h' | h'; exact h'; have := pos s h'; omega, fun h => by subst h; exact h0⟩
    split <;> split <;> constructor <;> omega
  rcases Int.lt_trichotomy (sval f a) (sval f b) with h | h | h
  · rw [Int.compare_eq_lt.2 h, Int.compare_eq_lt.2 (key.1.1 h)]
  · rw [h, key.2.1 h]; simp
  · have : sk f b < sk f a := by
      have h1 := key.1; have h2 := key.2; omega
    rw [Int.compare_eq_gt.2 h, Int.compare_eq_gt.2 this]

theorem order_fin (f : Format) (a b : Nat) (ha : rung f a < f.infRung) (hb : rung f b < f.infRung) :
    f.order a b = some (compare (sk f a) (sk f b)) := by
  obtain ⟨m, i, hr, hv⟩ := read_fin f a ha
  obtain ⟨n, j, hr', hv'⟩ := read_fin f b hb
  unfold Format.order
  rw [hr, hr']
  simp only [Datum.order]
  congr 1
  have e1 : (f.leastPlace + (i : Int) - min (f.leastPlace + (i : Int)) (f.leastPlace + (j : Int))).toNat = i - min i j := by omega
  have e2 : (f.leastPlace + (j : Int) - min (f.leastPlace + (i : Int)) (f.leastPlace + (j : Int))).toNat = j - min i j := by omega
  rw [e1, e2, ← compare_sval, ← signed_val f a m i hv, ← signed_val f b n j hv', ← compare_mul _ _ (2 ^ min i j) (Nat.two_pow_pos _), signed_mul, signed_mul]
  congr 2 <;> omega

theorem rung_cases (f : Format) (a : Nat) (h : isnan f a = false) : rung f a < f.infRung ∨ rung f a = f.infRung := by
  have : ¬ f.infRung < rung f a := by simpa [isnan] using h
  omega

theorem order_num (f : Format) (hf : f.binade ≤ f.infRung) (a b : Nat) (ha : isnan f a = false) (hb : isnan f b = false) :
    f.order a b = some (compare (sk f a) (sk f b)) := by
  have hB := binade_pos f
  rcases rung_cases f a ha with ha | ha <;> rcases rung_cases f b hb with hb | hb
  · exact order_fin f a b ha hb
  · obtain ⟨m, i, hr, hv⟩ := read_fin f a ha
    unfold Format.order
    rw [hr, read_inf f hf b hb]
    simp only [Datum.order]
    congr 1
    unfold sk
    cases sgn f b <;> cases sgn f a <;> simp only [Bool.false_eq_true, if_false, if_true] <;> symm <;> first | (rw [Int.compare_eq_lt]; omega) | (rw [Int.compare_eq_gt]; omega)
  · obtain ⟨m, i, hr, hv⟩ := read_fin f b hb
    unfold Format.order
    rw [hr, read_inf f hf a ha]
    simp only [Datum.order]
    congr 1
    unfold sk
    cases sgn f b <;> cases sgn f a <;> simp only [Bool.false_eq_true, if_false, if_true] <;> symm <;> first | (rw [Int.compare_eq_lt]; omega) | (rw [Int.compare_eq_gt]; omega)
  · unfold Format.order
    rw [read_inf f hf a ha, read_inf f hf b hb]
    simp only [Datum.order]
    congr 1
    unfold sk
    rw [ha, hb]
    cases sgn f b <;> cases sgn f a <;> simp only [Bool.false_eq_true, if_false, if_true, Bool.toNat_true, Bool.toNat_false]
    · simp
    · symm; show compare (-(f.infRung : Int)) (f.infRung : Int) = Ordering.lt; rw [Int.compare_eq_lt]; omega
    · symm; show compare (f.infRung : Int) (-(f.infRung : Int)) = Ordering.gt; rw [Int.compare_eq_gt]; omega
    · simp


/-! ### words: the rung and the sign of a word that is written -/
theorem signWeight_pos (f : Format) : 0 < f.signWeight := Nat.two_pow_pos _
theorem infRung_lt_sw (f : Format) : f.infRung < f.signWeight := by
  have h : 0 < 2 ^ f.exponentBits := Nat.two_pow_pos _
  unfold Format.infRung Format.signWeight Format.binade
  rw [Nat.pow_add]
  exact Nat.mul_lt_mul_of_pos_right (by omega) (Nat.two_pow_pos _)

theorem rung_word (f : Format) (s : Bool) (r : Nat) (h : r < f.signWeight) : rung f (f.word s r) = r := by
  unfold rung Format.word
  cases s
  · simp [Nat.mod_eq_of_lt h]
  · simp [Nat.mod_eq_of_lt h]

theorem sgn_word (f : Format) (s : Bool) (r : Nat) (h : r < f.signWeight) : sgn f (f.word s r) = s := by
  have hp := signWeight_pos f
  unfold sgn Format.word
  cases s
  · simp [Nat.div_eq_of_lt h]
  · rw [if_pos rfl, Nat.add_div_left _ hp, Nat.div_eq_of_lt h]; rfl

/-- how high a number reaches: at most the place K -/
def Reach (K : Int) : Datum → Prop
  | .number _ m p => m = 0 ∨ p + (m.log2 : Int) ≤ K
  | _ => False

theorem cut_le (f : Format) (neg : Bool) (mag : Nat) (place last : Int) (h : place + (mag.log2 : Int) - (f.fractionBits : Int) ≤ last) :
    Toward.even.cut neg (mag <<< (place - last).toNat) (last - place).toNat ≤ 2 * f.binade := by
  have hB : 2 * f.binade = 2 ^ (f.fractionBits + 1) := by unfold Format.binade; rw [Nat.pow_succ, Nat.mul_comm]
  have hlt : mag < 2 ^ (mag.log2 + 1) := Nat.lt_log2_self
  rw [hB]
  by_cases hc : last ≤ place
  · have e0 : (last - place).toNat = 0 := by omega
    rw [e0]
    unfold Toward.cut
    simp only [Nat.zero_min, Nat.shiftLeft_zero, Nat.div_one, Nat.mod_one, Nat.mul_zero]
    have : (decide (1 < 0) || (1 == 0 && (mag <<< (place - last).toNat) % 2 == 1)) = false := by simp
    rw [this, Bool.toNat_false, Nat.add_zero, Nat.shiftLeft_eq]
    have hle : mag.log2 + 1 + (place - last).toNat ≤ f.fractionBits + 1 := by omega
    calc mag * 2 ^ (place - last).toNat ≤ 2 ^ (mag.log2 + 1) * 2 ^ (place - last).toNat := Nat.mul_le_mul_right _ (by omega)
      _ = 2 ^ (mag.log2 + 1 + (place - last).toNat) := by rw [← Nat.pow_add]
      _ ≤ 2 ^ (f.fractionBits + 1) := Nat.pow_le_pow_right (by omega) hle
  · have e0 : (place - last).toNat = 0 := by omega
    rw [e0, Nat.shiftLeft_zero]
    unfold Toward.cut
    simp only []
    generalize hd : (last - place).toNat = d
    generalize hmore : (Bool.toNat _) = more
    have hm1 : more ≤ 1 := by rw [← hmore]; exact Bool.toNat_le _
    have hpos : 1 ≤ 2 ^ (f.fractionBits + 1) := Nat.two_pow_pos _
    by_cases hd2 : mag.log2 + 2 ≤ d
    · have : mag / 1 <<< min d (mag.log2 + 2) = 0 := by
        rw [Nat.min_eq_right hd2, Nat.shiftLeft_eq, Nat.one_mul]
        exact Nat.div_eq_of_lt (Nat.lt_of_lt_of_le hlt (Nat.pow_le_pow_right (by omega) (by omega)))
      omega
    · rw [Nat.min_eq_left (by omega), Nat.shiftLeft_eq, Nat.one_mul]
      have : mag / 2 ^ d < 2 ^ (f.fractionBits + 1) := by
        rw [Nat.div_lt_iff_lt_mul (Nat.two_pow_pos _), ← Nat.pow_add]
        exact Nat.lt_of_lt_of_le hlt (Nat.pow_le_pow_right (by omega) (by omega))
      omega

theorem nearest_rung (f : Format) (neg : Bool) (mag : Nat) (place K : Int) (h : mag = 0 ∨ place + (mag.log2 : Int) ≤ K) (hK : f.leastPlace + (f.fractionBits : Int) ≤ K) :
    ∃ r, f.nearest neg mag place = f.word neg r ∧ r ≤ (K - f.fractionBits - f.leastPlace + 2).toNat * f.binade ∧ r ≤ f.infRung := by
  unfold Format.nearest
  by_cases hm : mag = 0
  · exact ⟨0, by simp [hm], Nat.zero_le _, Nat.zero_le _⟩
  · rw [if_neg hm]
    have hp : place + (mag.log2 : Int) ≤ K := by rcases h with h | h; exact absurd h hm; exact h
    refine ⟨_, rfl, ?_, Nat.min_le_right _ _⟩
    generalize hl : max (place + (mag.log2 : Int) - (f.fractionBits : Int)) f.leastPlace = last
    have h1 : place + (mag.log2 : Int) - (f.fractionBits : Int) ≤ last := by omega
    have h2 : last ≤ K - f.fractionBits := by omega
    have h3 := cut_le f neg mag place last h1
    refine Nat.le_trans (Nat.min_le_left _ _) ?_
    have h4 : (last - f.leastPlace).toNat + 2 ≤ (K - f.fractionBits - f.leastPlace + 2).toNat := by omega
    calc (last - f.leastPlace).toNat * f.binade + _ ≤ (last - f.leastPlace).toNat * f.binade + 2 * f.binade := Nat.add_le_add_left h3 _
      _ = ((last - f.leastPlace).toNat + 2) * f.binade := by rw [Nat.add_mul]
      _ ≤ _ := Nat.mul_le_mul_right _ h4

theorem nearest_word (f : Format) (neg : Bool) (mag : Nat) (place : Int) : ∃ r, f.nearest neg mag place = f.word neg r ∧ r ≤ f.infRung := by
  unfold Format.nearest
  by_cases hm : mag = 0
  · exact ⟨0, by simp [hm], Nat.zero_le _⟩
  · rw [if_neg hm]; exact ⟨_, rfl, Nat.min_le_right _ _⟩

theorem read_reach (f : Format) (w R : Nat) (hR : rung f w ≤ R * f.binade) (h1 : 1 ≤ R) (hi : rung f w < f.infRung) :
    ∃ m p, f.read w = .number (sgn f w) m p ∧ p + (m.log2 : Int) ≤ f.leastPlace + R - 1 + f.fractionBits := by
  have hB := binade_pos f
  unfold Format.read
  by_cases h2 : rung f w < f.binade
  · refine ⟨rung f w, f.leastPlace, ?_, ?_⟩
    · simp only [rung] at h2; simp [h2, rung, sgn]
    · have : (rung f w).log2 ≤ f.fractionBits := by
        by_cases h0 : rung f w = 0
        · rw [h0]; simp
        · have := (Nat.log2_lt h0).2 h2; omega
      omega
  · refine ⟨f.binade + rung f w % f.binade, f.leastPlace + (rung f w / f.binade - 1 : Nat), ?_, ?_⟩
    · simp only [rung] at h2 hi; simp [h2, hi, rung, sgn]
    · have hm := Nat.mod_lt (rung f w) hB
      have hl : (f.binade + rung f w % f.binade).log2 ≤ f.fractionBits := by
        have : (f.binade + rung f w % f.binade).log2 < f.fractionBits + 1 := by
          rw [Nat.log2_lt (by omega), Nat.pow_succ]
          change _ < f.binade * 2
          omega
        omega
      have hq : rung f w / f.binade ≤ R := Nat.div_le_of_le_mul (by rw [Nat.mul_comm]; exact hR)
      omega

/-- a number that reaches no higher than K, written: its word, and how high that reaches -/
theorem write_reach (f : Format) (d : Datum) (K : Int) (h : Reach K d) (hK : f.leastPlace + (f.fractionBits : Int) ≤ K) (hfit : (K - f.fractionBits - f.leastPlace + 2).toNat * f.binade < f.infRung) :
    isnan f (f.write d) = false ∧ sgn f (f.write d) = d.neg ∧ rung f (f.write d) < f.infRung ∧ Reach (K + 1) (f.read (f.write d)) := by
  cases d with
  | infinity s => exact h.elim
  | nan s t => exact h.elim
  | number s m p =>
    obtain ⟨r, hr, hr1, hr2⟩ := nearest_rung f s m p K h hK
    have hlt : r < f.infRung := by omega
    have hsw := infRung_lt_sw f
    have e1 : rung f (f.write (.number s m p)) = r := by show rung f (f.nearest s m p) = r; rw [hr, rung_word f s r (by omega)]
    have e2 : sgn f (f.write (.number s m p)) = s := by show sgn f (f.nearest s m p) = s; rw [hr, sgn_word f s r (by omega)]
    refine ⟨?_, e2, by omega, ?_⟩
    · unfold isnan; rw [e1]; exact decide_eq_false (by omega)
    · obtain ⟨m', p', hrd, hp⟩ := read_reach f (f.write (.number s m p)) (K - f.fractionBits - f.leastPlace + 2).toNat (by omega) (by omega) (by omega)
      rw [hrd]
      exact .inr (by omega)

theorem sub_self_fin (f : Format) (a : Nat) (h : rung f a < f.infRung) : f.sub a a = some 0 := by
  obtain ⟨m, e, hr, _⟩ := read_fin f a h
  unfold Format.sub
  rw [hr]
  simp only [Datum.opposite, Datum.sum, Option.map_some, Option.some.injEq]
  have : ∀ (s : Bool) (k : Nat), signed s m k + signed (!s) m k = 0 := by
    intro s k
    cases s <;> simp [signed, Int.add_right_neg, Int.add_left_neg]
  rw [show f.leastPlace + (e : Int) - min (f.leastPlace + (e : Int)) (f.leastPlace + (e : Int)) = 0 by omega]
  rw [this]
  cases sgn f a <;> simp [Format.write, Format.nearest, Format.word]

theorem sub_self_inf (f : Format) (hf : f.binade ≤ f.infRung) (a : Nat) (h : ¬ rung f a < f.infRung) : f.sub a a = none := by
  unfold Format.sub
  by_cases h1 : rung f a = f.infRung
  · rw [read_inf f hf a h1]
    cases sgn f a <;> rfl
  · rw [read_nan f hf a (by omega)]
    rfl

/-! ### square roots -/
theorem rootFrom_lt (n : Nat) : ∀ (todo root : Nat), Datum.rootFrom n todo root < root + 2 ^ todo := by
  intro todo
  induction todo with
  | zero => intro root; simp [Datum.rootFrom]
  | succ k ih =>
    intro root
    unfold Datum.rootFrom
    have h1 := ih (root + 1 <<< k)
    have h2 := ih root
    rw [Nat.shiftLeft_eq, Nat.one_mul] at *
    have := Nat.pow_succ (n := 2) (m := k)
    simp only []
    split <;> omega

theorem log2_le_of_lt {n k : Nat} (h : n < 2 ^ (k + 1)) : n.log2 ≤ k := by
  by_cases h0 : n = 0
  · subst h0; simp
  · have := (Nat.log2_lt h0).2 h; omega

theorem root_reach (digits : Nat) (d : Datum) (K : Int) (h : Reach (2 * K - 4) d) (r : Datum) (hr : d.root digits = some r) : Reach K r := by
  cases d with
  | infinity s => exact h.elim
  | nan s t => exact h.elim
  | number s m i =>
    simp only [Datum.root] at hr
    by_cases hm : m = 0
    · subst hm
      rw [if_pos rfl] at hr
      cases hr
      exact .inl rfl
    · rw [if_neg hm] at hr
      by_cases hs : s = true
      · rw [if_pos hs] at hr; cases hr
      · rw [if_neg hs] at hr
        simp only [Option.some.injEq] at hr
        have hp : i + (m.log2 : Int) ≤ 2 * K - 4 := by rcases h with h | h; exact absurd h hm; exact h
        generalize hmore : (2 * digits - m.log2 + ((i - ((2 * digits - m.log2 : Nat) : Int)) % 2).toNat) = more at hr
        have hn : (m <<< more).log2 ≤ m.log2 + more := by
          apply log2_le_of_lt
          rw [Nat.shiftLeft_eq, show m.log2 + more + 1 = (m.log2 + 1) + more by omega, Nat.pow_add]
          exact Nat.mul_lt_mul_of_pos_right Nat.lt_log2_self (Nat.two_pow_pos _)
        have hw := rootFrom_lt (m <<< more) ((m <<< more).log2 / 2 + 1) 0
        generalize hwh : Datum.rootFrom (m <<< more) ((m <<< more).log2 / 2 + 1) 0 = whole at hr hw
        generalize hb : (whole * whole != m <<< more).toNat = b at hr
        have hb1 : b ≤ 1 := by rw [← hb]; exact Bool.toNat_le _
        have hl : (2 * whole + b).log2 ≤ (m <<< more).log2 / 2 + 1 + 1 := by
          apply log2_le_of_lt
          have := Nat.pow_succ (n := 2) (m := (m <<< more).log2 / 2 + 1)
          have := Nat.pow_succ (n := 2) (m := (m <<< more).log2 / 2 + 1 + 1)
          omega
        subst hr
        refine .inr ?_
        have : (((m <<< more).log2 : Nat) : Int) ≤ m.log2 + more := by omega
        have : (((2 * whole + b).log2 : Nat) : Int) ≤ (m <<< more).log2 / 2 + 1 + 1 := by omega
        omega

/-! ### single and double -/
theorem okS : single.binade ≤ single.infRung := by decide
theorem okD : double.binade ≤ double.infRung := by decide
theorem swS : single.signWeight = 2147483648 := by decide
theorem infS : single.infRung = 2139095040 := by decide
theorem swD : double.signWeight = 9223372036854775808 := by decide
theorem infD : double.infRung = 9218868437227405312 := by decide
theorem fmtS : FloatKind.f32.format = single := rfl
theorem fmtD : FloatKind.f64.format = double := rfl

theorem conv_reach (src dst : FloatKind) (hne : src ≠ dst) (a : Nat) (K : Int) (h : Reach K (src.format.read a)) (hK : dst.format.leastPlace + (dst.format.fractionBits : Int) ≤ K)
    (hfit : (K - dst.format.fractionBits - dst.format.leastPlace + 2).toNat * dst.format.binade < dst.format.infRung) :
    ∃ r, floatToFloatBits src a dst = some r ∧ isnan dst.format r = false ∧ sgn dst.format r = (src.format.read a).neg ∧ rung dst.format r < dst.format.infRung ∧ Reach (K + 1) (dst.format.read r) := by
  obtain ⟨h1, h2, h3, h4⟩ := write_reach dst.format _ K h hK hfit
  refine ⟨_, ?_, h1, h2, h3, h4⟩
  unfold floatToFloatBits
  rw [if_neg hne]
  unfold FloatKind.decode FloatKind.encode
  generalize src.format.read a = d at *
  cases d with
  | infinity s => exact h.elim
  | nan s t => exact h.elim
  | number s m p =>
    simp only []
    rw [if_neg]
    intro hc
    generalize dst.format.read (dst.format.write (.number s m p)) = x at h4 hc
    cases x with
    | infinity s => exact h4.elim
    | nan s t => exact h4.elim
    | number s m p => cases hc

theorem conv_inf (src dst : FloatKind) (hne : src ≠ dst) (hd : dst.format.binade ≤ dst.format.infRung) (a : Nat) (s : Bool) (h : src.format.read a = .infinity s) :
    ∃ r, floatToFloatBits src a dst = some r ∧ isnan dst.format r = false ∧ sgn dst.format r = s ∧ dst.format.read r = .infinity s := by
  have hsw := infRung_lt_sw dst.format
  have hr : rung dst.format (dst.format.word s dst.format.infRung) = dst.format.infRung := rung_word _ _ _ hsw
  have hs : sgn dst.format (dst.format.word s dst.format.infRung) = s := sgn_word _ _ _ hsw
  refine ⟨dst.format.word s dst.format.infRung, ?_, ?_, hs, ?_⟩
  · unfold floatToFloatBits
    rw [if_neg hne]
    unfold FloatKind.decode FloatKind.encode
    rw [h]
    rfl
  · unfold isnan; rw [hr]; exact decide_eq_false (by omega)
  · rw [read_inf _ hd _ hr, hs]

/-- float64(a) of a number a: the bits -/
theorem widen (a : Nat) (h : isnan single a = false) : ∃ r, floatToFloatBits .f32 a .f64 = some r ∧ isnan double r = false ∧ sgn double r = sgn single a ∧
    (Reach 129 (double.read r) ∨ double.read r = .infinity (sgn single a)) := by
  rcases rung_cases single a h with hr | hr
  · obtain ⟨m, p, hrd, hp⟩ := read_reach single a 255 (by have : single.infRung = 255 * single.binade := by decide
                                                          omega) (by decide) hr
    have e1 : single.leastPlace + 255 - 1 + single.fractionBits = 128 := by decide
    have hR : Reach 128 (FloatKind.f32.format.read a) := by show Reach 128 (single.read a); rw [hrd]; exact .inr (by omega)
    obtain ⟨r, h1, h2, h3, _, h5⟩ := conv_reach .f32 .f64 (by decide) a 128 hR (by decide) (by decide)
    refine ⟨r, h1, h2, ?_, .inl h5⟩
    rw [show FloatKind.f64.format = double from rfl] at h3
    rw [h3, show FloatKind.f32.format.read a = _ from hrd]; rfl
  · obtain ⟨r, h1, h2, h3, h4⟩ := conv_inf .f32 .f64 (by decide) okD a _ (read_inf single okS a hr)
    exact ⟨r, h1, h2, h3, .inr h4⟩

theorem conv_nan (src dst : FloatKind) (hs : src.format.binade ≤ src.format.infRung) (a : Nat) (h : isnan src.format a = true) (hne : src ≠ dst) : floatToFloatBits src a dst = none := by
  unfold floatToFloatBits
  rw [if_neg hne]
  unfold FloatKind.decode
  rw [read_nan _ hs a (by simpa [isnan] using h)]

/-- the square root of a widened number, narrowed -/
theorem root_narrow (r q : Nat) (h : Reach 129 (double.read r) ∨ ∃ s, double.read r = .infinity s) (hq : double.sqrt r = some q) :
    ∃ t, floatToFloatBits .f64 q .f32 = some t ∧ isnan single t = false := by
  unfold Format.sqrt at hq
  rw [Option.map_eq_some_iff] at hq
  obtain ⟨d, hd, rfl⟩ := hq
  rcases h with h | ⟨s, h⟩
  · have h1 : Reach 67 d := root_reach _ _ 67 (by cases hx : double.read r with
        | infinity s => rw [hx] at h; exact h.elim
        | nan s t => rw [hx] at h; exact h.elim
        | number s m p => rw [hx] at h; rcases h with h | h; exact .inl h; exact .inr (by omega)) d hd
    obtain ⟨_, _, _, h2⟩ := write_reach double d 67 h1 (by decide) (by decide)
    obtain ⟨t, h3, h4, _⟩ := conv_reach .f64 .f32 (by decide) (double.write d) 68 h2 (by decide) (by decide)
    exact ⟨t, h3, h4⟩
  · rw [h] at hd
    simp only [Datum.root] at hd
    cases s
    · simp at hd
      subst hd
      obtain ⟨t, h3, h4, _⟩ := conv_inf .f64 .f32 (by decide) okS (double.write (.infinity false)) false (by decide)
      exact ⟨t, h3, h4⟩
    · simp at hd
end Go.Proofs.Ytbceiphiopdegaa
