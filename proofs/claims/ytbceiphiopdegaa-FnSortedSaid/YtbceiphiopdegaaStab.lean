/-
  Walks for SortReals: Go's stable sort of a row.
-/
import Derived.Test.YtbceiphiopdegaaSymC
set_option linter.unusedSimpArgs false
set_option linter.unusedVariables false
namespace Go.Proofs.Ytbceiphiopdegaa
open Go.RowKit

/-- in order within each block of s places, within [a, b) -/
def Bk (s a b : Nat) (xs : List Nat) : Prop := ∀ u v, a ≤ u → u < v → v < b → u / s = v / s → keyR (va xs u) ≤ keyR (va xs v)
theorem blk_eq {s a u : Nat} (hs : 0 < s) (ha : a % s = 0) (h1 : a ≤ u) (h2 : u < a + s) : u / s = a / s := by
  have e : a / s * s = a := Nat.div_mul_cancel (Nat.dvd_of_mod_eq_zero ha)
  refine Nat.div_eq_of_lt_le (by omega) ?_
  rw [Nat.succ_mul]; omega
theorem blk_lt {s a u v : Nat} (hs : 0 < s) (ha : a % s = 0) (h1 : a ≤ v) (h2 : u / s = v / s) : a ≤ u := by
  have e : a / s * s = a := Nat.div_mul_cancel (Nat.dvd_of_mod_eq_zero ha)
  have h3 : a / s ≤ v / s := Nat.div_le_div_right h1
  rw [← h2] at h3
  have := (Nat.le_div_iff_mul_le hs).1 h3
  omega
theorem Bk.step {s a b : Nat} {xs ys : List Nat} (h : Bk s 0 a xs) (hs : 0 < s) (ha : a % s = 0) (hsw : SwR a b xs ys) (ho : Srt a b ys) : Bk s 0 b ys := fun u v h0 h1 h2 h3 => by
  by_cases hv : a ≤ v
  · exact ho u v (blk_lt hs ha hv h3) h1 h2
  · rw [hsw.2.2.1 u (by omega), hsw.2.2.1 v (by omega)]
    exact h u v h0 h1 (by omega) h3
theorem Bk.rest {s a b n : Nat} {xs ys : List Nat} (h : Bk s a n xs) (hab : a ≤ b) (hsw : SwR a b xs ys) : Bk s b n ys := fun u v h0 h1 h2 h3 => by
  rw [hsw.2.2.1 u (by omega), hsw.2.2.1 v (by omega)]
  exact h u v (by omega) h1 h2 h3
theorem Bk.one {s a n : Nat} {xs : List Nat} (h : Bk s a n xs) (hs : 0 < s) (c d : Nat) (hc : c % s = 0) (h1 : a ≤ c) (h2 : d ≤ n) (h3 : d ≤ c + s) : Srt c d xs := fun u v q1 q2 q3 =>
  h u v (by omega) q2 (by omega) ((blk_eq hs hc q1 (by omega)).trans (blk_eq hs hc (by omega) (by omega)).symm)
theorem mod_twice {a s : Nat} (h : a % (s * 2) = 0) : a % s = 0 := by
  obtain ⟨q, rfl⟩ := Nat.dvd_of_mod_eq_zero h
  rw [Nat.mul_assoc]; exact Nat.mul_mod_right _ _
theorem mod_add {a s : Nat} (h : a % s = 0) : (a + s) % s = 0 := by rw [Nat.add_mod_right]; exact h
theorem Bk.whole {s n : Nat} {xs : List Nat} (h : Bk s 0 n xs) (hs : n ≤ s) : Srt 0 n xs := fun u v q1 q2 q3 =>
  h u v q1 q2 q3 (by rw [Nat.div_eq_of_lt (by omega), Nat.div_eq_of_lt (by omega)])
set_option maxRecDepth 100000 in
set_option maxHeartbeats 32000000 in
theorem stabOk (g N cap : Nat) (hN : N ≤ 1000) (w0 : World) (xs : List Nat) (w : World) (R : Row g N cap w0 xs w) :
    Calls Try.prog 62 #[.slice (some ⟨g, 0, none⟩) N cap, .int .i64 (N : Int), .func (.func 26) #[] #[]] w fun e w' => ∃ ys, (∃ v, e = .returned v) ∧ Row g N cap w0 ys w' ∧ SwR 0 N xs ys ∧ Srt 0 N ys := by
  have R0 := Lib.hid R
  have HI := Lib.hid (fun a b h1 h2 ys w => insOk g N cap a b h1 h2 hN w0 ys w)
  have HM := Lib.hid (fun a m b h1 h2 h3 => symOk g N cap hN w0 (b - a) a m b (Nat.le_refl _) h1 h2 h3)
  have hN0 : (N : Int) ≤ 1000 := by omega
  have hB := Lib.hid hN
  clear R hN
  go_enter Try.func62, Try.ntmps62
  go_wp2
  go_loopw [7, 8] (fun vi vj wr => ∃ (a : Nat) (ys : List Nat), a ≤ N ∧ vi = .int .i64 (a : Int) ∧ vj = .int .i64 ((a + 20 : Nat) : Int) ∧ Hid (a % 20 = 0 ∧ Row g N cap w0 ys wr ∧ SwR 0 N xs ys ∧ Bk 20 0 a ys)) (fun vi _ _ => N + 1 - (intOf vi).toNat)
  case atStart => exact ⟨0, xs, Nat.zero_le _, rfl, rfl, Lib.hid ⟨rfl, R0.out, SwR.refl _ _ _, fun u v _ _ _ _ => by omega⟩⟩
  case round =>
    obtain ⟨a, ys, ha, rfl, rfl, H⟩ := hrel
    obtain ⟨b, hb⟩ : ∃ b : Nat, b = a + 20 := ⟨_, rfl⟩
    rw [← hb]
    have hb1 : (b : Int) = (a : Int) + 20 := by omega
    have HB := Lib.hid hb
    have hbi : (b : Int) ≤ 5000 := by omega
    clear hb hb1
    by_cases hbn : b ≤ N
    · have i0 : (b : Int) ≤ (N : Int) := by omega
      have i1 : (0 : Int) ≤ (a : Int) := by omega
      go_wp2_with fail
      refine (HI.out a b (by have := HB.out; omega) hbn ys _ H.out.2.1).mono ?_
      rintro _ w1 ⟨zs, ⟨v, rfl⟩, hr, hsw, hso⟩
      have G := Lib.hid (And.intro hr (And.intro hsw hso))
      clear hr hsw hso
      go_wp2
      go_roundw
      case rel =>
        refine ⟨b, zs, hbn, rfl, by congr 1, Lib.hid ⟨by have := H.out.1; have := HB.out; omega, G.out.1, H.out.2.2.1.trans (G.out.2.1.mono (Nat.zero_le _) hbn), Bk.step H.out.2.2.2 (by have := HB.out; omega) H.out.1 G.out.2.1 G.out.2.2⟩⟩
      case measure => have := HB.out; simp [intOf]; omega
    · have i0 : decide ((b : Int) ≤ (N : Int)) = false := decide_eq_false (by omega)
      have i1 : (0 : Int) ≤ (a : Int) := by omega
      go_wp2_with fail
      refine (HI.out a N ha (Nat.le_refl _) ys _ H.out.2.1).mono ?_
      rintro _ w1 ⟨zs, ⟨v, rfl⟩, hr, hsw, hso⟩
      have G : Hid (Row g N cap w0 zs w1 ∧ SwR 0 N xs zs ∧ Bk 20 0 N zs) := Lib.hid ⟨hr, H.out.2.2.1.trans (hsw.mono (by omega) (Nat.le_refl _)), Bk.step H.out.2.2.2 (by omega) H.out.1 hsw hso⟩
      clear hr hsw hso H HI R0 i0 i1 HB hbi hbn ha
      go_wp2
      go_loopw [6] (fun vi wr => ∃ (s : Nat) (ys : List Nat), 0 < s ∧ s ≤ 2000 ∧ vi = .int .i64 (s : Int) ∧ Hid (Row g N cap w0 ys wr ∧ SwR 0 N xs ys ∧ Bk s 0 N ys)) (fun vi _ => N - (intOf vi).toNat)
      case atStart => exact ⟨20, zs, by omega, by omega, rfl, G⟩
      case round =>
        clear G
        obtain ⟨s, ys, hs0, hs1, rfl, H⟩ := hrel
        have j0 : (0 : Int) < (s : Int) := by omega
        have j1 : (s : Int) ≤ 2000 := by omega
        by_cases hsn : s < N
        · have i0 : (s : Int) < (N : Int) := by omega
          obtain ⟨wo, rfl⟩ : ∃ wo : World, wo = wr := ⟨_, rfl⟩
          go_wp2
          go_loopw [7, 8] (fun vi vj wr => ∃ (a : Nat) (zs : List Nat), a ≤ N ∧ vi = .int .i64 (a : Int) ∧ vj = .int .i64 ((a + s * 2 : Nat) : Int) ∧ Hid (a % (s * 2) = 0 ∧ Row g N cap w0 zs wr ∧ SwR 0 N xs zs ∧ Bk (s * 2) 0 a zs ∧ Bk s a N zs)) (fun vi _ _ => N + 1 - (intOf vi).toNat)
          case atStart => exact ⟨0, ys, Nat.zero_le _, by go_num, by congr 1 <;> omega, Lib.hid ⟨Nat.zero_mod _, H.out.1, H.out.2.1, fun u v _ _ _ _ => by omega, H.out.2.2⟩⟩
          case round =>
            clear H
            obtain ⟨a, zs, ha, rfl, rfl, H⟩ := hrel
            obtain ⟨b, hb⟩ : ∃ b : Nat, b = a + s * 2 := ⟨_, rfl⟩
            rw [← hb]
            obtain ⟨m, hm⟩ : ∃ m : Nat, m = a + s := ⟨_, rfl⟩
            have hmi : (a : Int) + (s : Int) = (m : Int) := by omega
            have i1 : (0 : Int) ≤ (a : Int) := by omega
            have i2 : (a : Int) ≤ 1000 := by omega
            have i3 : (b : Int) ≤ 5000 := by omega
            have i30 : (0 : Int) ≤ (b : Int) := by omega
            have HBM := Lib.hid (And.intro hb hm)
            clear hb hm
            by_cases hbn : b ≤ N
            · have i4 : (b : Int) ≤ (N : Int) := by have := HBM.out; omega
              go_wp2_with fail
              have h1 : Srt a m zs := H.out.2.2.2.2.one hs0 a m (mod_twice H.out.1) (Nat.le_refl _) (by have := HBM.out; omega) (by have := HBM.out; omega)
              have h2 : Srt m b zs := H.out.2.2.2.2.one hs0 m b (by rw [HBM.out.2]; exact mod_add (mod_twice H.out.1)) (by have := HBM.out; omega) (by have := HBM.out; omega) (by have := HBM.out; omega)
              refine (HM.out a m b (by have := HBM.out; omega) (by have := HBM.out; omega) hbn zs _ H.out.2.1 h1 h2).mono ?_
              rintro _ w1 ⟨qs, ⟨v, rfl⟩, hr, hsw, hso⟩
              have G := Lib.hid (And.intro hr (And.intro hsw hso))
              clear hr hsw hso h1 h2
              go_wp2
              go_roundw
              case rel =>
                exact ⟨b, qs, hbn, rfl, by congr 1 <;> omega, Lib.hid ⟨by rw [HBM.out.1]; exact mod_add H.out.1, G.out.1, H.out.2.2.1.trans (G.out.2.1.mono (Nat.zero_le _) hbn), Bk.step H.out.2.2.2.1 (by have := HBM.out; omega) H.out.1 G.out.2.1 G.out.2.2, Bk.rest H.out.2.2.2.2 (by have := HBM.out; omega) G.out.2.1⟩⟩
              case measure => have := HBM.out; simp [intOf]; omega
            · have i4 : decide ((b : Int) ≤ (N : Int)) = false := decide_eq_false (by omega)
              by_cases hmn : m < N
              · have i5 : (m : Int) < (N : Int) := by have := HBM.out; omega
                go_wp2_with fail
                have h1 : Srt a m zs := H.out.2.2.2.2.one hs0 a m (mod_twice H.out.1) (Nat.le_refl _) (by have := HBM.out; omega) (by have := HBM.out; omega)
                have h2 : Srt m N zs := H.out.2.2.2.2.one hs0 m N (by rw [HBM.out.2]; exact mod_add (mod_twice H.out.1)) (by have := HBM.out; omega) (by have := HBM.out; omega) (by have := HBM.out; omega)
                refine (HM.out a m N (by have := HBM.out; omega) (by have := HBM.out; omega) (Nat.le_refl _) zs _ H.out.2.1 h1 h2).mono ?_
                rintro _ w1 ⟨qs, ⟨v, rfl⟩, hr, hsw, hso⟩
                have G := Lib.hid (And.intro hr (And.intro hsw hso))
                clear hr hsw hso h1 h2
                go_wp2
                go_roundw
                case rel => exact ⟨s * 2, qs, by have := HBM.out; omega, by have := HBM.out; omega, by congr 1 <;> omega, Lib.hid ⟨G.out.1, H.out.2.2.1.trans (G.out.2.1.mono (by have := HBM.out; omega) (Nat.le_refl _)), Bk.step H.out.2.2.2.1 (by have := HBM.out; omega) H.out.1 G.out.2.1 G.out.2.2⟩⟩
                case measure => have := HBM.out; simp [intOf]; omega
              · have i5 : decide ((m : Int) < (N : Int)) = false := decide_eq_false (by omega)
                have h1 : Hid (Srt a N zs) := Lib.hid (H.out.2.2.2.2.one hs0 a N (mod_twice H.out.1) (Nat.le_refl _) (Nat.le_refl _) (by have := HBM.out; omega))
                go_wp2
                go_roundw
                case rel => exact ⟨s * 2, zs, by have := HBM.out; omega, by have := HBM.out; omega, by congr 1 <;> omega, Lib.hid ⟨H.out.2.1, H.out.2.2.1, Bk.step H.out.2.2.2.1 (by have := HBM.out; omega) H.out.1 (SwR.refl _ _ _) h1.out⟩⟩
                case measure => have := HBM.out; simp [intOf]; omega
        · have i0 : decide ((s : Int) < (N : Int)) = false := decide_eq_false (by omega)
          have hw := Lib.hid (Bk.whole H.out.2.2 (by omega))
          go_wp2
          all_goals first | (go_end0; exact ⟨ys, ⟨_, rfl⟩, H.out.1, H.out.2.1, hw.out⟩) | exact ⟨ys, ⟨_, rfl⟩, H.out.1, H.out.2.1, hw.out⟩ | exact ⟨⟨_, rfl⟩, _, H.out.1, H.out.2.1, hw.out⟩
set_option maxHeartbeats 4000000 in
theorem insNil (w : World) : Calls Try.prog 72 #[.slice none 0 0, .int .i64 0, .int .i64 0, .func (.func 26) #[] #[]] w fun e w' => (∃ v, e = .returned v) ∧ w' = w := by
  go_enter Try.func72, Try.ntmps72
  go_wp2
  go_loopw [8] (fun vi wr => vi = .int .i64 1 ∧ wr = w) (fun vi _ => 0)
  case atStart => exact ⟨rfl, rfl⟩
  case round =>
    obtain ⟨rfl, rfl⟩ := hrel
    go_wp2
    all_goals first | (go_end0; exact ⟨⟨_, rfl⟩, rfl⟩) | exact ⟨⟨_, rfl⟩, rfl⟩
set_option maxHeartbeats 4000000 in
theorem stabNil (w : World) : Calls Try.prog 62 #[.slice none 0 0, .int .i64 0, .func (.func 26) #[] #[]] w fun e w' => (∃ v, e = .returned v) ∧ w' = w := by
  go_enter Try.func62, Try.ntmps62
  go_wp2
  go_loopw [7, 8] (fun vi vj wr => vi = .int .i64 0 ∧ vj = .int .i64 20 ∧ wr = w) (fun vi vj _ => 0)
  case atStart => exact ⟨rfl, rfl, rfl⟩
  case round =>
    obtain ⟨rfl, rfl, rfl⟩ := hrel
    go_wp2_with fail
    refine (insNil _).mono ?_
    rintro _ w1 ⟨⟨v, rfl⟩, rfl⟩
    go_wp2
    go_loopw [6] (fun vi wr => vi = .int .i64 20 ∧ wr = w1) (fun vi _ => 0)
    case atStart => exact ⟨rfl, rfl⟩
    case round =>
      obtain ⟨rfl, rfl⟩ := hrel
      go_wp2
      all_goals first | (go_end0; exact ⟨⟨_, rfl⟩, rfl⟩) | exact ⟨⟨_, rfl⟩, rfl⟩
end Go.Proofs.Ytbceiphiopdegaa
