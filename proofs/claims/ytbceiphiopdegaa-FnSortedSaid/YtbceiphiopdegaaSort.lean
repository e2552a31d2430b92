/-
  Walks for SortReals: the order of numbers, both sides; slices.Collect.
-/
import Derived.Test.YtbceiphiopdegaaIter
import Derived.Test.YtbceiphiopdegaaReal2
import Derived.Lib.Hide
set_option linter.unusedSimpArgs false
set_option linter.unusedVariables false
namespace Go.Proofs.Ytbceiphiopdegaa
open Go.RowKit Go.Shelf

def kNaN : Int := 9223372036854775807
/-- a number's place, NaN behind all others -/
def keyR (a : Nat) : Int := if nanB a then kNaN else keyB a
def ltR (a b : Nat) : Bool := decide (keyR a < keyR b)
def cmpR (a b : Nat) : Int := if keyR a < keyR b then -1 else if keyR b < keyR a then 1 else 0
theorem keyB_lt (a : Nat) (h : a < 4294967296) : -4294967296 < keyB a ∧ keyB a < 4294967296 := by unfold keyB; split <;> omega
theorem keyR_nan {a : Nat} (h : nanB a = true) : keyR a = kNaN := by unfold keyR; rw [h]; rfl
theorem keyR_num {a : Nat} (h : nanB a = false) : keyR a = keyB a := by unfold keyR; rw [h]; rfl
/-- equal places: the same number, or two NaNs -/
theorem keyB_inj {a b : Nat} (ha : a < 4294967296) (hb : b < 4294967296) (h : keyB a = keyB b) : a = b := by
  unfold keyB at h
  split at h <;> split at h <;> omega
theorem keyR_eqn {a b : Nat} (ha : a < 4294967296) (hb : b < 4294967296) (h : keyR a = keyR b) : eqn a b := by
  have h1 := keyB_lt a ha
  have h2 := keyB_lt b hb
  cases na : nanB a <;> cases nb : nanB b
  · rw [keyR_num na, keyR_num nb] at h; exact .inl (keyB_inj ha hb h)
  · rw [keyR_num na, keyR_nan nb] at h; unfold kNaN at h; omega
  · rw [keyR_nan na, keyR_num nb] at h; unfold kNaN at h; omega
  · exact .inr ⟨na, nb⟩
set_option maxHeartbeats 4000000 in
theorem placeOk (a : Nat) (ha : a < 4294967296) (w : World) :
    Calls Try.prog 44 #[.float .f32 a] w fun e w' => e = .returned (.int .i64 (keyR a)) ∧ w = w' := by
  have HN := Lib.hid (implIsNaN a w)
  have HK := Lib.hid (implKey a ha w)
  cases hn : nanB a
  · rw [hn] at HN
    rw [keyR_num hn]
    clear ha hn
    go_enter Try.func44, Try.ntmps44
    go_wp2_with (first | (go_at_call 45; refine HN.out.mono ?_; rintro e w' ⟨rfl, rfl⟩) | (go_at_call 46; refine HK.out.mono ?_; rintro e w' ⟨rfl, rfl⟩))
    go_ret
    exact ⟨rfl, rfl⟩
  · rw [hn] at HN
    rw [keyR_nan hn]
    clear ha hn
    unfold kNaN
    go_enter Try.func44, Try.ntmps44
    go_wp2_with (first | (go_at_call 45; refine HN.out.mono ?_; rintro e w' ⟨rfl, rfl⟩))
    go_ret
    exact ⟨rfl, rfl⟩
set_option maxHeartbeats 4000000 in
theorem cmpNaN (x : Int) (w : World) : Calls Try.prog 65 #[.int .i64 x] w fun e w' => e = .returned (.bool false) ∧ w = w' := by
  go_enter Try.func65, Try.ntmps65
  go_wp2
  go_ret
  exact ⟨by simp, rfl⟩
set_option maxHeartbeats 4000000 in
theorem cmp64 (x y : Int) (w : World) : Calls Try.prog 47 #[.int .i64 x, .int .i64 y] w fun e w' => e = .returned (.int .i64 (if x < y then -1 else if y < x then 1 else 0)) ∧ w = w' := by
  by_cases h1 : x < y
  · rw [if_pos h1]
    go_enter Try.func47, Try.ntmps47
    go_wp2_with (go_at_call 65; refine (cmpNaN _ _).mono ?_; rintro e w' ⟨rfl, rfl⟩)
    go_ret
    exact ⟨rfl, rfl⟩
  · rw [if_neg h1]
    have h1' : decide (x < y) = false := decide_eq_false h1
    by_cases h2 : y < x
    · rw [if_pos h2]
      clear h1
      go_enter Try.func47, Try.ntmps47
      go_wp2_with (go_at_call 65; refine (cmpNaN _ _).mono ?_; rintro e w' ⟨rfl, rfl⟩)
      go_ret
      exact ⟨rfl, rfl⟩
    · rw [if_neg h2]
      have h2' : decide (y < x) = false := decide_eq_false h2
      clear h1 h2
      go_enter Try.func47, Try.ntmps47
      go_wp2_with (go_at_call 65; refine (cmpNaN _ _).mono ?_; rintro e w' ⟨rfl, rfl⟩)
      go_ret
      exact ⟨rfl, rfl⟩
set_option maxHeartbeats 4000000 in
theorem compareOk (a b : Nat) (ha : a < 4294967296) (hb : b < 4294967296) (w : World) :
    Calls Try.prog 26 #[.float .f32 a, .float .f32 b] w fun e w' => e = .returned (.int .i64 (cmpR a b)) ∧ w = w' := by
  have HA := Lib.hid (placeOk a ha)
  have HB := Lib.hid (placeOk b hb)
  have HC : Hid (∀ w, Calls Try.prog 47 #[.int .i64 (keyR a), .int .i64 (keyR b)] w fun e w' => e = .returned (.int .i64 (cmpR a b)) ∧ w = w') := Lib.hid (cmp64 (keyR a) (keyR b))
  generalize cmpR a b = r at *
  clear ha hb
  go_enter Try.func26, Try.ntmps26
  go_wp2_with fail
  refine (HA.out _).mono ?_
  rintro _ _ ⟨rfl, rfl⟩
  go_wp2_with fail
  refine (HB.out _).mono ?_
  rintro _ _ ⟨rfl, rfl⟩
  go_wp2_with fail
  refine (HC.out _).mono ?_
  rintro _ _ ⟨rfl, rfl⟩
  go_wp2
  go_ret
  exact ⟨rfl, rfl⟩
set_option maxHeartbeats 4000000 in
theorem beforeOk (a b : Nat) (ha : a < 4294967296) (hb : b < 4294967296) (w : World) :
    Calls Try.prog 23 #[.float .f32 a, .float .f32 b] w fun e w' => e = .returned (.bool (ltR a b)) ∧ w = w' := by
  have HA := Lib.hid (specIsNaN a)
  have HB := Lib.hid (specIsNaN b)
  have KA := Lib.hid (specKey a ha)
  have KB := Lib.hid (specKey b hb)
  have h1 := keyB_lt a ha
  have h2 := keyB_lt b hb
  cases na : nanB a <;> cases nb : nanB b
  · have e : ltR a b = decide (keyB a < keyB b) := by unfold ltR; rw [keyR_num na, keyR_num nb]
    rw [e]; rw [na] at HA; rw [nb] at HB
    clear ha hb na nb h1 h2 e
    go_enter Try.func23, Try.ntmps23
    go_wp2_with fail
    refine (HA.out _).mono ?_
    rintro _ _ ⟨rfl, rfl⟩
    go_wp2_with fail
    refine (HB.out _).mono ?_
    rintro _ _ ⟨rfl, rfl⟩
    go_wp2_with fail
    refine (KA.out _).mono ?_
    rintro _ _ ⟨rfl, rfl⟩
    go_wp2_with fail
    refine (KB.out _).mono ?_
    rintro _ _ ⟨rfl, rfl⟩
    go_wp2
    go_ret
    exact ⟨rfl, rfl⟩
  · have e : ltR a b = true := by unfold ltR; rw [keyR_num na, keyR_nan nb]; exact decide_eq_true (by unfold kNaN; omega)
    rw [e]; rw [na] at HA; rw [nb] at HB
    clear ha hb na nb h1 h2 e
    go_enter Try.func23, Try.ntmps23
    iterate 2
      go_wp2_with fail
      refine (HA.out _).mono ?_
      rintro _ _ ⟨rfl, rfl⟩
      go_wp2_with fail
      refine (HB.out _).mono ?_
      rintro _ _ ⟨rfl, rfl⟩
    go_wp2
    go_ret
    exact ⟨rfl, rfl⟩
  · have e : ltR a b = false := by unfold ltR; rw [keyR_nan na, keyR_num nb]; exact decide_eq_false (by unfold kNaN; omega)
    rw [e]; rw [na] at HA; rw [nb] at HB
    clear ha hb na nb h1 h2 e
    go_enter Try.func23, Try.ntmps23
    iterate 2
      go_wp2_with fail
      refine (HA.out _).mono ?_
      rintro _ _ ⟨rfl, rfl⟩
    go_wp2
    go_ret
    exact ⟨rfl, rfl⟩
  · have e : ltR a b = false := by unfold ltR; rw [keyR_nan na, keyR_nan nb]; exact decide_eq_false (by omega)
    rw [e]; rw [na] at HA; rw [nb] at HB
    clear ha hb na nb h1 h2 e
    go_enter Try.func23, Try.ntmps23
    iterate 2
      go_wp2_with fail
      refine (HA.out _).mono ?_
      rintro _ _ ⟨rfl, rfl⟩
    go_wp2
    go_ret
    exact ⟨rfl, rfl⟩
set_option maxHeartbeats 4000000 in
theorem valuesOk (a : Option Addr) (n c : Nat) (w : World) :
    Calls Try.prog 25 #[.slice a n c] w fun e w' => e = .returned (.func (.func 43) #[] #[.pointer (some ⟨w.heap.size, 0, none⟩)]) ∧ w' = w.alloc (.cells #[.slice a n c] 22) := by
  go_enter Try.func25, Try.ntmps25
  go_wp2
  go_ret
  exact ⟨rfl, rfl⟩
theorem appendSeqOk (Bs : Nat) (sv : Value) (zs : List Nat) (hlen : zs.length ≤ maxLen) (hbytes : zs.length * 4 ≤ 140737488351232) (w : World) (hBs : Bs < w.heap.size) (hc : w.cell? ⟨Bs, 0, none⟩ = some sv) (hI : Ins32 w.heap.size w sv zs) :
    Calls Try.prog 61 #[.slice none 0 0, .func (.func 43) #[] #[.pointer (some ⟨Bs, 0, none⟩)]] w fun e W' => ∃ v, e = .returned v ∧ W'.ownsRow w.heap.size 34 1 v zs.length (zs.map (Value.float .f32)) ∧ (v = .slice none 0 0 ↔ zs = []) ∧ Below w.heap.size w W' :=
  callsIn_wide.1 (appendSeq_in Fence.wide 3 trivial trivial rfl (Nat.le_refl _) Bs sv zs hlen hbytes w hBs hc hI)
set_option maxHeartbeats 4000000 in
theorem collectOk (Bs : Nat) (sv : Value) (zs : List Nat) (hlen : zs.length ≤ maxLen) (hbytes : zs.length * 4 ≤ 140737488351232) (w : World) (hBs : Bs < w.heap.size) (hc : w.cell? ⟨Bs, 0, none⟩ = some sv) (hI : Ins32 w.heap.size w sv zs) :
    Calls Try.prog 41 #[.func (.func 43) #[] #[.pointer (some ⟨Bs, 0, none⟩)]] w fun e W' => ∃ v, e = .returned v ∧ W'.ownsRow w.heap.size 34 1 v zs.length (zs.map (Value.float .f32)) ∧ (v = .slice none 0 0 ↔ zs = []) ∧ Below w.heap.size w W' := by
  have HA := Lib.hid (appendSeqOk Bs sv zs hlen hbytes w hBs hc hI)
  clear hlen hbytes hBs hc hI
  go_enter Try.func41, Try.ntmps41
  go_wp2_with fail
  refine HA.out.mono ?_
  rintro _ w1 ⟨v, rfl, h1, h2, h3⟩
  have H := Lib.hid (And.intro h1 (And.intro h2 h3))
  clear h1 h2 h3 HA
  go_wp2
  go_ret
  exact ⟨v, rfl, H.out⟩
end Go.Proofs.Ytbceiphiopdegaa
