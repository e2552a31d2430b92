/-
  Walks for FnSorted: the drawn lists.
-/
import Derived.Test.YtbceiphiopdegaaDraw2
import Derived.Test.YtbceiphiopdegaaPUniS
set_option linter.unusedSimpArgs false
set_option linter.unusedVariables false
namespace Go.Proofs.Ytbceiphiopdegaa.Pt
open Go.RowKit

set_option maxHeartbeats 4000000 in
theorem oneOk (a : Option Addr) (n c p k : Nat) (hn : n ≤ 9223372036854775807) (hk : k ≤ 1000000) (w : World) (h : Sp a n c p k w) :
    Calls Try.prog 55 #[.pointer (some ⟨p, 0, none⟩), .int .i64 3] w fun e w' => (∃ b : Bool, e = .returned (.bool b)) ∧ Sp a n c p (k + 1) w' ∧ w.grownBy w' (some p) := by
  have HN := Lib.hid (pk3 a n c p k hn hk w h)
  clear h hn hk
  go_enter Try.func55, Try.ntmps55
  go_wp2_with fail
  refine HN.out.mono ?_
  rintro _ w1 ⟨m, ⟨rfl, hm⟩, hs⟩
  have H := Lib.hid hs
  clear hs HN hm
  go_wp2
  go_ret
  exact ⟨⟨_, rfl⟩, H.out⟩
/-- some point is drawn -/
def AnyC (w : World) (p : Nat) (e : Ending) (w' : World) : Prop := ∃ z : Nat, (e = .returned (.complex .f32 (reP z) (imP z)) ∧ z < B64) ∧ w.grownBy w' (some p)
theorem AnyC.mk {w w' : World} {p u v : Nat} (hu : u < 4294967296) (hv : v < 4294967296) (h : w.grownBy w' (some p)) : AnyC w p (.returned (.complex .f32 u v)) w' :=
  ⟨mkz u v, ⟨by rw [reP_mk hv, imP_mk hv], mkz_lt hu hv⟩, h⟩
set_option maxHeartbeats 4000000 in
theorem anyC (a : Option Addr) (n c p k : Nat) (hn : n ≤ 9223372036854775807) (hk : k ≤ 100000) (w : World) (h : Sp a n c p k w) :
    Calls Try.prog 34 #[.pointer (some ⟨p, 0, none⟩)] w (AnyC w p) := by
  have HN := Lib.hid (anyOk a n c p k hn (by omega) w h)
  have HO := Lib.hid (fun k' (h : k' ≤ k + 6) => oneOk a n c p k' hn (by omega))
  have HM := Lib.hid (fun k' (h : k' ≤ k + 7) => anyOk a n c p k' hn (by omega))
  clear h hn hk
  go_enter Try.func34, Try.ntmps34
  go_wp2_with fail
  refine HN.out.mono ?_
  rintro _ w1 ⟨u, k1, ⟨rfl, hu⟩, hk1, hs⟩
  have H1 := Lib.hid (And.intro hu (And.intro hk1 hs))
  clear hu hk1 hs HN
  go_wp2_with fail
  refine (HO.out k1 (by have := H1.out; omega) _ H1.out.2.2.1).mono ?_
  rintro _ w2 ⟨⟨b, rfl⟩, hs⟩
  have H2 := Lib.hid (And.intro hs.1 (H1.out.2.2.2.trans hs.2))
  clear hs HO
  cases b
  · go_wp2_with fail
    refine (HM.out (k1 + 1) (by have := H1.out; omega) _ H2.out.1).mono ?_
    rintro _ w3 ⟨v, k3, ⟨rfl, hv⟩, hk3, hs⟩
    have H3 := Lib.hid (And.intro hv (H2.out.2.trans hs.2))
    clear hv hk3 hs HM
    go_wp2
    go_ret
    exact AnyC.mk H1.out.1 H3.out.1 H3.out.2
  · go_wp2
    go_ret
    exact AnyC.mk H1.out.1 (by decide) H2.out.2
/-- some point, in a world that has kept what was there -/
def WildP (w : World) (e : Ending) (w' : World) : Prop := ∃ z : Nat, (e = .returned (.complex .f32 (reP z) (imP z)) ∧ z < B64) ∧ Kept w w'
set_option maxHeartbeats 4000000 in
theorem wildOk (a : Option Addr) (n c : Nat) (hn : n ≤ 9223372036854775807) (w : World) (h : Bytes a n w) :
    Calls Try.prog 16 #[.slice a n c] w (WildP w) := by
  have HN := Lib.hid (fromOk a n c w h)
  have HM := Lib.hid (anyC a n c w.heap.size 0 hn (by omega))
  clear h hn
  go_enter Try.func16, Try.ntmps16
  go_wp2_with fail
  refine HN.out.mono ?_
  rintro _ w1 ⟨⟨rfl, hs⟩, hk⟩
  have H := Lib.hid (And.intro hs hk)
  clear hs hk HN
  go_wp2_with fail
  refine (HM.out w1 H.out.1).mono ?_
  rintro _ w2 hA
  obtain ⟨z, ⟨rfl, hz⟩, hg⟩ := hA
  have H2 : Hid (z < B64 ∧ Kept w w2) := Lib.hid ⟨hz, Below.grown H.out.2 hg H.out.2.size (fun k hk => by cases hk; exact Nat.le_refl _)⟩
  clear hz hg HM
  go_wp2
  go_ret
  exact ⟨z, ⟨rfl, H2.out.1⟩, H2.out.2⟩
/-- a list while it is drawn: the source's place, the row of the call's own -/
def DS (T : TypeId) (f : Nat → Value) (B m : Nat) (a : Option Addr) (n c : Nat) (w0 : World) (out : Value) (xs : List Nat) (wr : World) : Prop :=
  (∃ k, k ≤ 1 + m * xs.length ∧ Sp a n c w0.heap.size k wr) ∧ wr.ownsRow (w0.heap.size + 1) T 1 out xs.length (xs.map f) ∧ (∀ x ∈ xs, x < B) ∧ Kept w0 wr
/-- the same, ahead of an append: the source has gone on by a draw -/
def DS1 (T : TypeId) (f : Nat → Value) (B m : Nat) (a : Option Addr) (n c : Nat) (w0 : World) (out : Value) (xs : List Nat) (wr : World) : Prop :=
  (∃ k, k ≤ 1 + m * (xs.length + 1) ∧ Sp a n c w0.heap.size k wr) ∧ wr.ownsRow (w0.heap.size + 1) T 1 out xs.length (xs.map f) ∧ (∀ x ∈ xs, x < B) ∧ Kept w0 wr
theorem kept_source {w0 w w' : World} (h : Kept w0 w) (hg : w.grownBy w' (some w0.heap.size)) : Kept w0 w' :=
  Below.grown h hg h.size (fun k hk => by cases hk; exact Nat.le_refl _)
theorem row_source {w0 w w' : World} {T : TypeId} {v : Value} {n : Nat} {xs : List Value} (h : w.ownsRow (w0.heap.size + 1) T 1 v n xs) (hg : w.grownBy w' (some w0.heap.size)) : w'.ownsRow (w0.heap.size + 1) T 1 v n xs := by
  refine World.ownsRow.kept h hg ?_
  cases hv : v.ownBlock with
  | none => exact .inl rfl
  | some k =>
    refine .inr (fun e => ?_)
    have := (h.lt k hv).1
    have e2 : k = w0.heap.size := by simpa using e
    omega
theorem DS.draw {T : TypeId} {f : Nat → Value} {B m k k' : Nat} {a : Option Addr} {n c : Nat} {w0 wr w' : World} {out : Value} {xs : List Nat} (h : DS T f B m a n c w0 out xs wr)
    (hk : k ≤ 1 + m * xs.length) (hk' : k' ≤ k + m) (hs : Sp a n c w0.heap.size k' w') (hg : wr.grownBy w' (some w0.heap.size)) : DS1 T f B m a n c w0 out xs w' :=
  ⟨⟨k', by rw [Nat.mul_succ]; omega, hs⟩, row_source h.2.1 hg, h.2.2.1, kept_source h.2.2.2 hg⟩
theorem DS1.push {T : TypeId} {f : Nat → Value} {B m : Nat} {a : Option Addr} {n c : Nat} {w0 wr w' : World} {out v' : Value} {xs : List Nat} {x : Nat} {t : TypeId} (h : DS1 T f B m a n c w0 out xs wr) (hx : x < B)
    (hown : w'.ownsRow (w0.heap.size + 1) T 1 v' (xs.length + 1) (xs.map f ++ [f x])) (hg : (wr.alloc (.cells #[f x] t)).grownBy w' out.ownBlock) : DS T f B m a n c w0 v' (xs ++ [x]) w' := by
  obtain ⟨⟨k, h1, h2⟩, h3, h4, h5⟩ := h
  have hb : ∀ k, out.ownBlock = some k → w0.heap.size < k := fun k hk => by have := (h3.lt k hk).1; omega
  refine ⟨⟨k, by rw [List.length_append, List.length_singleton]; exact h1, ?_⟩, by rw [List.length_append, List.map_append]; exact hown, fun y hy => ?_, ?_⟩
  · exact Sp.grown (Sp.grown h2 (World.grownBy_alloc wr _ none) (by simp)) hg hb
  · rcases List.mem_append.1 hy with e | e
    · exact h4 y e
    · rw [List.mem_singleton.1 e]; exact hx
  · exact Below.grown (h5.alloc _) hg (by have := h5.size; simp; omega) (fun k hk => Nat.le_of_lt (hb k hk))
/-- what a drawn list is -/
def ListP (T : TypeId) (f : Nat → Value) (B m : Nat) (w : World) (e : Ending) (w' : World) : Prop := ∃ (v : Value) (xs : List Nat), (e = .returned v ∧ xs.length ≤ m ∧ ∀ x ∈ xs, x < B) ∧ w'.ownsRow w.heap.size T 1 v xs.length (xs.map f) ∧ Kept w w'
set_option maxRecDepth 100000 in
set_option maxHeartbeats 8000000 in
theorem realsOk (a : Option Addr) (n c : Nat) (hn : n ≤ 9223372036854775807) (w : World) (h : Bytes a n w) :
    Calls Try.prog 12 #[.slice a n c, .int .i64 9] w (ListP 34 (Value.float .f32) 4294967296 9 w) := by
  have HN := Lib.hid (fromOk a n c w h)
  have P10 := Lib.hid (pk10 a n c w.heap.size 0 hn (by omega))
  have HA := Lib.hid (fun k (hk : k ≤ 100000) => anyOk a n c w.heap.size k hn (by omega))
  obtain ⟨i0, i1, i2, i3, i4⟩ := info_parts Go.Proofs.Ytbceiphiopdegaa.info32
  have II := Lib.hid (And.intro i1 (And.intro i2 (And.intro i3 i4)))
  clear h hn i1 i2 i3 i4
  go_enter Try.func12, Try.ntmps12
  go_wp2_with fail
  refine HN.out.mono ?_
  rintro _ w1 ⟨⟨rfl, hs⟩, hk⟩
  have hz : w.heap.size + 1 ≤ w1.heap.size := lt_of_cell hs.1
  have H := Lib.hid (And.intro hs (And.intro hk hz))
  clear hs hk hz HN
  go_wp2_with fail
  refine (P10.out _ (Sp.grown H.out.1 (World.grownBy_alloc w1 _ none) (by simp))).mono ?_
  rintro _ w2 ⟨m, ⟨rfl, hm⟩, hs, hg⟩
  have S : Hid (DS 34 (Value.float .f32) 4294967296 6 a n c w (.slice (some ⟨w1.heap.size, 0, none⟩) 0 0) [] w2) :=
    Lib.hid ⟨⟨1, by omega, hs⟩, row_source (World.ownsRow_made w1 #[] 0 H.out.2.2 (by decide) rfl) hg, by simp, kept_source (H.out.2.1.alloc _) hg⟩
  clear hs hg P10
  go_wp2
  go_loopw [6, 7] (fun vo vi wr => ∃ (i : Nat) (xs : List Nat), i + xs.length ≤ 9 ∧ vi = .int .i64 (i : Int) ∧ Hid (DS 34 (Value.float .f32) 4294967296 6 a n c w vo xs wr)) (fun _ vi _ => (intOf vi).toNat)
  case atStart => exact ⟨m, [], by simp; omega, rfl, S⟩
  case round =>
    clear S
    obtain ⟨i, xs, hi, rfl, S⟩ := hrel
    have HI := Lib.hid hi
    by_cases h0 : 0 < i
    · have q0 : (0 : Int) < (i : Int) := by omega
      have q1 : (i : Int) ≤ 9 := by omega
      obtain ⟨k, hk, hsp⟩ := S.out.1
      have HK := Lib.hid hk
      clear hi hk
      go_wp2_with fail
      refine (HA.out k (by have := HK.out; have := HI.out; omega) _ hsp).mono ?_
      rintro _ w3 hA
      obtain ⟨r, k', ⟨rfl, hr⟩, hkk, hs, hg⟩ := hA
      have D := Lib.hid (S.out.draw HK.out hkk.2 hs hg)
      have HR := Lib.hid hr
      clear hsp hr hkk hs hg S HK
      go_wp2_with (at_builtin; refine wpList_append_own _ rfl _ _ 22 rfl (w.heap.size + 1) 34 i0 (.float .f32 0) 1 4 Try.underlying22 II.out.1 II.out.2.1 II.out.2.2.1 II.out.2.2.2 rfl (by decide) _ _ _ rfl (World.ownsRow.alloc D.out.2.1 _) ⟨w3.heap.size, 0, none⟩ 1 1 [.float .f32 r] rfl rfl (cell_one_new _ _ _) ?c2 ?c3 ?c4 ?c5 ?_)
      case c2 => simp [Value.oneCell']
      case c3 => have := HI.out; unfold maxLen; omega
      case c4 => have := HI.out; omega
      case c5 =>
        obtain ⟨k', _, hs⟩ := D.out.1
        have := lt_of_cell hs.1
        simp at this ⊢; omega
      intro v' w4 hown hgrow _
      have S := Lib.hid (D.out.push HR.out hown hgrow)
      clear hown hgrow D HR
      go_wp2
      go_roundw
      case rel => exact ⟨i - 1, xs ++ [r], by have := HI.out; rw [List.length_append, List.length_singleton]; omega, by go_num, S⟩
      case measure => simp [intOf]; omega
    · have q0 : decide ((0 : Int) < (i : Int)) = false := decide_eq_false (by omega)
      go_wp2
      go_ret
      exact ⟨_, xs, ⟨rfl, by omega, S.out.2.2.1⟩, World.ownsRow.mono S.out.2.1 (by omega), S.out.2.2.2⟩
theorem fo5 : ∀ r : Nat, r < 5 → floatOfInt .f32 (r : Int) < 4294967296 := by decide +kernel
set_option maxRecDepth 100000 in
set_option maxHeartbeats 8000000 in
theorem pointsOk (a : Option Addr) (n c : Nat) (hn : n ≤ 9223372036854775807) (w : World) (h : Bytes a n w) :
    Calls Try.prog 15 #[.slice a n c, .int .i64 8] w (ListP 37 cxv B64 8 w) := by
  have HN := Lib.hid (fromOk a n c w h)
  have P9 := Lib.hid (pk9 a n c w.heap.size 0 hn (by omega))
  have P5 := Lib.hid (fun k (hk : k ≤ 100000) => pk5 a n c w.heap.size k hn (by omega))
  have hi32 := run_int32
  obtain ⟨i0, i1, i2, i3, i4⟩ := info_parts info32
  have II := Lib.hid (And.intro i1 (And.intro i2 (And.intro i3 i4)))
  clear h hn i1 i2 i3 i4
  go_enter Try.func15, Try.ntmps15
  go_wp2_with fail
  refine HN.out.mono ?_
  rintro _ w1 ⟨⟨rfl, hs⟩, hk⟩
  have hz : w.heap.size + 1 ≤ w1.heap.size := lt_of_cell hs.1
  have H := Lib.hid (And.intro hs (And.intro hk hz))
  clear hs hk hz HN
  go_wp2_with fail
  refine (P9.out _ (Sp.grown H.out.1 (World.grownBy_alloc w1 _ none) (by simp))).mono ?_
  rintro _ w2 ⟨m, ⟨rfl, hm⟩, hs, hg⟩
  have S : Hid (DS 37 cxv B64 2 a n c w (.slice (some ⟨w1.heap.size, 0, none⟩) 0 0) [] w2) :=
    Lib.hid ⟨⟨1, by omega, hs⟩, row_source (World.ownsRow_made w1 #[] 0 H.out.2.2 (by decide) rfl) hg, by simp, kept_source (H.out.2.1.alloc _) hg⟩
  clear hs hg P9
  go_wp2
  go_loopw [6, 7] (fun vo vi wr => ∃ (i : Nat) (xs : List Nat), i + xs.length ≤ 8 ∧ vi = .int .i64 (i : Int) ∧ Hid (DS 37 cxv B64 2 a n c w vo xs wr)) (fun _ vi _ => (intOf vi).toNat)
  case atStart => exact ⟨m, [], by simp; omega, rfl, S⟩
  case round =>
    clear S
    obtain ⟨i, xs, hi, rfl, S⟩ := hrel
    have HI := Lib.hid hi
    by_cases h0 : 0 < i
    · have q0 : (0 : Int) < (i : Int) := by omega
      have q1 : (i : Int) ≤ 9 := by omega
      obtain ⟨k, hk, hsp⟩ := S.out.1
      have HK := Lib.hid hk
      clear hi hk
      go_wp2_with fail
      refine (P5.out k (by have := HK.out; have := HI.out; omega) _ hsp).mono ?_
      rintro _ w3 ⟨r, ⟨rfl, hr⟩, hs, hg⟩
      have G := Lib.hid (And.intro hs (And.intro hg (fo5 r hr)))
      clear hsp hr hs hg
      go_wp2_with fail
      refine (P5.out (k + 1) (by have := HK.out; have := HI.out; omega) _ G.out.1).mono ?_
      rintro _ w5 ⟨r', ⟨rfl, hr⟩, hs, hg⟩
      have D := Lib.hid (S.out.draw HK.out (k' := k + 2) (by omega) hs (G.out.2.1.trans hg))
      have HR := Lib.hid (And.intro G.out.2.2 (fo5 r' hr))
      clear hr hs hg S HK G
      have HZ : Hid (cxv (mkz (floatOfInt .f32 (r : Int)) (floatOfInt .f32 (r' : Int))) = .complex .f32 (floatOfInt .f32 (r : Int)) (floatOfInt .f32 (r' : Int))) := Lib.hid (cxv_mk HR.out.2)
      go_wp2_with (at_builtin; refine wpList_append_own _ rfl _ _ 35 rfl (w.heap.size + 1) 37 i0 (.complex .f32 0 0) 1 8 Try.underlying35 II.out.1 II.out.2.1 II.out.2.2.1 II.out.2.2.2 rfl (by decide) _ _ _ rfl (World.ownsRow.alloc D.out.2.1 _) ⟨w5.heap.size, 0, none⟩ 1 1 [.complex .f32 (floatOfInt .f32 (r : Int)) (floatOfInt .f32 (r' : Int))] rfl rfl (cell_one_new _ _ _) ?c2 ?c3 ?c4 ?c5 ?_)
      case c2 => simp [Value.oneCell']
      case c3 => have := HI.out; unfold maxLen; omega
      case c4 => have := HI.out; omega
      case c5 =>
        obtain ⟨k', _, hs⟩ := D.out.1
        have := lt_of_cell hs.1
        simp at this ⊢; omega
      intro v' w4 hown hgrow _
      rw [← HZ.out] at hown hgrow
      have S := Lib.hid (D.out.push (mkz_lt HR.out.1 HR.out.2) hown hgrow)
      clear hown hgrow D HR
      go_wp2
      go_roundw
      case rel => exact ⟨i - 1, xs ++ [mkz (floatOfInt .f32 (r : Int)) (floatOfInt .f32 (r' : Int))], by have := HI.out; rw [List.length_append, List.length_singleton]; omega, by go_num, S⟩
      case measure => simp [intOf]; omega
    · have q0 : decide ((0 : Int) < (i : Int)) = false := decide_eq_false (by omega)
      go_wp2
      go_ret
      exact ⟨_, xs, ⟨rfl, by omega, S.out.2.2.1⟩, World.ownsRow.mono S.out.2.1 (by omega), S.out.2.2.2⟩
end Go.Proofs.Ytbceiphiopdegaa.Pt
