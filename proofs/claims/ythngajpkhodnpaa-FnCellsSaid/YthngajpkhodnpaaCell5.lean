/-
  FnCells: the law's walk.
-/
import Derived.Test.YthngajpkhodnpaaCell4
import Derived.Test.YthngajpkhodnpaaNb6
set_option linter.unusedSimpArgs false
set_option linter.unusedVariables false
namespace Go.Proofs.Ythngajpkhodnpaa
open Go.RowKit

theorem corn_lt {c : Int} {S b : Nat} (h : CornOK c S b) : b < 4294967296 := by
  obtain ⟨T, P, _, _, h⟩ := h
  unfold floatToFloatBits at h
  rw [if_neg (by decide)] at h
  split at h
  · cases h
  · cases h; exact Ieee.Format.write_lt Ieee.single _
  · split at h
    · cases h
    · cases h; exact Ieee.Format.write_lt Ieee.single _
set_option maxHeartbeats 4000000 in
theorem bigOk (a : Option Addr) (n c : Nat) (hn : n ≤ 9223372036854775807) (w : World) :
    Calls Try.prog 4 #[.slice a n c] w fun e w' => e = .returned (.bool (decide (4096 < n))) ∧ w = w' := by
  by_cases h : 4096 < n
  · have h' : (4096 : Int) < (n : Int) := by omega
    have hd : decide (4096 < n) = true := decide_eq_true h
    rw [hd]
    clear h hd
    go_enter Try.func4, Try.ntmps4
    go_wp2
    go_ret
    exact ⟨rfl, rfl⟩
  · have h' : decide ((4096 : Int) < (n : Int)) = false := decide_eq_false (by omega)
    have hd : decide (4096 < n) = false := decide_eq_false h
    rw [hd]
    clear h hd
    go_enter Try.func4, Try.ntmps4
    go_wp2
    go_ret
    exact ⟨rfl, rfl⟩
theorem inC_of {c : Int} (h1 : -64 ≤ c) (h2 : c ≤ 64) : inC c = true := by
  unfold inC
  rw [Bool.and_eq_true]
  exact ⟨decide_eq_true (by omega), decide_eq_true (by omega)⟩
theorem nb_ne (c d : Int) (i : Nat) (hi : i < 8) : (((zsL c d).getD i (0, 0)).1 == c && ((zsL c d).getD i (0, 0)).2 == d) = false := by
  have h : i = 0 ∨ i = 1 ∨ i = 2 ∨ i = 3 ∨ i = 4 ∨ i = 5 ∨ i = 6 ∨ i = 7 := by omega
  rw [Bool.and_eq_false_iff, beq_eq_false_iff_ne, beq_eq_false_iff_ne]
  rcases h with rfl | rfl | rfl | rfl | rfl | rfl | rfl | rfl <;> simp [zsL] <;> omega
theorem cell2_alloc (w : World) (u v : Value) (t : TypeId) : (w.alloc (.cells #[u, v] t)).cell? ⟨w.heap.size, 0, none⟩ = some u ∧ (w.alloc (.cells #[u, v] t)).cell? ⟨w.heap.size, 1, none⟩ = some v :=
  ⟨World.cell?_alloc_at _ _ _ _ rfl, World.cell?_alloc_at _ _ _ _ rfl⟩
set_option maxRecDepth 100000 in
set_option maxHeartbeats 8000000 in
theorem lawCells (a a' : Option Addr) (n c n' c' : Nat) (hn : n ≤ 4096) (hn' : n' ≤ 4096) (w : World) (h : Bytes a n w) (h' : Bytes a' n' w) :
    Calls Try.prog 3 #[.slice a n c, .slice a' n' c'] w fun e w' => e = .returned (.bool true) ∧ Below w.heap.size w w' := by
  have HB := Lib.hid (bigOk a n c (by omega))
  have HB' := Lib.hid (bigOk a' n' c' (by omega))
  rw [show decide (4096 < n) = false from decide_eq_false (by omega)] at HB
  rw [show decide (4096 < n') = false from decide_eq_false (by omega)] at HB'
  have HP := Lib.hid (pointOk a n c (by omega) w h)
  have HK := Lib.hid (fun w1 (hk : Kept w w1) => pick6 a' n' c' (by omega) w1 (h'.kept hk))
  have hi := run_int32
  clear hn hn' h h'
  go_enter Try.func3, Try.ntmps3
  go_wp2_with fail
  refine (HB.out _).mono ?_
  rintro _ _ ⟨rfl, rfl⟩
  go_wp2_with fail
  refine (HB'.out _).mono ?_
  rintro _ _ ⟨rfl, rfl⟩
  go_wp2_with fail
  refine HP.out.mono ?_
  rintro _ w1 ⟨m, m', ⟨rfl, hm, hm'⟩, hk⟩
  have K1 := Lib.hid hk
  have M := Lib.hid (And.intro hm hm')
  clear hk hm hm' HP HB HB'
  go_wp2_with fail
  refine (HK.out w1 K1.out).mono ?_
  rintro _ w2 ⟨s, ⟨rfl, hs⟩, hk⟩
  have K2 := Lib.hid (Kept.trans K1.out hk)
  obtain ⟨s1, s2, s3, s4⟩ := sq_ok s hs
  have hq := run_quo32 s1
  obtain ⟨x, cb, nb, x1, x2, x3, x4, x5, x6, x7, x8, x9⟩ := cell_law m s M.out.1 hs
  obtain ⟨y, db, mb, y1, y2, y3, y4, y5, y6, y7, y8, y9⟩ := cell_law m' s M.out.2 hs
  have HCI := Lib.hid (implCell (xq m) (xq m') (sq s) x y (xq_ok m M.out.1).2.2 (xq_ok m' M.out.2).2.2 s3 (xq_ok m M.out.1).2.1 (xq_ok m' M.out.2).2.1 s2 s4 x3 y3)
  have HCS := Lib.hid (specCell (xq m) (xq m') (sq s) x y (xq_ok m M.out.1).2.1 (xq_ok m' M.out.2).2.1 s2 s4 x3 y3)
  have HC1 := Lib.hid (implCorner x y (sq s) cb db ⟨x1, by omega⟩ ⟨y1, by omega⟩ s3 s2 s4 x4 y4)
  have HC2 := Lib.hid (implCorner (x + 1) (y + 1) (sq s) nb mb ⟨by omega, by omega⟩ ⟨by omega, by omega⟩ s3 s2 s4 x5 y5)
  have HC3 := Lib.hid (implCell cb db (sq s) x y (corn_lt x4) (corn_lt y4) s3 x6 y6 s2 s4 x9 y9)
  have HNS := Lib.hid (specNbIn x y (inC_of x1 x2) (inC_of y1 y2))
  have HNI := Lib.hid (implNbIn x y (inC_of x1 x2) (inC_of y1 y2))
  have HNE := Lib.hid (nb_ne x y)
  rw [Bool.or_eq_false_iff] at x8 y8
  obtain ⟨x8a, x8b⟩ := x8
  obtain ⟨y8a, y8b⟩ := y8
  have wx : IntKind.i32.wrap (x + 1) = x + 1 := by rw [IntKind.wrap_i32]; omega
  have wy : IntKind.i32.wrap (y + 1) = y + 1 := by rw [IntKind.wrap_i32]; omega
  have hs0 : (s : Int) < 16 := by omega
  clear hk hs K1 M HK s1 s2 s3 s4 x1 x2 x3 x4 x5 x6 x9 y1 y2 y3 y4 y5 y6 y9
  generalize sq s = S at *
  generalize xq m = X at *
  generalize xq m' = Y at *
  go_wp2_with fail
  refine (HCI.out _).mono ?_
  rintro _ w3 ⟨rfl, hk⟩
  have K3 := Lib.hid (Kept.trans K2.out hk)
  clear hk K2 HCI hq hi
  obtain ⟨p0, p1⟩ := cell2_alloc w3 (.int .i32 x) (.int .i32 y) 29
  have K3' := Lib.hid ((K3.out.alloc (.cells #[.int .i32 x, .int .i32 y] 29)))
  go_wp2_with fail
  refine (HCS.out _).mono ?_
  rintro _ w4 ⟨rfl, hk⟩
  have l0 := hk.cell p0
  have l1 := hk.cell p1
  have K4 := Lib.hid (Kept.trans K3'.out hk)
  clear hk p0 p1 K3 K3' HCS
  obtain ⟨q0, q1⟩ := cell2_alloc w4 (.int .i32 x) (.int .i32 y) 29
  have K4' := Lib.hid ((K4.out.alloc (.cells #[.int .i32 x, .int .i32 y] 29)))
  have L0 := Lib.hid (((Kept.refl w4).alloc (.cells #[.int .i32 x, .int .i32 y] 29)).cell l0)
  have L1 := Lib.hid (((Kept.refl w4).alloc (.cells #[.int .i32 x, .int .i32 y] 29)).cell l1)
  clear l0 l1
  go_wp2_with fail
  refine (HC1.out _).mono ?_
  rintro _ w5 ⟨rfl, hk⟩
  have l0 := hk.cell L0.out
  have l1 := hk.cell L1.out
  have d0 := hk.cell q0
  have d1 := hk.cell q1
  have K5 := Lib.hid (Kept.trans K4'.out hk)
  clear hk L0 L1 q0 q1 K4 K4' HC1
  generalize w3.heap.size = b3 at *
  generalize w4.heap.size = b4 at *
  go_wp2_with fail
  refine (HC2.out _).mono ?_
  rintro _ w6 ⟨rfl, hk⟩
  have l0 := hk.cell l0
  have l1 := hk.cell l1
  have d0 := hk.cell d0
  have d1 := hk.cell d1
  have K6 := Lib.hid (Kept.trans K5.out hk)
  clear hk K5 HC2
  go_wp2_with fail
  refine (HNI.out _).mono ?_
  rintro _ w7 ⟨g, cap, rfl, -, g2, -, hk⟩
  have G := Lib.hid g2
  have d0 := hk.cell d0
  have d1 := hk.cell d1
  have K7 := Lib.hid (Kept.trans K6.out hk)
  clear hk K6 HNI g2 l0 l1
  go_wp2_with fail
  refine (HNS.out _).mono ?_
  rintro _ w8 ⟨g', cap', rfl, -, g2, -, hk⟩
  have G1 := Lib.hid (G.out.kept hk)
  have G2 := Lib.hid g2
  have d0 := hk.cell d0
  have d1 := hk.cell d1
  have K8 := Lib.hid (Kept.trans K7.out hk)
  clear hk K7 HNS g2 G
  go_wp2_with fail
  go_loopw [19] (fun i wr => ∃ k : Nat, k ≤ 8 ∧ i = .int .i64 (k : Int) ∧ Hid (Kept w8 wr)) (fun i _ => 8 - (intOf i).toNat)
  case atStart => exact ⟨0, Nat.zero_le _, rfl, Kept.refl _⟩
  case round =>
    obtain ⟨k, hk, rfl, HR⟩ := hrel
    by_cases hlt : k < 8
    · have hne := HNE.out k hlt
      obtain ⟨e1, e2⟩ := (G1.out.kept HR.out) k hlt
      obtain ⟨e3, e4⟩ := (G2.out.kept HR.out) k hlt
      have d0 := HR.out.cell d0
      have d1 := HR.out.cell d1
      generalize ((zsL x y).getD k (0, 0)).1 = u at *
      generalize ((zsL x y).getD k (0, 0)).2 = v at *
      go_wp2
      go_quiet (fail)
      go_wp2
      go_roundw
      case rel => exact ⟨k + 1, by omega, by go_num, Kept.drewN HR.out _⟩
      case measure => simp [intOf]; omega
    · obtain rfl : k = 8 := by omega
      have d0 := HR.out.cell d0
      have d1 := HR.out.cell d1
      have K9 := Lib.hid (Kept.trans K8.out HR.out)
      go_wp2_with fail
      refine (HC3.out _).mono ?_
      rintro _ wa ⟨rfl, hk⟩
      have d0 := hk.cell d0
      have d1 := hk.cell d1
      have Ka := Lib.hid (Kept.trans K9.out hk)
      have e0 := ((Kept.refl wa).alloc (.cells #[.int .i32 x, .int .i32 y] 29)).cell d0
      have e1 := ((Kept.refl wa).alloc (.cells #[.int .i32 x, .int .i32 y] 29)).cell d1
      clear hk HC3 d0 d1
      go_wp2
      go_ret
      exact ⟨rfl, Kept.alloc Ka.out _⟩
set_option maxRecDepth 100000 in
set_option maxHeartbeats 4000000 in
theorem law_FnCells (a a' : Option Addr) (n c n' c' : Nat) (hn : n ≤ 9223372036854775807) (hn' : n' ≤ 9223372036854775807) (w : World) (h : Bytes a n w) (h' : Bytes a' n' w) :
    Calls Try.prog 3 #[.slice a n c, .slice a' n' c'] w fun e w' => e = .returned (.bool true) ∧ Below w.heap.size w w' := by
  by_cases h1 : 4096 < n
  · have HB := Lib.hid (bigOk a n c hn)
    rw [show decide (4096 < n) = true from decide_eq_true h1] at HB
    clear h1 hn hn' h h'
    go_enter Try.func3, Try.ntmps3
    go_wp2_with fail
    refine (HB.out _).mono ?_
    rintro _ _ ⟨rfl, rfl⟩
    go_wp2
    go_ret
    exact ⟨rfl, Kept.refl _⟩
  · by_cases h2 : 4096 < n'
    · have HB := Lib.hid (bigOk a n c hn)
      have HB' := Lib.hid (bigOk a' n' c' hn')
      rw [show decide (4096 < n) = false from decide_eq_false h1] at HB
      rw [show decide (4096 < n') = true from decide_eq_true h2] at HB'
      clear h1 h2 hn hn' h h'
      go_enter Try.func3, Try.ntmps3
      go_wp2_with fail
      refine (HB.out _).mono ?_
      rintro _ _ ⟨rfl, rfl⟩
      go_wp2_with fail
      refine (HB'.out _).mono ?_
      rintro _ _ ⟨rfl, rfl⟩
      go_wp2
      go_ret
      exact ⟨rfl, Kept.refl _⟩
    · exact lawCells a a' n c n' c' (by omega) (by omega) w h h'
open Go.ChangeShapes Go.WideShapes Go.ChangeAt
section
variable {H : Type} {enc : TypeId × Value → H} {P : Program}
/-- a slice of bytes that comes in, opened -/
theorem open_u8s {w : World} {r : Go.Reach} {b0 : Nat} {t e : TypeId} {v : Value} {d : DataW H} {ps : List MemPlace} (ht : P.underlying t = some (.slice e)) (he : P.underlying e = some (.int .u8)) (hc : P.cellsOf e = 1)
    (hval : Value.okWide P w r b0 t v) (hd : DataW.Trod enc P w 0 (fun _ => true) true t v d ps) :
    ∃ a n c, v = .slice a n c ∧ n ≤ 9223372036854775807 ∧ Bytes a n w := by
  obtain ⟨a, len, cap, rfl⟩ := okWide_slice ht hval
  obtain ⟨fuel, hf⟩ := hd
  rcases Go.Deep.open_slice1 ht hc hf with ⟨hcs, _⟩ | ⟨a', len', cap', m, n, V, D, Pl, hcs, _, hl, hm, hmm, _, hx⟩
  · simp [Value.cells] at hcs
    obtain ⟨rfl, rfl, rfl⟩ := hcs
    exact ⟨none, 0, 0, rfl, by decide, .inl rfl⟩
  · simp [Value.cells] at hcs
    obtain ⟨rfl, rfl, rfl⟩ := hcs
    have hm' : m = cap := by rw [hmm]; simp
    subst hm'
    refine ⟨some a', len, m, rfl, by unfold maxLen at hm; omega, ?_⟩
    by_cases h0 : len = 0
    · exact .inl h0
    · right
      obtain ⟨b, off, spot⟩ := a'
      have hspot : spot = none := by simpa [Addr.add] using World.cell?_spot (hx 0 (by omega)).1
      subst hspot
      refine ⟨b, off, rfl, fun i hi => ?_⟩
      obtain ⟨z, h1, _, h3⟩ := DataW.trod_int he (hx i (by omega)).2
      have hv : V i = .int .u8 z := by simpa using h1
      have hb : 0 ≤ z ∧ z < 256 := by
        simp [Lit.wf, IntKind.min, IntKind.max, IntKind.signed, IntKind.bits] at h3
        omega
      refine ⟨z.toNat, by omega, ?_⟩
      rw [← Go.WideShapes.add_plain, (hx i (by omega)).1, hv, Int.toNat_of_nonneg hb.1]
end
end Go.Proofs.Ythngajpkhodnpaa
