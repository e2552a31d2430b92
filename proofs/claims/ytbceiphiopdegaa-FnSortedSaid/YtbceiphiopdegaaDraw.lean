/-
  Walks for FnSorted: the source of choices, its picks, and what they leave alone (every block but the source's own).
-/
import Derived.Test.YtbceiphiopdegaaSrc
import Derived.Laws.FloatArith
import Derived.Deep.Onto
set_option linter.unusedSimpArgs false
set_option linter.unusedVariables false
namespace Go.Proofs.Ytbceiphiopdegaa.Pt
open Go.RowKit

theorem grown_drewN {w w' : World} {r : Option Nat} (h : w.grownBy w' r) (m : Nat) : w.grownBy (w'.drewN m) r := ⟨h.os, h.tape, h.output, h.size, h.block⟩
theorem grown_setCell {w w' : World} {p : Nat} (h : w.grownBy w' (some p)) (o : Nat) (v : Value) : w.grownBy (w'.setCell ⟨p, o, none⟩ v) (some p) := by
  refine ⟨h.os, h.tape, h.output, Nat.le_trans h.size (Below.setCell (p := ⟨p, o, none⟩) (Below.refl 0 w') (Nat.zero_le _) v).size, fun k hk hne => ?_⟩
  rw [← h.block k hk hne]
  exact Below.heap_setCell _ _ _ k (fun e => hne (by rw [e]))
theorem Code8.grown {a : Option Addr} {n p : Nat} {w w' : World} {r : Option Nat} (h : Code8 a n p w) (hg : w.grownBy w' r) (hr : ∀ k, r = some k → p ≤ k) : Code8 a n p w' := by
  rcases h with h | ⟨g, o, h1, h2, h3⟩
  · exact .inl h
  · refine .inr ⟨g, o, h1, h2, fun i hi => ?_⟩
    obtain ⟨b, b1, b2⟩ := h3 i hi
    exact ⟨b, b1, hg.cell b2 (fun e => by have := hr g e.symm; omega)⟩
/-- the source, where other blocks have turned -/
theorem Sp.grown {a : Option Addr} {n c p k : Nat} {w w' : World} {r : Option Nat} (h : Sp a n c p k w) (hg : w.grownBy w' r) (hr : ∀ k, r = some k → p < k) : Sp a n c p k w' := by
  obtain ⟨c0, c1, ⟨x, hx, c2⟩, f, g⟩ := h
  have hne : some p ≠ r := fun e => by have := hr p e.symm; omega
  have hlt : p < w.heap.size := lt_of_cell c0
  exact ⟨hg.cell c0 hne, hg.cell c1 hne, ⟨x, hx, hg.cell c2 hne⟩, fun j => (World.frozen?_of_block (a := ⟨p, j, none⟩) (hg.block p hlt hne)).trans (f j), Code8.grown g hg (fun k e => Nat.le_of_lt (hr k e))⟩
theorem Sp.drewN' {a : Option Addr} {n c p k : Nat} {w : World} (h : Sp a n c p k w) (m : Nat) : Sp a n c p k (w.drewN m) := h
theorem Sp.fin' {a : Option Addr} {n c p k x : Nat} {w : World} (h : Sp a n c p k w) (hx : x < 18446744073709551616) (m m' : Nat) :
    Sp a n c p (k + 1) ((((w.drewN m).setCell ⟨p, 1, none⟩ (.int .i64 ((k : Int) + 1))).setCell ⟨p, 2, none⟩ (.int .u64 (x : Int))).drewN m') ∧ w.grownBy ((((w.drewN m).setCell ⟨p, 1, none⟩ (.int .i64 ((k : Int) + 1))).setCell ⟨p, 2, none⟩ (.int .u64 (x : Int))).drewN m') (some p) :=
  ⟨(Sp.fin h hx m m').1, grown_drewN (grown_setCell (grown_setCell (grown_drewN (World.grownBy.refl w _) m) 1 _) 2 _) m'⟩
set_option maxHeartbeats 4000000 in
theorem nextOk (a : Option Addr) (n c p k : Nat) (hn : n ≤ 9223372036854775807) (hk : k ≤ 1000000) (w : World) (h : Sp a n c p k w) :
    Calls Try.prog 48 #[.pointer (some ⟨p, 0, none⟩)] w fun e w' => ∃ r : Nat, (e = .returned (.int .i64 (r : Int)) ∧ r < 256) ∧ Sp a n c p (k + 1) w' ∧ w.grownBy w' (some p) := by
  have H := Lib.hid h
  obtain ⟨c0, c1, ⟨x, hx, c2⟩, hf, hg⟩ := h
  have f1 := hf 1
  have f2 := hf 2
  clear hf
  have hk0 : (0 : Int) ≤ (k : Int) := by omega
  have hk1 : (k : Int) ≤ 1000000 := by omega
  by_cases hlt : k < n
  · rcases hg with hg | ⟨g, o, rfl, hgp, hcell⟩
    · omega
    obtain ⟨b, hb, cb⟩ := hcell k hlt
    have hne : g ≠ p := by omega
    have hle : (k : Int) + 1 ≤ (n : Int) := by omega
    clear hcell
    obtain ⟨X, hX, eX⟩ := u64_nat (IntKind.u64.wrap (IntKind.u64.wrap ((x : Int) * 6364136223846793005) + (b : Int)) + 1442695040888963407)
    go_enter Try.func48, Try.ntmps48
    go_wp2
    go_quiet (fail)
    go_wp2
    go_quiet (fail)
    go_wp2
    go_quiet (fail)
    go_wp2
    go_ret
    exact ⟨b, ⟨rfl, hb⟩, Sp.fin' H.out hX _ _⟩
  · have hle : (n : Int) < (k : Int) + 1 := by omega
    clear hg
    obtain ⟨X, hX, eX⟩ := u64_nat (IntKind.u64.wrap (IntKind.u64.wrap ((x : Int) * 6364136223846793005)) + 1442695040888963407)
    have ha : bits .and .u64 ((X : Int) / 1099511627776) 255 = ((X / 1099511627776 % 256 : Nat) : Int) := by
      have := and_u64_255 (X / 1099511627776) (by omega)
      rw [← this]; rfl
    have hr : X / 1099511627776 % 256 < 256 := Nat.mod_lt _ (by decide)
    generalize X / 1099511627776 % 256 = r at *
    go_enter Try.func48, Try.ntmps48
    go_wp2
    go_quiet (fail)
    go_wp2
    go_quiet (fail)
    go_wp2
    go_ret
    exact ⟨r, ⟨rfl, hr⟩, Sp.fin' H.out hX _ _⟩
/-- what a pick below N leaves -/
def PickP (N : Nat) (a : Option Addr) (n c p k : Nat) (w : World) (e : Ending) (w' : World) : Prop := ∃ r : Nat, (e = .returned (.int .i64 (r : Int)) ∧ r < N) ∧ Sp a n c p (k + 1) w' ∧ w.grownBy w' (some p)
set_option maxHeartbeats 4000000 in
theorem pk3 (a : Option Addr) (n c p k : Nat) (hn : n ≤ 9223372036854775807) (hk : k ≤ 1000000) (w : World) (h : Sp a n c p k w) :
    Calls Try.prog 29 #[.pointer (some ⟨p, 0, none⟩), .int .i64 3] w (PickP 3 a n c p k w) := by
  have HN := Lib.hid (nextOk a n c p k hn hk w h)
  clear h hn hk
  go_enter Try.func29, Try.ntmps29
  go_wp2_with fail
  refine HN.out.mono ?_
  rintro _ w1 ⟨r, ⟨rfl, hr⟩, hs, hb⟩
  have H := Lib.hid (And.intro hs hb)
  have hr0 : (0 : Int) ≤ (r : Int) := by omega
  have hr1 : (r : Int) < 256 := by omega
  clear hs hb HN
  go_wp2
  go_ret
  exact ⟨r % 3, ⟨by first | rfl | (rw [Int.natCast_emod]; rfl), Nat.mod_lt _ (by omega)⟩, H.out.1, H.out.2⟩
set_option maxHeartbeats 4000000 in
theorem pk5 (a : Option Addr) (n c p k : Nat) (hn : n ≤ 9223372036854775807) (hk : k ≤ 1000000) (w : World) (h : Sp a n c p k w) :
    Calls Try.prog 29 #[.pointer (some ⟨p, 0, none⟩), .int .i64 5] w (PickP 5 a n c p k w) := by
  have HN := Lib.hid (nextOk a n c p k hn hk w h)
  clear h hn hk
  go_enter Try.func29, Try.ntmps29
  go_wp2_with fail
  refine HN.out.mono ?_
  rintro _ w1 ⟨r, ⟨rfl, hr⟩, hs, hb⟩
  have H := Lib.hid (And.intro hs hb)
  have hr0 : (0 : Int) ≤ (r : Int) := by omega
  have hr1 : (r : Int) < 256 := by omega
  clear hs hb HN
  go_wp2
  go_ret
  exact ⟨r % 5, ⟨by first | rfl | (rw [Int.natCast_emod]; rfl), Nat.mod_lt _ (by omega)⟩, H.out.1, H.out.2⟩
set_option maxHeartbeats 4000000 in
theorem pk6 (a : Option Addr) (n c p k : Nat) (hn : n ≤ 9223372036854775807) (hk : k ≤ 1000000) (w : World) (h : Sp a n c p k w) :
    Calls Try.prog 29 #[.pointer (some ⟨p, 0, none⟩), .int .i64 6] w (PickP 6 a n c p k w) := by
  have HN := Lib.hid (nextOk a n c p k hn hk w h)
  clear h hn hk
  go_enter Try.func29, Try.ntmps29
  go_wp2_with fail
  refine HN.out.mono ?_
  rintro _ w1 ⟨r, ⟨rfl, hr⟩, hs, hb⟩
  have H := Lib.hid (And.intro hs hb)
  have hr0 : (0 : Int) ≤ (r : Int) := by omega
  have hr1 : (r : Int) < 256 := by omega
  clear hs hb HN
  go_wp2
  go_ret
  exact ⟨r % 6, ⟨by first | rfl | (rw [Int.natCast_emod]; rfl), Nat.mod_lt _ (by omega)⟩, H.out.1, H.out.2⟩
set_option maxHeartbeats 4000000 in
theorem pk7 (a : Option Addr) (n c p k : Nat) (hn : n ≤ 9223372036854775807) (hk : k ≤ 1000000) (w : World) (h : Sp a n c p k w) :
    Calls Try.prog 29 #[.pointer (some ⟨p, 0, none⟩), .int .i64 7] w (PickP 7 a n c p k w) := by
  have HN := Lib.hid (nextOk a n c p k hn hk w h)
  clear h hn hk
  go_enter Try.func29, Try.ntmps29
  go_wp2_with fail
  refine HN.out.mono ?_
  rintro _ w1 ⟨r, ⟨rfl, hr⟩, hs, hb⟩
  have H := Lib.hid (And.intro hs hb)
  have hr0 : (0 : Int) ≤ (r : Int) := by omega
  have hr1 : (r : Int) < 256 := by omega
  clear hs hb HN
  go_wp2
  go_ret
  exact ⟨r % 7, ⟨by first | rfl | (rw [Int.natCast_emod]; rfl), Nat.mod_lt _ (by omega)⟩, H.out.1, H.out.2⟩
set_option maxHeartbeats 4000000 in
theorem pk8 (a : Option Addr) (n c p k : Nat) (hn : n ≤ 9223372036854775807) (hk : k ≤ 1000000) (w : World) (h : Sp a n c p k w) :
    Calls Try.prog 29 #[.pointer (some ⟨p, 0, none⟩), .int .i64 8] w (PickP 8 a n c p k w) := by
  have HN := Lib.hid (nextOk a n c p k hn hk w h)
  clear h hn hk
  go_enter Try.func29, Try.ntmps29
  go_wp2_with fail
  refine HN.out.mono ?_
  rintro _ w1 ⟨r, ⟨rfl, hr⟩, hs, hb⟩
  have H := Lib.hid (And.intro hs hb)
  have hr0 : (0 : Int) ≤ (r : Int) := by omega
  have hr1 : (r : Int) < 256 := by omega
  clear hs hb HN
  go_wp2
  go_ret
  exact ⟨r % 8, ⟨by first | rfl | (rw [Int.natCast_emod]; rfl), Nat.mod_lt _ (by omega)⟩, H.out.1, H.out.2⟩
set_option maxHeartbeats 4000000 in
theorem pk9 (a : Option Addr) (n c p k : Nat) (hn : n ≤ 9223372036854775807) (hk : k ≤ 1000000) (w : World) (h : Sp a n c p k w) :
    Calls Try.prog 29 #[.pointer (some ⟨p, 0, none⟩), .int .i64 9] w (PickP 9 a n c p k w) := by
  have HN := Lib.hid (nextOk a n c p k hn hk w h)
  clear h hn hk
  go_enter Try.func29, Try.ntmps29
  go_wp2_with fail
  refine HN.out.mono ?_
  rintro _ w1 ⟨r, ⟨rfl, hr⟩, hs, hb⟩
  have H := Lib.hid (And.intro hs hb)
  have hr0 : (0 : Int) ≤ (r : Int) := by omega
  have hr1 : (r : Int) < 256 := by omega
  clear hs hb HN
  go_wp2
  go_ret
  exact ⟨r % 9, ⟨by first | rfl | (rw [Int.natCast_emod]; rfl), Nat.mod_lt _ (by omega)⟩, H.out.1, H.out.2⟩
set_option maxHeartbeats 4000000 in
theorem pk10 (a : Option Addr) (n c p k : Nat) (hn : n ≤ 9223372036854775807) (hk : k ≤ 1000000) (w : World) (h : Sp a n c p k w) :
    Calls Try.prog 29 #[.pointer (some ⟨p, 0, none⟩), .int .i64 10] w (PickP 10 a n c p k w) := by
  have HN := Lib.hid (nextOk a n c p k hn hk w h)
  clear h hn hk
  go_enter Try.func29, Try.ntmps29
  go_wp2_with fail
  refine HN.out.mono ?_
  rintro _ w1 ⟨r, ⟨rfl, hr⟩, hs, hb⟩
  have H := Lib.hid (And.intro hs hb)
  have hr0 : (0 : Int) ≤ (r : Int) := by omega
  have hr1 : (r : Int) < 256 := by omega
  clear hs hb HN
  go_wp2
  go_ret
  exact ⟨r % 10, ⟨by first | rfl | (rw [Int.natCast_emod]; rfl), Nat.mod_lt _ (by omega)⟩, H.out.1, H.out.2⟩
set_option maxHeartbeats 4000000 in
theorem pk129 (a : Option Addr) (n c p k : Nat) (hn : n ≤ 9223372036854775807) (hk : k ≤ 1000000) (w : World) (h : Sp a n c p k w) :
    Calls Try.prog 29 #[.pointer (some ⟨p, 0, none⟩), .int .i64 129] w (PickP 129 a n c p k w) := by
  have HN := Lib.hid (nextOk a n c p k hn hk w h)
  clear h hn hk
  go_enter Try.func29, Try.ntmps29
  go_wp2_with fail
  refine HN.out.mono ?_
  rintro _ w1 ⟨r, ⟨rfl, hr⟩, hs, hb⟩
  have H := Lib.hid (And.intro hs hb)
  have hr0 : (0 : Int) ≤ (r : Int) := by omega
  have hr1 : (r : Int) < 256 := by omega
  clear hs hb HN
  go_wp2
  go_ret
  exact ⟨r % 129, ⟨by first | rfl | (rw [Int.natCast_emod]; rfl), Nat.mod_lt _ (by omega)⟩, H.out.1, H.out.2⟩
set_option maxHeartbeats 4000000 in
theorem pk200 (a : Option Addr) (n c p k : Nat) (hn : n ≤ 9223372036854775807) (hk : k ≤ 1000000) (w : World) (h : Sp a n c p k w) :
    Calls Try.prog 29 #[.pointer (some ⟨p, 0, none⟩), .int .i64 200] w (PickP 200 a n c p k w) := by
  have HN := Lib.hid (nextOk a n c p k hn hk w h)
  clear h hn hk
  go_enter Try.func29, Try.ntmps29
  go_wp2_with fail
  refine HN.out.mono ?_
  rintro _ w1 ⟨r, ⟨rfl, hr⟩, hs, hb⟩
  have H := Lib.hid (And.intro hs hb)
  have hr0 : (0 : Int) ≤ (r : Int) := by omega
  have hr1 : (r : Int) < 256 := by omega
  clear hs hb HN
  go_wp2
  go_ret
  exact ⟨r % 200, ⟨by first | rfl | (rw [Int.natCast_emod]; rfl), Nat.mod_lt _ (by omega)⟩, H.out.1, H.out.2⟩
end Go.Proofs.Ytbceiphiopdegaa.Pt
