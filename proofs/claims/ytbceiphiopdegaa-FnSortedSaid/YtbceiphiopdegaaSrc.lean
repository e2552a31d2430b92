/-
  Walks for the laws that draw from bytes: the source of choices, and its picks.
-/
import Derived.Test.YtbceiphiopdegaaFrame
import Derived.Test.YtbceiphiopdegaaReal
import Derived.Deep.QuietTactic
import Derived.BigQuiet
import Derived.Lib.Hide
import Derived.Laws.Bits64b
set_option linter.unusedSimpArgs false
set_option linter.unusedVariables false
namespace Go.Proofs.Ytbceiphiopdegaa
open Go.RowKit

/-- the bytes that a source reads -/
def Code8 (a : Option Addr) (n p : Nat) (w : World) : Prop := n = 0 ∨ ∃ g o, a = some ⟨g, o, none⟩ ∧ g < p ∧ ∀ i, i < n → ∃ b : Nat, b < 256 ∧ w.cell? ⟨g, o + i, none⟩ = some (.int .u8 (b : Int))
/-- a source at block p, its place k -/
def Sp (a : Option Addr) (n c p k : Nat) (w : World) : Prop :=
  w.cell? ⟨p, 0, none⟩ = some (.slice a n c) ∧ w.cell? ⟨p, 1, none⟩ = some (.int .i64 (k : Int)) ∧ (∃ x : Nat, x < 18446744073709551616 ∧ w.cell? ⟨p, 2, none⟩ = some (.int .u64 (x : Int))) ∧ (∀ j, w.frozen? ⟨p, j, none⟩ = false) ∧ Code8 a n p w
theorem Code8.below {a : Option Addr} {n p : Nat} {w w' : World} (h : Code8 a n p w) (hb : Below p w w') : Code8 a n p w' := by
  rcases h with h | ⟨g, o, h1, h2, h3⟩
  · exact .inl h
  · refine .inr ⟨g, o, h1, h2, fun i hi => ?_⟩
    obtain ⟨b, b1, b2⟩ := h3 i hi
    exact ⟨b, b1, (Below.cell hb (p := ⟨g, o + i, none⟩) h2).trans b2⟩
theorem u64_nat (e : Int) : ∃ x : Nat, x < 18446744073709551616 ∧ IntKind.u64.wrap e = (x : Int) := by
  rw [IntKind.wrap_u64]
  exact ⟨(e % 18446744073709551616).toNat, by omega, by omega⟩
theorem and_u64_255 (v : Nat) (h : v < 18446744073709551616) : bits .and .u64 (v : Int) 255 = ((v % 256 : Nat) : Int) := by
  rw [show (255 : Int) = ((255 : Nat) : Int) from rfl, bits_and_u64_nat v 255 h (by decide), show (255 : Nat) = 2 ^ 8 - 1 from rfl, Nat.and_two_pow_sub_one_eq_mod]
theorem Sp.step {a : Option Addr} {n c p k x : Nat} {w w1 : World} (h : Sp a n c p k w) (hx : x < 18446744073709551616) (h1 : w1 = ((w.setCell ⟨p, 1, none⟩ (.int .i64 ((k : Int) + 1))).setCell ⟨p, 2, none⟩ (.int .u64 (x : Int)))) : Sp a n c p (k + 1) w1 ∧ Below p w w1 := by
  obtain ⟨c0, c1, ⟨y, -, c2⟩, f, g⟩ := h
  have hb : Below p w w1 := by rw [h1]; exact Below.setCell (p := ⟨p, 2, none⟩) (Below.setCell (p := ⟨p, 1, none⟩) (Below.refl p w) (Nat.le_refl _) _) (Nat.le_refl _) _
  refine ⟨⟨?_, ?_, ⟨x, hx, ?_⟩, fun j => ?_, g.below hb⟩, hb⟩
  · rw [h1, World.cell?_setCell_other _ _ _ _ (by simp), World.cell?_setCell_other _ _ _ _ (by simp)]; exact c0
  · rw [h1, World.cell?_setCell_other _ _ _ _ (by simp), World.cell?_setCell_same _ _ _ c1, Int.natCast_add]; rfl
  · rw [h1]
    exact World.cell?_setCell_same _ _ _ ((World.cell?_setCell_other _ _ _ _ (by simp)).trans c2)
  · rw [h1, World.frozen?_setCell, World.frozen?_setCell]; exact f j
theorem Sp.drewN {a : Option Addr} {n c p k : Nat} {w : World} (h : Sp a n c p k w) (m : Nat) : Sp a n c p k (w.drewN m) := h
theorem Below.drewN' {B : Nat} {w w' : World} (h : Below B w w') (m : Nat) : Below B w (w'.drewN m) := ⟨h.os, h.tape, h.output, h.size, h.block⟩
theorem Sp.fin {a : Option Addr} {n c p k x : Nat} {w : World} (h : Sp a n c p k w) (hx : x < 18446744073709551616) (m m' : Nat) :
    Sp a n c p (k + 1) ((((w.drewN m).setCell ⟨p, 1, none⟩ (.int .i64 ((k : Int) + 1))).setCell ⟨p, 2, none⟩ (.int .u64 (x : Int))).drewN m') ∧ Below p w ((((w.drewN m).setCell ⟨p, 1, none⟩ (.int .i64 ((k : Int) + 1))).setCell ⟨p, 2, none⟩ (.int .u64 (x : Int))).drewN m') := by
  have HS := Sp.step (h.drewN m) hx rfl
  exact ⟨HS.1.drewN _, Below.drewN' (Below.trans (Below.drewN' (Below.refl p w) m) HS.2) _⟩
set_option maxHeartbeats 4000000 in
theorem nextOk (a : Option Addr) (n c p k : Nat) (hn : n ≤ 9223372036854775807) (hk : k ≤ 1000000) (w : World) (h : Sp a n c p k w) :
    Calls Try.prog 48 #[.pointer (some ⟨p, 0, none⟩)] w fun e w' => ∃ r : Nat, (e = .returned (.int .i64 (r : Int)) ∧ r < 256) ∧ Sp a n c p (k + 1) w' ∧ Below p w w' := by
  have H := Lib.hid h
  obtain ⟨c0, c1, ⟨x, hx, c2⟩, hf, hg⟩ := h
  have f1 := hf 1
  have f2 := hf 2
  clear hf
  have hk0 : (0 : Int) ≤ (k : Int) := by omega
  have hk1 : (k : Int) ≤ 1000000 := by omega
  by_cases hlt : k < n
  · rcases hg with hg | ⟨g, o, rfl, hgp, hcell⟩
    · omega
    obtain ⟨b, hb, cb⟩ := hcell k hlt
    have hne : g ≠ p := by omega
    have hle : (k : Int) + 1 ≤ (n : Int) := by omega
    clear hcell
    obtain ⟨X, hX, eX⟩ := u64_nat (IntKind.u64.wrap (IntKind.u64.wrap ((x : Int) * 6364136223846793005) + (b : Int)) + 1442695040888963407)
    go_enter Try.func48, Try.ntmps48
    go_wp2
    go_quiet (fail)
    go_wp2
    go_quiet (fail)
    go_wp2
    go_quiet (fail)
    go_wp2
    go_ret
    exact ⟨b, ⟨rfl, hb⟩, Sp.fin H.out hX _ _⟩
  · have hle : (n : Int) < (k : Int) + 1 := by omega
    clear hg
    obtain ⟨X, hX, eX⟩ := u64_nat (IntKind.u64.wrap (IntKind.u64.wrap ((x : Int) * 6364136223846793005)) + 1442695040888963407)
    have ha : bits .and .u64 ((X : Int) / 1099511627776) 255 = ((X / 1099511627776 % 256 : Nat) : Int) := by
      have := and_u64_255 (X / 1099511627776) (by omega)
      rw [← this]; rfl
    have hr : X / 1099511627776 % 256 < 256 := Nat.mod_lt _ (by decide)
    generalize X / 1099511627776 % 256 = r at *
    go_enter Try.func48, Try.ntmps48
    go_wp2
    go_quiet (fail)
    go_wp2
    go_quiet (fail)
    go_wp2
    go_ret
    exact ⟨r, ⟨rfl, hr⟩, Sp.fin H.out hX _ _⟩
set_option maxHeartbeats 4000000 in
theorem pick129 (a : Option Addr) (n c p k : Nat) (hn : n ≤ 9223372036854775807) (hk : k ≤ 1000000) (w : World) (h : Sp a n c p k w) :
    Calls Try.prog 29 #[.pointer (some ⟨p, 0, none⟩), .int .i64 129] w fun e w' => ∃ r : Nat, (e = .returned (.int .i64 (r : Int)) ∧ r < 129) ∧ Sp a n c p (k + 1) w' ∧ Below p w w' := by
  have HN := Lib.hid (nextOk a n c p k hn hk w h)
  clear h hn hk
  go_enter Try.func29, Try.ntmps29
  go_wp2_with fail
  refine HN.out.mono ?_
  rintro _ w1 ⟨r, ⟨rfl, hr⟩, hs, hb⟩
  have H := Lib.hid (And.intro hs hb)
  have hr0 : (0 : Int) ≤ (r : Int) := by omega
  have hr1 : (r : Int) < 256 := by omega
  clear hs hb HN
  go_wp2
  go_ret
  exact ⟨r % 129, ⟨by first | rfl | (rw [Int.natCast_emod]; rfl), Nat.mod_lt _ (by omega)⟩, H.out.1, H.out.2⟩
set_option maxHeartbeats 4000000 in
theorem pick16 (a : Option Addr) (n c p k : Nat) (hn : n ≤ 9223372036854775807) (hk : k ≤ 1000000) (w : World) (h : Sp a n c p k w) :
    Calls Try.prog 29 #[.pointer (some ⟨p, 0, none⟩), .int .i64 16] w fun e w' => ∃ r : Nat, (e = .returned (.int .i64 (r : Int)) ∧ r < 16) ∧ Sp a n c p (k + 1) w' ∧ Below p w w' := by
  have HN := Lib.hid (nextOk a n c p k hn hk w h)
  clear h hn hk
  go_enter Try.func29, Try.ntmps29
  go_wp2_with fail
  refine HN.out.mono ?_
  rintro _ w1 ⟨r, ⟨rfl, hr⟩, hs, hb⟩
  have H := Lib.hid (And.intro hs hb)
  have hr0 : (0 : Int) ≤ (r : Int) := by omega
  have hr1 : (r : Int) < 256 := by omega
  clear hs hb HN
  go_wp2
  go_ret
  exact ⟨r % 16, ⟨by first | rfl | (rw [Int.natCast_emod]; rfl), Nat.mod_lt _ (by omega)⟩, H.out.1, H.out.2⟩
/-- the bytes that come in -/
def Bytes (a : Option Addr) (n : Nat) (w : World) : Prop := n = 0 ∨ ∃ g o, a = some ⟨g, o, none⟩ ∧ ∀ i, i < n → ∃ b : Nat, b < 256 ∧ w.cell? ⟨g, o + i, none⟩ = some (.int .u8 (b : Int))
theorem Bytes.kept {a : Option Addr} {n : Nat} {w w' : World} (h : Bytes a n w) (hk : Kept w w') : Bytes a n w' := by
  rcases h with h | ⟨g, o, h1, h2⟩
  · exact .inl h
  · refine .inr ⟨g, o, h1, fun i hi => ?_⟩
    obtain ⟨b, b1, b2⟩ := h2 i hi
    exact ⟨b, b1, hk.cell b2⟩
theorem Sp.new {a : Option Addr} {n c : Nat} {w : World} {t : TypeId} (h : Bytes a n w) : Sp a n c w.heap.size 0 (w.alloc (.cells #[.slice a n c, .int .i64 0, .int .u64 0] t)) := by
  refine ⟨World.cell?_alloc_at _ _ _ _ rfl, World.cell?_alloc_at _ _ _ _ rfl, ⟨0, by decide, World.cell?_alloc_at _ _ _ _ rfl⟩, fun j => World.frozen?_alloc_new _ _ _ _, ?_⟩
  rcases h with h | ⟨g, o, h1, h2⟩
  · exact .inl h
  · by_cases hn : n = 0
    · exact .inl hn
    · refine .inr ⟨g, o, h1, ?_, fun i hi => ?_⟩
      · obtain ⟨b, -, b2⟩ := h2 0 (by omega)
        exact lt_of_cell b2
      · obtain ⟨b, b1, b2⟩ := h2 i hi
        exact ⟨b, b1, ((Kept.refl w).alloc _).cell b2⟩
set_option maxHeartbeats 4000000 in
theorem fromOk (a : Option Addr) (n c : Nat) (w : World) (h : Bytes a n w) :
    Calls Try.prog 28 #[.slice a n c] w fun e w' => (e = .returned (.pointer (some ⟨w.heap.size, 0, none⟩)) ∧ Sp a n c w.heap.size 0 w') ∧ Kept w w' := by
  have H := Lib.hid (fun t => Sp.new (c := c) (t := t) h)
  clear h
  go_enter Try.func28, Try.ntmps28
  go_wp2
  go_ret
  exact ⟨⟨rfl, H.out _⟩, (Kept.refl w).alloc _⟩
end Go.Proofs.Ytbceiphiopdegaa
