/-
  Walks for SortPoints: the order of numbers, both sides; slices.Collect.
-/
import Derived.Test.YtbceiphiopdegaaPIter
import Derived.Test.YtbceiphiopdegaaSort
set_option linter.unusedSimpArgs false
set_option linter.unusedVariables false
namespace Go.Proofs.Ytbceiphiopdegaa.Pt
open Go.RowKit Go.Shelf

set_option maxHeartbeats 4000000 in
theorem valuesOk (a : Option Addr) (n c : Nat) (w : World) :
    Calls Try.prog 57 #[.slice a n c] w fun e w' => e = .returned (.func (.func 70) #[] #[.pointer (some ⟨w.heap.size, 0, none⟩)]) ∧ w' = w.alloc (.cells #[.slice a n c] 35) := by
  go_enter Try.func57, Try.ntmps57
  go_wp2
  go_ret
  exact ⟨rfl, rfl⟩
theorem appendSeqOk (Bs : Nat) (sv : Value) (zs : List Nat) (hlen : zs.length ≤ maxLen) (hbytes : zs.length * 8 ≤ 140737488351232) (w : World) (hBs : Bs < w.heap.size) (hc : w.cell? ⟨Bs, 0, none⟩ = some sv) (hI : Ins32 w.heap.size w sv zs) :
    Calls Try.prog 74 #[.slice none 0 0, .func (.func 70) #[] #[.pointer (some ⟨Bs, 0, none⟩)]] w fun e W' => ∃ v, e = .returned v ∧ W'.ownsRow w.heap.size 37 1 v zs.length (zs.map cxv) ∧ (v = .slice none 0 0 ↔ zs = []) ∧ Below w.heap.size w W' :=
  callsIn_wide.1 (appendSeq_in Fence.wide 3 trivial trivial rfl (Nat.le_refl _) Bs sv zs hlen hbytes w hBs hc hI)
set_option maxHeartbeats 4000000 in
theorem collectOk (Bs : Nat) (sv : Value) (zs : List Nat) (hlen : zs.length ≤ maxLen) (hbytes : zs.length * 8 ≤ 140737488351232) (w : World) (hBs : Bs < w.heap.size) (hc : w.cell? ⟨Bs, 0, none⟩ = some sv) (hI : Ins32 w.heap.size w sv zs) :
    Calls Try.prog 68 #[.func (.func 70) #[] #[.pointer (some ⟨Bs, 0, none⟩)]] w fun e W' => ∃ v, e = .returned v ∧ W'.ownsRow w.heap.size 37 1 v zs.length (zs.map cxv) ∧ (v = .slice none 0 0 ↔ zs = []) ∧ Below w.heap.size w W' := by
  have HA := Lib.hid (appendSeqOk Bs sv zs hlen hbytes w hBs hc hI)
  clear hlen hbytes hBs hc hI
  go_enter Try.func68, Try.ntmps68
  go_wp2_with fail
  refine HA.out.mono ?_
  rintro _ w1 ⟨v, rfl, h1, h2, h3⟩
  have H := Lib.hid (And.intro h1 (And.intro h2 h3))
  clear h1 h2 h3 HA
  go_wp2
  go_ret
  exact ⟨v, rfl, H.out⟩
end Go.Proofs.Ytbceiphiopdegaa.Pt
