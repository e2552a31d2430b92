/-
  Walk for SortReals: the implementation.
-/
import Derived.Test.YtbceiphiopdegaaStab
import Derived.Deep.Onto
set_option linter.unusedSimpArgs false
set_option linter.unusedVariables false
namespace Go.Proofs.Ytbceiphiopdegaa
open Go.RowKit

/-- the place of each number is no less than that of the one before it -/
def Ordd (ys : List Nat) : Prop := Srt 0 ys.length ys
/-- a row that the call owns: the input's numbers in order -/
def Sorted (Z : Nat) (w0 : World) (xs : List Nat) (v : Value) (w' : World) : Prop := ∃ ys : List Nat, w'.ownsRow Z 34 1 v ys.length (ys.map (Value.float .f32)) ∧ ys.Perm xs ∧ Ordd ys ∧ Below w0.heap.size w0 w'
set_option maxHeartbeats 4000000 in
theorem sortStableOk (g N cap : Nat) (hN : N ≤ 1000) (w0 : World) (xs : List Nat) (w : World) (R : Row g N cap w0 xs w) :
    Calls Try.prog 42 #[.slice (some ⟨g, 0, none⟩) N cap, .func (.func 26) #[] #[]] w fun e w' => ∃ ys, (∃ v, e = .returned v) ∧ Row g N cap w0 ys w' ∧ SwR 0 N xs ys ∧ Srt 0 N ys := by
  have HS := Lib.hid (stabOk g N cap hN w0 xs w R)
  have hN0 : (N : Int) ≤ 1000 := by omega
  clear R
  go_enter Try.func42, Try.ntmps42
  go_wp2_with fail
  refine HS.out.mono ?_
  rintro _ w1 ⟨ys, ⟨v, rfl⟩, h⟩
  have H := Lib.hid h
  clear h HS
  go_wp2
  all_goals first | (go_end0; exact ⟨ys, ⟨_, rfl⟩, H.out⟩) | exact ⟨ys, ⟨_, rfl⟩, H.out⟩ | exact ⟨⟨_, rfl⟩, _, H.out⟩
set_option maxHeartbeats 4000000 in
theorem sortStableNil (w : World) :
    Calls Try.prog 42 #[.slice none 0 0, .func (.func 26) #[] #[]] w fun e w' => (∃ v, e = .returned v) ∧ w' = w := by
  go_enter Try.func42, Try.ntmps42
  go_wp2_with fail
  refine (stabNil _).mono ?_
  rintro _ w1 ⟨⟨v, rfl⟩, rfl⟩
  go_wp2
  all_goals first | (go_end0; exact ⟨⟨_, rfl⟩, rfl⟩) | exact ⟨⟨_, rfl⟩, rfl⟩
set_option maxHeartbeats 4000000 in
theorem sortedStableOk (Bs : Nat) (sv : Value) (zs : List Nat) (hlen : zs.length ≤ 1000) (w : World) (hBs : Bs < w.heap.size) (hc : w.cell? ⟨Bs, 0, none⟩ = some sv) (hI : Ins32 w.heap.size w sv zs) (hlt : ∀ x ∈ zs, x < 4294967296) :
    Calls Try.prog 24 #[.func (.func 43) #[] #[.pointer (some ⟨Bs, 0, none⟩)], .func (.func 26) #[] #[]] w fun e w' => ∃ v, e = .returned v ∧ Sorted w.heap.size w zs v w' := by
  have HC := Lib.hid (collectOk Bs sv zs (by unfold maxLen; omega) (by omega) w hBs hc hI)
  have HL := Lib.hid (And.intro hlen hlt)
  clear hBs hc hI hlen hlt
  go_enter Try.func24, Try.ntmps24
  go_wp2_with fail
  refine HC.out.mono ?_
  rintro _ w1 ⟨v, rfl, h1, h2, h3⟩
  clear HC
  by_cases hz : zs = []
  · obtain rfl := h2.2 hz
    have H := Lib.hid (And.intro h1 h3)
    clear h1 h2 h3
    go_wp2_with fail
    refine (sortStableNil _).mono ?_
    rintro _ w2 ⟨⟨v, rfl⟩, rfl⟩
    go_wp2
    go_ret
    subst hz
    exact ⟨_, rfl, [], H.out.1, List.Perm.refl _, fun u v h1 h2 h3 => by simp at h3, H.out.2⟩
  · have hne : v ≠ .slice none 0 0 := fun e => hz (h2.1 e)
    clear h2
    obtain ⟨g, cap, cur, rfl, hZ, hg, hk⟩ : ∃ g cap cur, v = .slice (some ⟨g, 0, none⟩) zs.length cap ∧ w.heap.size ≤ g ∧ w1.heap[g]? = some (.cells cur 34 (0, 0)) ∧ zs.length ≤ cap ∧ cap ≤ maxLen ∧ cur.size = cap * 1 ∧ cur.toList.take (zs.length * 1) = zs.map (Value.float .f32) := by
      rcases h1.2 with h | h
      · exact absurd h.1 hne
      · exact h
    have R : Row g zs.length cap w1 zs w1 := ⟨rfl, HL.out.2, ⟨h1.1, .inr ⟨g, cap, cur, rfl, Nat.zero_le _, hg, hk⟩⟩, Below.refl _ _⟩
    have H := Lib.hid (And.intro R (And.intro h3 (And.intro hZ hz)))
    clear h1 h3 hZ hg hk R hne hz
    go_wp2_with fail
    refine (sortStableOk g zs.length cap HL.out.1 w1 zs _ H.out.1).mono ?_
    rintro _ w2 ⟨ys, ⟨v, rfl⟩, hr, hsw, hso⟩
    have hF : Sorted w.heap.size w zs (.slice (some ⟨g, 0, none⟩) zs.length cap) w2 := by
      refine ⟨ys, ?_, hsw.2.1, by unfold Ordd; rw [hr.1]; exact hso, H.out.2.1.trans (hr.2.2.2.mono H.out.2.2.1)⟩
      rw [hr.1]
      rcases hr.2.2.1.2 with h | ⟨g', cap', cur', h4, _, h5⟩
      · cases h.1
      · cases h4
        exact ⟨hr.2.2.1.1, .inr ⟨g, cap, cur', rfl, H.out.2.2.1, h5⟩⟩
    have F := Lib.hid hF
    clear hr hsw hso hF
    go_wp2
    go_ret
    exact ⟨_, rfl, F.out⟩
theorem block_lt {w : World} {a : Addr} {v : Value} (h : w.cell? a = some v) : a.block < w.heap.size := by
  apply Classical.byContradiction
  intro hb
  have : w.heap[a.block]? = none := Array.getElem?_eq_none (by omega)
  simp [World.cell?, this] at h
theorem Sorted.over {w0 w1 w2 : World} {zs : List Nat} {v : Value} (h : Sorted w1.heap.size w1 zs v w2) (hz : w0.heap.size ≤ w1.heap.size) (hb : Below w0.heap.size w0 w1) : Sorted w0.heap.size w0 zs v w2 := by
  obtain ⟨ys, h1, h2, h3, h4⟩ := h
  exact ⟨ys, World.ownsRow.mono h1 hz, h2, h3, hb.trans (h4.mono hz)⟩
theorem ins_of_src {w : World} {a : Option Addr} {n c : Nat} {zs : List Nat} (hs : Src w a n zs) : Ins32 w.heap.size w (.slice a n c) zs := by
  obtain ⟨h1, h2, h3⟩ := hs
  subst h1
  refine ⟨a, c, rfl, ?_⟩
  rcases h3 with h | ⟨g, o, e, h⟩
  · exact .inl (List.eq_nil_of_length_eq_zero h)
  · by_cases h0 : zs.length = 0
    · exact .inl (List.eq_nil_of_length_eq_zero h0)
    · refine .inr ⟨g, o, e, block_lt (h 0 (by omega)), fun j hj => ?_⟩
      rw [h j hj]; simp [List.getD_eq_getElem?_getD]
theorem cell_new (w : World) (v : Value) (t : TypeId) : (w.alloc (.cells #[v] t)).cell? ⟨w.heap.size, 0, none⟩ = some v := by
  exact World.cell?_alloc_at _ _ _ _ rfl
set_option maxHeartbeats 4000000 in
theorem implOk (a : Option Addr) (n c : Nat) (zs : List Nat) (w : World) (hs : Src w a n zs) (hn : n ≤ 256) :
    Calls Try.prog 7 #[.slice a n c] w fun e w' => ∃ v, e = .returned (.tuple #[v, .int .i64 0]) ∧ Sorted w.heap.size w zs v w' := by
  have HV := Lib.hid (valuesOk a n c w)
  have hn0 : decide ((256 : Int) < (n : Int)) = false := decide_eq_false (by omega)
  have HK : Hid (Calls Try.prog 24 #[.func (.func 43) #[] #[.pointer (some ⟨w.heap.size, 0, none⟩)], .func (.func 26) #[] #[]] (w.alloc (.cells #[.slice a n c] 22)) fun e w' => ∃ v, e = .returned v ∧ Sorted w.heap.size w zs v w') := by
    have hz : (w.alloc (.cells #[.slice a n c] 22)).heap.size = w.heap.size + 1 := Array.size_push _
    have hb : Below w.heap.size w (w.alloc (.cells #[.slice a n c] 22)) := (Below.refl _ w).alloc (Nat.le_refl _) _
    have hI := ins_of_src (c := c) hs
    have hI' : Ins32 (w.alloc (.cells #[.slice a n c] 22)).heap.size (w.alloc (.cells #[.slice a n c] 22)) (.slice a n c) zs := by
      obtain ⟨a', cap, e, h⟩ := hI.below hb
      refine ⟨a', cap, e, h.imp id fun ⟨b, off, e1, e2, e3⟩ => ⟨b, off, e1, by omega, e3⟩⟩
    refine Lib.hid ((sortedStableOk w.heap.size (.slice a n c) zs (by rw [hs.1]; omega) _ (by omega) (cell_new w _ _) hI' hs.2.1).mono ?_)
    rintro _ w' ⟨v, rfl, h⟩
    exact ⟨v, rfl, h.over (by omega) hb⟩
  clear hs
  go_enter Try.func7, Try.ntmps7
  go_wp2_with fail
  refine HV.out.mono ?_
  rintro _ w1 ⟨rfl, rfl⟩
  go_wp2_with fail
  refine HK.out.mono ?_
  rintro _ w2 ⟨v, rfl, h⟩
  have H := Lib.hid h
  clear h HK HV
  go_wp2
  go_ret2
  exact ⟨_, rfl, H.out⟩
set_option maxHeartbeats 4000000 in
theorem implBig (a : Option Addr) (n c : Nat) (w : World) (hn : 256 < n) (hn2 : n ≤ 9223372036854775807) :
    Calls Try.prog 7 #[.slice a n c] w fun e w' => e = .returned (.tuple #[.slice none 0 0, .int .i64 3]) ∧ w' = w := by
  have hn0 : (256 : Int) < (n : Int) := by omega
  go_enter Try.func7, Try.ntmps7
  go_wp2
  go_ret2
  exact ⟨rfl, rfl⟩
end Go.Proofs.Ytbceiphiopdegaa
