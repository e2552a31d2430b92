/-
  The law SortReals.
-/
import Derived.Test.YtbceiphiopdegaaSortM
set_option linter.unusedSimpArgs false
set_option linter.unusedVariables false
namespace Go.Proofs.Ytbceiphiopdegaa
open Go.RowKit

/-- what both sides answer with -/
def Res (Z : Nat) (w0 : World) (xs : List Nat) (n : Nat) (v : Value) (code : Int) (w' : World) : Prop := ∃ ys : List Nat, w'.ownsRow Z 34 1 v ys.length (ys.map (Value.float .f32)) ∧ (n ≤ 256 ∧ ys.Perm xs ∧ Ordd ys ∧ code = 0 ∨ 256 < n ∧ ys = [] ∧ code = 3) ∧ Below w0.heap.size w0 w'
theorem implAny (a : Option Addr) (n c : Nat) (zs : List Nat) (w : World) (hs : Src w a n zs) (hn : n ≤ 1048576) :
    Calls Try.prog 7 #[.slice a n c] w fun e w' => ∃ v code, e = .returned (.tuple #[v, .int .i64 code]) ∧ Res w.heap.size w zs n v code w' := by
  by_cases h : n ≤ 256
  · refine (implOk a n c zs w hs h).mono ?_
    rintro _ w' ⟨v, rfl, ys, h1, h2, h3, h4⟩
    exact ⟨v, 0, rfl, ys, h1, .inl ⟨h, h2, h3, rfl⟩, h4⟩
  · refine (implBig a n c w (by omega) (by omega)).mono ?_
    rintro _ w' ⟨rfl, rfl⟩
    exact ⟨_, 3, rfl, [], World.ownsRow_nil _ _ _ _, .inr ⟨by omega, rfl, rfl⟩, Below.refl _ _⟩
theorem specAny (a : Option Addr) (n c : Nat) (zs : List Nat) (w : World) (hs : Src w a n zs) (hn : n ≤ 1048576) :
    Calls Try.prog 5 #[.slice a n c] w fun e w' => ∃ v code, e = .returned (.tuple #[v, .int .i64 code]) ∧ Res w.heap.size w zs n v code w' := by
  by_cases h : n ≤ 256
  · refine (specOk a n c zs w hs h).mono ?_
    rintro _ w' ⟨v, rfl, ys, h1, h2, h3, h4⟩
    exact ⟨v, 0, rfl, ys, h1, .inl ⟨h, h2, h3, rfl⟩, h4⟩
  · refine (specBig a n c w (by omega) (by omega)).mono ?_
    rintro _ w' ⟨rfl, rfl⟩
    exact ⟨_, 3, rfl, [], World.ownsRow_made w #[] 0 (Nat.le_refl _) (by decide) rfl, .inr ⟨by omega, rfl, rfl⟩, (Below.refl _ w).alloc (Nat.le_refl _) _⟩
/-- a value that holds a row: what is asked to compare it -/
def RowV (w : World) (v : Value) (ys : List Nat) : Prop := ∃ a c, v = .slice a ys.length c ∧ (ys = [] ∨ ∃ g, a = some ⟨g, 0, none⟩ ∧ Holds32 w g 0 ys.length ys)
theorem rowV_of {w : World} {Z : Nat} {v : Value} {ys : List Nat} (h : w.ownsRow Z 34 1 v ys.length (ys.map (Value.float .f32))) : RowV w v ys := by
  have h0 := h
  rcases h.2 with hh | ⟨g, cap, cur, rfl, _⟩
  · exact ⟨none, 0, by rw [hh.1, hh.2], .inl (List.eq_nil_of_length_eq_zero hh.2)⟩
  · refine ⟨_, _, rfl, .inr ⟨g, rfl, fun i hi => ?_⟩⟩
    rw [Nat.zero_add, World.ownsRow.cellAt h0 i (by omega), List.getElem?_map, va_get ys i hi]; rfl
set_option maxHeartbeats 1000000 in
theorem eqF0 (a a' : Option Addr) (c c' : Nat) (w : World) :
    Calls Try.prog 8 #[.slice a 0 c, .slice a' 0 c'] w fun e w' => e = .returned (.bool true) ∧ Drawn w w' := by
  go_enter Try.func8, Try.ntmps8
  go_wp2
  go_loopw [5] (fun i wr => i = .int .i64 0 ∧ wr = w) (fun _ _ => 0)
  case atStart => exact ⟨rfl, rfl⟩
  case round =>
    obtain ⟨rfl, rfl⟩ := hrel
    go_wp2
    go_ret
    exact ⟨rfl, Drawn.refl _⟩
theorem eqRow (v v' : Value) (ys zs : List Nat) (w : World) (hn : ys.length ≤ 1048576) (hl : zs.length = ys.length) (h1 : RowV w v ys) (h2 : RowV w v' zs) (hE : ∀ i, i < ys.length → eqn (ys.getD i 0) (zs.getD i 0)) :
    Calls Try.prog 8 #[v, v'] w fun e w' => e = .returned (.bool true) ∧ Drawn w w' := by
  obtain ⟨a, c, rfl, h1⟩ := h1
  obtain ⟨a', c', rfl, h2⟩ := h2
  by_cases e : ys.length = 0
  · rw [hl, e]; exact eqF0 a a' c c' w
  · rcases h1 with rfl | ⟨g, rfl, h1⟩
    · exact absurd rfl e
    · rcases h2 with rfl | ⟨g', rfl, h2⟩
      · exact absurd (by rw [← hl]; rfl) e
      · rw [hl]; rw [hl] at h2
        exact eqF ys zs g 0 g' 0 ys.length c c' w hn h1 h2 hE
theorem res_eq {Z Z' : Nat} {w0 w1 w2 w3 : World} {xs : List Nat} {n : Nat} {v v' : Value} {c c' : Int} (hx : xs.length = n) (hlt : ∀ z ∈ xs, z < 4294967296) {ys zs : List Nat}
    (h1 : n ≤ 256 ∧ ys.Perm xs ∧ Ordd ys ∧ c = 0 ∨ 256 < n ∧ ys = [] ∧ c = 3) (h2 : n ≤ 256 ∧ zs.Perm xs ∧ Ordd zs ∧ c' = 0 ∨ 256 < n ∧ zs = [] ∧ c' = 3) :
    c = c' ∧ zs.length = ys.length ∧ ys.length ≤ 256 ∧ ∀ i, i < ys.length → eqn (ys.getD i 0) (zs.getD i 0) := by
  rcases h1 with ⟨a1, a2, a3, rfl⟩ | ⟨a1, rfl, rfl⟩
  · rcases h2 with ⟨b1, b2, b3, rfl⟩ | ⟨b1, rfl, rfl⟩
    · exact ⟨rfl, by rw [a2.length_eq, b2.length_eq], by rw [a2.length_eq]; omega, fun i hi => ord_eqn a2 b2 a3 b3 hlt i hi⟩
    · omega
  · rcases h2 with ⟨b1, b2, b3, rfl⟩ | ⟨b1, rfl, rfl⟩
    · omega
    · exact ⟨rfl, rfl, by simp, fun i hi => by simp at hi⟩
end Go.Proofs.Ytbceiphiopdegaa
