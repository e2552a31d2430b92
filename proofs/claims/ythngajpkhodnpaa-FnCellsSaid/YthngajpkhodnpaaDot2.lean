/-
  The walk of the program's DotOf, which collects the products in a list of its own, and the law DotOf; no condition beside the lengths.
-/
import Derived.Test.YthngajpkhodnpaaDot
set_option linter.unusedSimpArgs false
set_option linter.unusedVariables false
namespace Go.Proofs.Ythngajpkhodnpaa
open Go.RowKit

def vals (zs : List Nat) : List Value := zs.map (Value.float .f32)
theorem vals_snoc (zs : List Nat) (x : Nat) : vals zs ++ [.float .f32 x] = vals (zs ++ [x]) := by simp [vals]
/-- what has been collected -/
def Coll (xs ys zs : List Nat) (k : Nat) : Prop := zs.length = k ∧ ∀ i, i < k → DotT xs ys i (zs.getD i 0)
theorem coll_next (xs ys zs : List Nat) (k x : Nat) (h : Coll xs ys zs k) (hx : DotT xs ys k x) : Coll xs ys (zs ++ [x]) (k + 1) := by
  refine ⟨by simp [h.1], fun i hi => ?_⟩
  by_cases h1 : i < k
  · have : (zs ++ [x]).getD i 0 = zs.getD i 0 := by
      simp only [List.getD]; rw [List.getElem?_append_left (by rw [h.1]; exact h1)]
    rw [this]; exact h.2 i h1
  · have e : i = k := by omega
    subst e
    have : (zs ++ [x]).getD i 0 = x := by
      simp only [List.getD]; rw [List.getElem?_append_right (by rw [h.1]; exact Nat.le_refl _), h.1, Nat.sub_self]; rfl
    rw [this]; exact hx
theorem holds_own (w : World) (B : Nat) (t : TypeId) (v : Value) (zs : List Nat) (n : Nat) (hl : zs.length = n) (h : w.ownsRow B t 1 v n (vals zs)) :
    n = 0 ∨ ∃ g c, v = .slice (some ⟨g, 0, none⟩) n c ∧ Holds32 w g 0 n zs := by
  by_cases h0 : n = 0
  · exact .inl h0
  · right
    obtain ⟨_, ⟨_, hz⟩ | ⟨g, cap, cur, hv, _⟩⟩ := id h
    · exact absurd hz h0
    subst hv
    refine ⟨g, cap, rfl, fun i hi => ?_⟩
    rw [Nat.zero_add, h.cellAt i (by omega)]
    simp [vals, List.getD, List.getElem?_eq_getElem (show i < zs.length by omega)]

theorem own_arW {w : World} {B : Nat} {e : TypeId} {size : Nat} {v : Value} {n : Nat} {xs : List Value} (h : w.ownsRow B e size v n xs) (op : BinOp) (k : FloatKind) (x y : Nat) : (arW op k x y w).ownsRow B e size v n xs := by
  unfold arW; split <;> exact h
theorem cell_one (W : World) (n : Nat) (hn : n = W.heap.size) (v : Value) (t : TypeId) : ∀ (j : Nat) (u : Value), [v][j]? = some u → (W.alloc (.cells #[v] t)).cell? ((⟨n, 0, none⟩ : Addr).add j) = some u := by
  intro j u hj
  cases j with
  | zero => 
    simp at hj; subst hj
    show (W.alloc (.cells #[v] t)).cell? ⟨n, 0, none⟩ = _
    rw [World.cell?_alloc_at _ _ _ _ hn]; rfl
  | succ j => simp at hj
theorem own_start (w : World) (t : TypeId) : (w.alloc (.cells #[] t)).ownsRow w.heap.size t 1 (.slice (some ⟨w.heap.size, 0, none⟩) 0 0) 0 [] :=
  World.ownsRow_made w #[] 0 (Nat.le_refl _) (by decide) rfl
theorem kept_grown {w wr w1 : World} {v : Value} {t : TypeId} {size n : Nat} {xs : List Value} {row : Option Nat} (h : Kept w wr) (hg : wr.grownBy w1 row) (hr : row = v.ownBlock) (hown : wr.ownsRow w.heap.size t size v n xs) : Kept w w1 :=
  Below.grown h hg h.size (fun k hk => (hown.lt k (by rw [← hr]; exact hk)).1)

theorem own_form (w : World) (B : Nat) (t : TypeId) (v : Value) (zs : List Nat) (n : Nat) (hl : zs.length = n) (h : w.ownsRow B t 1 v n (vals zs)) :
    v = .slice none 0 0 ∧ n = 0 ∨ ∃ g c, v = .slice (some ⟨g, 0, none⟩) n c ∧ Holds32 w g 0 n zs := by
  obtain ⟨_, hz | ⟨g, cap, cur, hv, _⟩⟩ := id h
  · exact .inl hz
  · subst hv
    refine .inr ⟨g, cap, rfl, fun i hi => ?_⟩
    rw [Nat.zero_add, h.cellAt i (by omega)]
    simp [vals, List.getD, List.getElem?_eq_getElem (show i < zs.length by omega)]

theorem dot_big (n m : Nat) (h : ¬ twoB n m = 0) : 256 < n ∨ 256 < m ∨ ¬ n = m := by
  unfold twoB at h
  by_cases h1 : 256 < n ∨ 256 < m
  · omega
  · rw [if_neg h1] at h
    by_cases h2 : n = m
    · rw [if_pos h2] at h; exact absurd rfl h
    · omega
/-- one statement for both sides -/
def DotR (xs ys : List Nat) (n m s : Nat) (code : Int) : Prop := code = twoB n m ∧ (twoB n m = 0 → SumP (DotT xs ys) n s) ∧ (¬ twoB n m = 0 → s = 0)
theorem dotR_eqn (xs ys : List Nat) (n m s t : Nat) (c d : Int) (h : DotR xs ys n m s c) (h' : DotR xs ys n m t d) : eqn s t ∧ c = d := by
  refine ⟨?_, by rw [h.1, h'.1]⟩
  by_cases h0 : twoB n m = 0
  · exact sumP_eqn _ (dotT_eqn xs ys) n s t (h.2.1 h0) (h'.2.1 h0)
  · rw [h.2.2 h0, h'.2.2 h0]; exact eqn_refl _
theorem two_zero (n m : Nat) (h : twoB n m = 0) : n ≤ 256 ∧ n = m := by
  unfold twoB at h
  by_cases h1 : 256 < n ∨ 256 < m
  · rw [if_pos h1] at h; omega
  · rw [if_neg h1] at h
    by_cases h2 : n = m
    · omega
    · rw [if_neg h2] at h; omega

end Go.Proofs.Ythngajpkhodnpaa
