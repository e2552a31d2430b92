/-
  Plain laws for sorting in place: what swaps within a range leave; a row of narrow numbers that the call owns.
-/
import Derived.Test.YtbceiphiopdegaaSort
import Derived.Laws.OwnMore
import Derived.Deep.AppendLies
set_option linter.unusedSimpArgs false
set_option linter.unusedVariables false
namespace Go.Proofs.Ytbceiphiopdegaa
open Go.RowKit

def va (xs : List Nat) (k : Nat) : Nat := xs.getD k 0
theorem va_set_same (xs : List Nat) (i x : Nat) (h : i < xs.length) : va (xs.set i x) i = x := by simp [va, List.getD, h]
theorem va_set_other (xs : List Nat) (i x k : Nat) (h : k ≠ i) : va (xs.set i x) k = va xs k := by
  simp only [va, List.getD_eq_getElem?_getD, List.getElem?_set]
  rw [if_neg (fun e => h e.symm)]
theorem va_get (xs : List Nat) (i : Nat) (h : i < xs.length) : xs[i]? = some (va xs i) := by simp [va, List.getD, h]
theorem ext_va {xs ys : List Nat} (hl : xs.length = ys.length) (h : ∀ k, k < xs.length → va xs k = va ys k) : xs = ys := by
  apply List.ext_getElem?
  intro k
  by_cases hk : k < xs.length
  · rw [va_get xs k hk, va_get ys k (by omega), h k hk]
  · rw [List.getElem?_eq_none (by omega), List.getElem?_eq_none (by omega)]
/-- two places exchanged -/
def swp (xs : List Nat) (i j : Nat) : List Nat := (xs.set i (va xs j)).set j (va xs i)
theorem swp_len (xs : List Nat) (i j : Nat) : (swp xs i j).length = xs.length := by simp [swp]
theorem swp_i (xs : List Nat) (i j : Nat) (hi : i < xs.length) (hj : j < xs.length) : va (swp xs i j) i = va xs j := by
  unfold swp
  by_cases h : i = j
  · subst h; rw [va_set_same _ _ _ (by simpa using hi)]
  · rw [va_set_other _ _ _ _ h, va_set_same _ _ _ hi]
theorem swp_j (xs : List Nat) (i j : Nat) (hj : j < xs.length) : va (swp xs i j) j = va xs i := by
  unfold swp
  rw [va_set_same _ _ _ (by simpa using hj)]
theorem swp_k (xs : List Nat) (i j k : Nat) (h1 : k ≠ i) (h2 : k ≠ j) : va (swp xs i j) k = va xs k := by
  unfold swp
  rw [va_set_other _ _ _ _ h2, va_set_other _ _ _ _ h1]
theorem set_perm : ∀ (xs : List Nat) (i x : Nat), i < xs.length → (va xs i :: xs.set i x).Perm (x :: xs)
  | [], i, x, h => by simp at h
  | y :: r, 0, x, _ => by simpa [va] using List.Perm.swap x y r
  | y :: r, i + 1, x, h => by
    have ih := set_perm r i x (by simpa using h)
    have e : va (y :: r) (i + 1) = va r i := by simp [va]
    rw [e, List.set_cons_succ]
    exact ((List.Perm.swap y (va r i) (r.set i x)).trans (List.Perm.cons y ih)).trans (List.Perm.swap x y r)
theorem swp_perm (xs : List Nat) (i j : Nat) (hi : i < xs.length) (hj : j < xs.length) : (swp xs i j).Perm xs := by
  by_cases h : i = j
  · subst h
    have : swp xs i i = xs := ext_va (swp_len _ _ _) (fun k hk => by
      by_cases e : k = i
      · subst e; exact swp_j xs k k (by rw [swp_len] at hk; exact hk)
      · exact swp_k xs i i k e e)
    rw [this]
  · have h1 := set_perm xs i (va xs j) hi
    have h2 := set_perm (xs.set i (va xs j)) j (va xs i) (by simpa using hj)
    rw [va_set_other _ _ _ _ (fun e => h e.symm)] at h2
    have h3 : (va xs j :: swp xs i j).Perm (va xs j :: xs) := by
      have h4 : (va xs j :: swp xs i j).Perm (va xs i :: xs.set i (va xs j)) := h2
      exact h4.trans h1
    exact (List.perm_cons _).1 h3
/-- what swaps within [a, b) leave -/
def SwR (a b : Nat) (xs ys : List Nat) : Prop := ys.length = xs.length ∧ ys.Perm xs ∧ (∀ k, ¬ (a ≤ k ∧ k < b) → va ys k = va xs k) ∧ (∀ P : Nat → Prop, (∀ k, a ≤ k → k < b → P (va xs k)) → ∀ k, a ≤ k → k < b → P (va ys k))
theorem SwR.refl (a b : Nat) (xs : List Nat) : SwR a b xs xs := ⟨rfl, List.Perm.refl _, fun _ _ => rfl, fun _ h => h⟩
theorem SwR.trans {a b : Nat} {xs ys zs : List Nat} (h : SwR a b xs ys) (h' : SwR a b ys zs) : SwR a b xs zs :=
  ⟨h'.1.trans h.1, h'.2.1.trans h.2.1, fun k hk => (h'.2.2.1 k hk).trans (h.2.2.1 k hk), fun P hP => h'.2.2.2 P (h.2.2.2 P hP)⟩
theorem SwR.mono {a b a' b' : Nat} {xs ys : List Nat} (h : SwR a b xs ys) (ha : a' ≤ a) (hb : b ≤ b') : SwR a' b' xs ys := by
  refine ⟨h.1, h.2.1, fun k hk => h.2.2.1 k (fun e => hk ⟨by omega, by omega⟩), fun P hP k h1 h2 => ?_⟩
  by_cases hk : a ≤ k ∧ k < b
  · exact h.2.2.2 P (fun k h1 h2 => hP k (by omega) (by omega)) k hk.1 hk.2
  · rw [h.2.2.1 k hk]; exact hP k h1 h2
theorem SwR.swap {a b i j : Nat} {xs : List Nat} (hi : a ≤ i ∧ i < b) (hj : a ≤ j ∧ j < b) (hb : b ≤ xs.length) : SwR a b xs (swp xs i j) := by
  refine ⟨swp_len _ _ _, swp_perm _ _ _ (by omega) (by omega), fun k hk => swp_k _ _ _ _ (fun e => hk (by omega)) (fun e => hk (by omega)), fun P hP k h1 h2 => ?_⟩
  by_cases e1 : k = i
  · subst e1; rw [swp_i _ _ _ (by omega) (by omega)]; exact hP j hj.1 hj.2
  · by_cases e2 : k = j
    · subst e2; rw [swp_j _ _ _ (by omega)]; exact hP i hi.1 hi.2
    · rw [swp_k _ _ _ _ e1 e2]; exact hP k h1 h2
/-- in order within [a, b) -/
def Srt (a b : Nat) (xs : List Nat) : Prop := ∀ u v, a ≤ u → u < v → v < b → keyR (va xs u) ≤ keyR (va xs v)
theorem Srt.mono {a b a' b' : Nat} {xs : List Nat} (h : Srt a b xs) (ha : a ≤ a') (hb : b' ≤ b) : Srt a' b' xs := fun u v h1 h2 h3 => h u v (by omega) h2 (by omega)
theorem Srt.congr {a b : Nat} {xs ys : List Nat} (h : Srt a b xs) (he : ∀ k, a ≤ k → k < b → va ys k = va xs k) : Srt a b ys := fun u v h1 h2 h3 => by
  rw [he u h1 (by omega), he v (by omega) h3]; exact h u v h1 h2 h3

/-- a row of N numbers that the call owns, in block g -/
def Row (g N cap : Nat) (w0 : World) (xs : List Nat) (w : World) : Prop :=
  xs.length = N ∧ (∀ x ∈ xs, x < 4294967296) ∧ w.ownsRow 0 34 1 (.slice (some ⟨g, 0, none⟩) N cap) N (xs.map (Value.float .f32)) ∧ Below g w0 w
theorem Row.cell {g N cap : Nat} {w0 w : World} {xs : List Nat} (h : Row g N cap w0 xs w) (i : Nat) (hi : i < N) : w.cell? ⟨g, i, none⟩ = some (.float .f32 (va xs i)) := by
  rw [World.ownsRow.cellAt h.2.2.1 i (by omega), List.getElem?_map, va_get xs i (by rw [h.1]; exact hi)]; rfl
theorem Row.frozen {g N cap : Nat} {w0 w : World} {xs : List Nat} (h : Row g N cap w0 xs w) (i : Nat) : w.frozen? ⟨g, i, none⟩ = false := World.ownsRow.frozenAt h.2.2.1 i
theorem Row.lt {g N cap : Nat} {w0 w : World} {xs : List Nat} (h : Row g N cap w0 xs w) (i : Nat) (hi : i < N) : va xs i < 4294967296 := by
  have hl : i < xs.length := by rw [h.1]; exact hi
  have e : va xs i = xs[i] := by simp [va, List.getD, hl]
  rw [e]; exact h.2.1 _ (List.getElem_mem _)
theorem mem_set {xs : List Nat} {i x y : Nat} (h : y ∈ xs.set i x) : y = x ∨ y ∈ xs := by
  rcases List.mem_or_eq_of_mem_set h with h | h
  · exact .inr h
  · exact .inl h
theorem Row.set {g N cap : Nat} {w0 w : World} {xs : List Nat} (h : Row g N cap w0 xs w) (i x : Nat) (hx : x < 4294967296) : Row g N cap w0 (xs.set i x) (w.setCell ⟨g, i, none⟩ (.float .f32 x)) := by
  refine ⟨by rw [List.length_set]; exact h.1, fun y hy => ?_, ?_, Below.setCell (p := ⟨g, i, none⟩) h.2.2.2 (Nat.le_refl _) _⟩
  · rcases mem_set hy with rfl | hy
    · exact hx
    · exact h.2.1 _ hy
  · rw [List.map_set]
    exact (World.ownsRow.stored h.2.2.1 i _).1
theorem Row.drewN {g N cap : Nat} {w0 w : World} {xs : List Nat} (h : Row g N cap w0 xs w) (m : Nat) : Row g N cap w0 xs (w.drewN m) := ⟨h.1, h.2.1, h.2.2.1, ⟨h.2.2.2.os, h.2.2.2.tape, h.2.2.2.output, h.2.2.2.size, h.2.2.2.block⟩⟩
theorem Row.swap {g N cap : Nat} {w0 w : World} {xs : List Nat} (h : Row g N cap w0 xs w) (i j : Nat) (hi : i < N) (hj : j < N) :
    Row g N cap w0 (swp xs i j) ((w.setCell ⟨g, i, none⟩ (.float .f32 (va xs j))).setCell ⟨g, j, none⟩ (.float .f32 (va xs i))) := (h.set i _ (h.lt j hj)).set j _ (h.lt i hi)
end Go.Proofs.Ytbceiphiopdegaa
