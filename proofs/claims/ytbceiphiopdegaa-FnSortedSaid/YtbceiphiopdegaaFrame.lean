/-
  The frame of a law whose call leaves old memory alone: how a slice of narrow numbers that comes in is opened, and the row's last step; no condition.
-/
import Derived.Test.YtbceiphiopdegaaFloat
import Derived.ProofKit
import Derived.OpenShut
import Derived.Deep.Slices
import Derived.Below
import Derived.Carry
set_option linter.unusedSimpArgs false
set_option linter.unusedVariables false
namespace Go.Proofs.Ytbceiphiopdegaa
open Go.ChangeShapes Go.WideShapes Go.ChangeAt Go.RowKit

/-- nothing that was there has turned -/
def Kept (w w' : World) : Prop := Below w.heap.size w w'
theorem Kept.refl (w : World) : Kept w w := Below.refl _ _
theorem Kept.trans {w w1 w2 : World} (h : Kept w w1) (h' : Kept w1 w2) : Kept w w2 := Below.trans h (Below.mono h' h.size)
theorem Kept.drewN {w w1 : World} (h : Kept w w1) (n : Nat) : Kept w (w1.drewN n) := ⟨h.os, h.tape, h.output, h.size, h.block⟩
theorem Kept.cvW {w w1 : World} (h : Kept w w1) (a : Nat) : Kept w (cvW a w1) := by obtain ⟨n, hn⟩ := cvW_is a w1; rw [hn]; exact h.drewN n
theorem Kept.arW {w w1 : World} (h : Kept w w1) (op : BinOp) (k : FloatKind) (x y : Nat) : Kept w (arW op k x y w1) := by obtain ⟨n, hn⟩ := arW_is op k x y w1; rw [hn]; exact h.drewN n
theorem Kept.alloc {w w1 : World} (h : Kept w w1) (o : Obj) : Kept w (w1.alloc o) := Below.alloc h h.size o
theorem Kept.setCell {w w1 : World} (h : Kept w w1) {p : Addr} (hp : w.heap.size ≤ p.block) (u : Value) : Kept w (w1.setCell p u) := Below.setCell h hp u
theorem lt_of_cell {w : World} {a : Addr} {v : Value} (h : w.cell? a = some v) : a.block < w.heap.size := by
  unfold World.cell? at h
  split at h
  · rename_i heq
    exact (Array.getElem?_eq_some_iff.1 heq).1
  · cases h
theorem Kept.cell {w w' : World} (h : Kept w w') {a : Addr} {v : Value} (hv : w.cell? a = some v) : w'.cell? a = some v := by
  rw [Below.cell h (lt_of_cell hv)]; exact hv

/-- the cells of a slice's row in a world -/
def Holds32 (w : World) (g o n : Nat) (xs : List Nat) : Prop := ∀ i, i < n → w.cell? ⟨g, o + i, none⟩ = some (.float .f32 (xs.getD i 0))
theorem Holds32.kept {w w' : World} {g o n : Nat} {xs : List Nat} (h : Holds32 w g o n xs) (hk : Kept w w') : Holds32 w' g o n xs := fun i hi => hk.cell (h i hi)
/-- what a slice that comes in reads as -/
def Src (w : World) (a : Option Addr) (n : Nat) (xs : List Nat) : Prop :=
  xs.length = n ∧ (∀ x ∈ xs, x < 4294967296) ∧ (n = 0 ∨ ∃ g o, a = some ⟨g, o, none⟩ ∧ Holds32 w g o n xs)
theorem Src.kept {w w' : World} {a : Option Addr} {n : Nat} {xs : List Nat} (h : Src w a n xs) (hk : Kept w w') : Src w' a n xs := by
  obtain ⟨h1, h0, h2 | ⟨g, o, h3, h4⟩⟩ := h
  · exact ⟨h1, h0, .inl h2⟩
  · exact ⟨h1, h0, .inr ⟨g, o, h3, h4.kept hk⟩⟩

section
variable {H : Type} {enc : TypeId × Value → H} {P : Program}
theorem trod_float1 {w : World} {base : Nat} {sp : Nat → Bool} {held : Bool} {e : TypeId} {n : Nat} {v : Value} {x : DataW H × List MemPlace} {k : FloatKind} (he : P.underlying e = some (.float k)) (h : DataW.trod enc P w base sp held n e [v] = some x) :
    ∃ b, v = .float k b ∧ (Lit.float k b).wf = true := by
  cases n with
  | zero => simp [DataW.trod] at h
  | succ n =>
    simp only [DataW.trod, he] at h
    cases v <;> try (simp at h; done)
    rename_i k' b
    by_cases hk : k' = k
    · subst hk
      by_cases hw : (Lit.float k' b).wf = true
      · exact ⟨b, rfl, hw⟩
      · simp [hw] at h
    · simp [hk] at h
theorem open_f32s {w : World} {r : Go.Reach} {b0 : Nat} {t e : TypeId} {v : Value} {d : DataW H} {ps : List MemPlace} (ht : P.underlying t = some (.slice e)) (he : P.underlying e = some (.float .f32)) (hc : P.cellsOf e = 1)
    (hval : Value.okWide P w r b0 t v) (hd : DataW.Trod enc P w 0 (fun _ => true) true t v d ps) :
    ∃ a n c xs, v = .slice a n c ∧ n ≤ 9223372036854775807 ∧ Src w a n xs := by
  obtain ⟨a, len, cap, rfl⟩ := okWide_slice ht hval
  obtain ⟨fuel, hf⟩ := hd
  rcases Go.Deep.open_slice1 ht hc hf with ⟨hcs, _⟩ | ⟨a', len', cap', m, n, V, D, Pl, hcs, _, hl, hm, hmm, _, hx⟩
  · simp [Value.cells] at hcs
    obtain ⟨rfl, rfl, rfl⟩ := hcs
    exact ⟨none, 0, 0, [], rfl, by decide, rfl, by simp, .inl rfl⟩
  · simp [Value.cells] at hcs
    obtain ⟨rfl, rfl, rfl⟩ := hcs
    have hm' : m = cap := by rw [hmm]; simp
    subst hm'
    obtain ⟨f, hfb⟩ := Go.Deep.choose_lt (α := Nat) (p := fun i b => V i = .float .f32 b ∧ b < 4294967296) (fun i hi => by
      obtain ⟨b, h1, h2⟩ := trod_float1 he (hx i hi).2
      exact ⟨b, h1, by simpa [Lit.wf] using h2⟩)
    refine ⟨some a', len, m, (List.range len).map f, rfl, by unfold maxLen at hm; omega, by simp, ?_, ?_⟩
    · intro x hx'
      simp only [List.mem_map, List.mem_range] at hx'
      obtain ⟨i, hi, rfl⟩ := hx'
      exact (hfb i (by omega)).2
    · by_cases h0 : len = 0
      · exact .inl h0
      · right
        obtain ⟨b, off, spot⟩ := a'
        have hspot : spot = none := by simpa [Addr.add] using World.cell?_spot (hx 0 (by omega)).1
        subst hspot
        refine ⟨b, off, rfl, fun i hi => ?_⟩
        rw [← Go.WideShapes.add_plain, (hx i (by omega)).1, (hfb i (by omega)).1]
        simp [List.getD, hi]
end
section
variable {H : Type} {enc : TypeId × Value → H} {P : Program}
/-- the row's last step, where below the old heap's size nothing has turned -/
theorem post_of_below {f : Func} {s : ChangeSpec} {apart fresh handsOn again : Bool} {W W' : World} {args : Array Value} {v : Value} {ds gs : List (DataW H)} {before pa pv : List MemPlace}
    (hW : DataW.Whole enc P f.params.toList s.vars apart W args.toList ds gs before)
    (hres : ∀ (b : Nat) (sp : Nat → Bool) (hd : Bool), DataW.TrodAll enc P W' b sp hd f.resultTypes.toList (v.resultList f.resultTypes.size) (s.fn H (ds ++ gs)).results [])
    (hargs : ∀ sp : Nat → Bool, (∀ p ∈ before, sp p.block = true) → DataW.TrodAll enc P W' 0 sp true f.params.toList args.toList (s.fn H (ds ++ gs)).args pa)
    (hvars : ∀ sp : Nat → Bool, (∀ p ∈ before, sp p.block = true) → DataW.TrodVars enc P W' sp s.vars (s.fn H (ds ++ gs)).vars pv)
    (hps : before = pa ++ pv) (hb : Below W.heap.size W W')
    (hok : ∀ (j : Nat) (t : TypeId) (r : Value), f.resultTypes[j]? = some t → (v.resultList f.resultTypes.size)[j]? = some r → Value.okWide P W' .any 0 t r) :
    s.post enc P f apart fresh handsOn again W args v W' := by
  have hlt : ∀ p ∈ before, p.block < W.heap.size := fun p hp => hW.lt p hp
  have hold : ∀ p ∈ before, (fun b => decide (b < W.heap.size)) p.block = true := fun p hp => by simpa using hlt p hp
  refine ⟨ds, gs, before, [], pa, pv, hW, hres _ _ _, hargs _ hold, hvars _ hold, World.keptBut_mono (fun p hp => ⟨hp, ?_⟩) (hb.frame (· ∈ before)), fun _ => ?_⟩
  · rw [hps, List.mem_append] at hp
    exact Or.inr hp
  · obtain ⟨_, _, _, _, _, hz, hn⟩ := hW
    refine ⟨hok, _, _, ([] ++ pa) ++ pv, ⟨[] ++ pa, pv, trodAll_append (hargs _ (fun _ _ => rfl)) (hres _ _ _), hvars _ (fun _ _ => rfl), rfl, ?_, ?_⟩, ?_⟩
    · intro b off hp
      have hin : MemPlace.cell b off ∈ before := by rw [hps]; simpa using hp
      rw [hb.frozen (hlt _ hin)]
      exact hz b off hin
    · intro ha
      have := hn ha
      rw [hps] at this
      simpa using this
    · intro p hp _
      rw [hps]
      simpa using hp
/-- an argument reads behind the call as it did -/
theorem stays {t : TypeId} (hl : laidOutB P = true) (hr : P.readableRec t = true) (hrow : t < P.types.size) {W W' : World} {sp : Nat → Bool} {v : Value} {d : DataW H} {ps : List MemPlace}
    (h : DataW.Trod enc P W 0 (fun _ => true) true t v d ps) (hb : Below W.heap.size W W') (hlt : ∀ x ∈ ps, x.block < W.heap.size) (hsp : ∀ x ∈ ps, sp x.block = true) :
    DataW.Trod enc P W' 0 sp true t v d ps :=
  WideElems.Trod_stays hl hr hrow h (fun x hx => hb.same (hlt x hx)) hsp
end
end Go.Proofs.Ytbceiphiopdegaa
