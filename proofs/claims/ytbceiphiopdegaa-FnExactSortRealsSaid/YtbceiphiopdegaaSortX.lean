/-
  The law SortReals: the walk.
-/
import Derived.Test.YtbceiphiopdegaaSortW
set_option linter.unusedSimpArgs false
set_option linter.unusedVariables false
namespace Go.Proofs.Ytbceiphiopdegaa
open Go.RowKit

theorem row_below {w w' : World} {Z n : Nat} {v : Value} {e : TypeId} {xs : List Value} (h : w.ownsRow Z e 1 v n xs) (hb : Below w.heap.size w w') : w'.ownsRow Z e 1 v n xs := World.ownsRow.kept h (grown_of_below hb) (Classical.em _)
theorem Drawn.below {w w' : World} (h : Drawn w w') (B : Nat) : Below B w w' := by obtain ⟨m, rfl⟩ := h; exact ⟨rfl, rfl, rfl, Nat.le_refl _, fun _ _ => rfl⟩
theorem holds_row {w : World} {Z g n c : Nat} {xs : List Nat} (hl : xs.length = n) (h : w.ownsRow Z 34 1 (.slice (some ⟨g, 0, none⟩) n c) n (xs.map (Value.float .f32))) : Holds32 w g 0 n xs := fun i hi => by
  rw [Nat.zero_add, World.ownsRow.cellAt h i (by omega), List.getElem?_map, va_get xs i (by omega)]; rfl
set_option maxRecDepth 100000 in
set_option maxHeartbeats 8000000 in
theorem law_FnExactSortReals (a : Option Addr) (n c : Nat) (xs : List Nat) (hm : n ≤ 9223372036854775807) (w : World) (h : Src w a n xs) :
    Calls Try.prog 3 #[.slice a n c] w fun e w' => e = .returned (.bool true) ∧ Below w.heap.size w w' := by
  have HH := Lib.hid h
  clear h
  by_cases hn : n ≤ 1048576
  · have q0 : decide ((1048576 : Int) < (n : Int)) = false := decide_eq_false (by omega)
    have HN := Lib.hid hn
    go_enter Try.func3, Try.ntmps3
    go_wp2_with fail
    refine (toF_row a n c xs _ hn HH.out).mono ?_
    rintro e w1 ⟨rfl, e1⟩
    have S1 : Hid (Src w1 (some ⟨w.heap.size, 0, none⟩) n xs) := Lib.hid (by rw [e1]; exact src_new HH.out)
    have K1 : Hid (Kept w w1) := Lib.hid (by rw [e1]; exact (Kept.refl w).alloc _)
    clear e1
    go_wp2_with fail
    refine (specAny _ n n xs _ S1.out hn).mono ?_
    rintro e w2 ⟨vs, cs, rfl, ys, hr, hy, hb⟩
    have K2 : Hid (Kept w w2) := Lib.hid (Below.trans K1.out (hb.mono K1.out.size))
    have RS := Lib.hid hr
    have HY := Lib.hid hy
    clear hr hy hb S1 K1
    go_wp2_with fail
    refine (toF_row a n c xs _ hn (HH.out.kept K2.out)).mono ?_
    rintro e w3 ⟨rfl, e3⟩
    have hz3 : w3.heap.size = w2.heap.size + 1 := by rw [e3]; exact Array.size_push _
    have B3 : Below w2.heap.size w2 w3 := by rw [e3]; exact (Below.refl _ w2).alloc (Nat.le_refl _) _
    have S3 : Hid (Src w3 (some ⟨w2.heap.size, 0, none⟩) n xs) := Lib.hid (by rw [e3]; exact src_new HH.out)
    have X3 : Hid (w3.ownsRow w2.heap.size 34 1 (.slice (some ⟨w2.heap.size, 0, none⟩) n n) n (xs.map (Value.float .f32))) := Lib.hid (by rw [e3]; exact row_new HH.out.1 hn)
    have K3 : Hid (Kept w w3) := Lib.hid (Below.trans K2.out (B3.mono K2.out.size))
    have RS3 := Lib.hid (row_below RS.out B3)
    obtain ⟨g3, hg3⟩ : ∃ g3, g3 = w2.heap.size := ⟨_, rfl⟩
    have LS : Hid (∀ k, vs.ownBlock = some k → k < g3) := Lib.hid (fun k hk => by rw [hg3]; exact (RS.out.lt k hk).2)
    have G3 : Hid (w.heap.size ≤ g3) := Lib.hid (by rw [hg3]; exact K2.out.size)
    have Z3 : Hid (w3.heap.size = g3 + 1) := Lib.hid (by rw [hz3, hg3])
    rw [← hg3] at S3 X3 ⊢
    clear e3 hz3 B3 hg3 RS K2
    go_wp2_with fail
    refine (implAny _ n n xs _ S3.out hn).mono ?_
    rintro e w4 ⟨v0, c0, rfl, zs, hr, hy, hb⟩
    have RE := res_eq (Z := 0) (Z' := 0) (w0 := w) (w1 := w) (w2 := w) (w3 := w) (v := v0) (v' := vs) HH.out.1 HH.out.2.1 hy HY.out
    obtain ⟨hce, hlen, h256, heq⟩ := RE
    subst hce
    have K4 : Hid (Kept w w4) := Lib.hid (Below.trans K3.out (hb.mono K3.out.size))
    have R0 := Lib.hid hr
    have RS4 := Lib.hid (row_below RS3.out hb)
    have X4 := Lib.hid (row_below X3.out hb)
    have HY0 := Lib.hid hy
    have EQ := Lib.hid (And.intro hlen (And.intro h256 heq))
    have L0 : Hid (∀ k, v0.ownBlock = some k → g3 < k) := Lib.hid (fun k hk => by have := (hr.lt k hk).1; have := Z3.out; omega)
    clear hr hy hb hlen h256 heq S3 K3 RS3 X3 Z3
    go_wp2_with fail
    refine (eqRow v0 vs zs ys _ (by have := EQ.out.2.1; omega) EQ.out.1 (rowV_of R0.out) (rowV_of RS4.out) EQ.out.2.2).mono ?_
    rintro e w5 ⟨rfl, hd⟩
    have B5 := hd.below w4.heap.size
    have K5 : Hid (Kept w w5) := Lib.hid (Below.trans K4.out (hd.below _))
    have R5 := Lib.hid (row_below R0.out B5)
    have RS5 := Lib.hid (row_below RS4.out B5)
    have X5 := Lib.hid (row_below X4.out B5)
    clear hd B5 K4 R0 RS4 X4
    go_wp2_with fail
    refine (toF_row a n c xs _ hn (HH.out.kept K5.out)).mono ?_
    rintro e w6 ⟨rfl, e6⟩
    have B6 : Below w5.heap.size w5 w6 := by rw [e6]; exact (Below.refl _ w5).alloc (Nat.le_refl _) _
    have N6 : Hid (w6.ownsRow w5.heap.size 34 1 (.slice (some ⟨w5.heap.size, 0, none⟩) n n) n (xs.map (Value.float .f32))) := Lib.hid (by rw [e6]; exact row_new HH.out.1 hn)
    have K6 : Hid (Kept w w6) := Lib.hid (Below.trans K5.out (B6.mono K5.out.size))
    have R6 := Lib.hid (row_below R5.out B6)
    have RS6 := Lib.hid (row_below RS5.out B6)
    have X6 := Lib.hid (row_below X5.out B6)
    clear e6 B6 K5 R5 RS5 X5
    go_wp2_with fail
    refine (eqF_self xs g3 w5.heap.size n _ hn (holds_row HH.out.1 X6.out) (holds_row HH.out.1 N6.out)).mono ?_
    rintro e w7 ⟨rfl, hd⟩
    have B7 := hd.below w6.heap.size
    have K7 : Hid (Kept w w7) := Lib.hid (Below.trans K6.out (hd.below _))
    have R7 := Lib.hid (row_below R6.out B7)
    have RS7 := Lib.hid (row_below RS6.out B7)
    have X7 := Lib.hid (row_below X6.out B7)
    clear hd B7 K6 R6 RS6 X6 N6
    go_wp2_with fail
    refine (markRow _ _ xs n HH.out.1 hn _ X7.out).mono ?_
    rintro e w8 ⟨rfl, -, hg⟩
    have K8 : Hid (Kept w w8) := Lib.hid (Below.grown K7.out hg K7.out.size (fun k hk => by have := G3.out; simp [Value.ownBlock] at hk; omega))
    have R8 := Lib.hid (World.ownsRow.kept R7.out hg (.inr (fun e => by have := L0.out g3 e; omega)))
    have RS8 := Lib.hid (World.ownsRow.kept RS7.out hg (.inr (fun e => by have := LS.out g3 e; omega)))
    have qn : (0 : Int) ≤ (n : Int) := by omega
    clear hg K7 R7 RS7 X7
    go_wp2_with fail
    refine (eqRow v0 vs zs ys _ (by have := EQ.out.2.1; omega) EQ.out.1 (rowV_of R8.out) (rowV_of RS8.out) EQ.out.2.2).mono ?_
    rintro e w9 ⟨rfl, hd⟩
    have B9 := hd.below w8.heap.size
    have K9 : Hid (Kept w w9) := Lib.hid (Below.trans K8.out (hd.below _))
    have R9 := Lib.hid (row_below R8.out B9)
    have RS9 := Lib.hid (row_below RS8.out B9)
    clear hd B9 K8 R8 RS8
    go_wp2_with fail
    refine (markRow _ v0 zs zs.length rfl (by have := EQ.out.2.1; omega) _ R9.out).mono ?_
    rintro e w10 ⟨rfl, hH, hg⟩
    have K10 : Hid (Kept w w10) := Lib.hid (Below.grown K9.out hg K9.out.size (fun k hk => by have := G3.out; have := L0.out k hk; omega))
    have RS10 := Lib.hid (World.ownsRow.kept RS9.out hg (by
      cases hv : vs.ownBlock with
      | none => exact .inl rfl
      | some k => exact .inr (fun e => by have := LS.out k hv; have := L0.out k e.symm; omega)))
    have H10 := Lib.hid hH
    clear hH hg K9 R9 RS9
    go_wp2_with fail
    refine (heldRow v0 zs.length EQ.out.2.1 _ H10.out).mono ?_
    rintro e wq ⟨rfl, e10⟩
    have KQ : Hid (Kept w wq) := Lib.hid (by rw [e10]; exact K10.out)
    have RSQ : Hid (wq.ownsRow w1.heap.size 34 1 vs ys.length (ys.map (Value.float .f32))) := Lib.hid (by rw [e10]; exact RS10.out)
    have HQ : Hid (HeldR wq v0 zs.length) := Lib.hid (by rw [e10]; exact H10.out)
    clear e10 K10 RS10 H10
    go_wp2_with fail
    refine (toF_row a n c xs _ hn (HH.out.kept KQ.out)).mono ?_
    rintro e w11 ⟨rfl, e11⟩
    have B11 : Below wq.heap.size wq w11 := by rw [e11]; exact (Below.refl _ wq).alloc (Nat.le_refl _) _
    have S11 : Hid (Src w11 (some ⟨wq.heap.size, 0, none⟩) n xs) := Lib.hid (by rw [e11]; exact src_new HH.out)
    have K11 : Hid (Kept w w11) := Lib.hid (Below.trans KQ.out (B11.mono KQ.out.size))
    have RS11 := Lib.hid (row_below RSQ.out B11)
    have H11 := Lib.hid (HQ.out.below B11)
    clear e11 B11 KQ RSQ HQ
    go_wp2_with fail
    refine (implAny _ n n xs _ S11.out hn).mono ?_
    rintro e w12 ⟨v1, c1, rfl, us, hr, hy, hb⟩
    obtain ⟨hce, hlen, h256, heq⟩ := res_eq (Z := 0) (Z' := 0) (w0 := w) (w1 := w) (w2 := w) (w3 := w) (v := v1) (v' := vs) HH.out.1 HH.out.2.1 hy HY.out
    subst hce
    have K12 : Hid (Kept w w12) := Lib.hid (Below.trans K11.out (hb.mono K11.out.size))
    have R12 := Lib.hid hr
    have RS12 := Lib.hid (row_below RS11.out hb)
    have H12 := Lib.hid (H11.out.below hb)
    have EQ1 := Lib.hid (And.intro hlen (And.intro h256 heq))
    clear hr hy hb hlen h256 heq S11 K11 RS11 H11
    go_wp2_with fail
    refine (eqRow v1 vs us ys _ (by have := EQ1.out.2.1; omega) EQ1.out.1 (rowV_of R12.out) (rowV_of RS12.out) EQ1.out.2.2).mono ?_
    rintro e w13 ⟨rfl, hd⟩
    have K13 : Hid (Kept w w13) := Lib.hid (Below.trans K12.out (hd.below _))
    have H13 := Lib.hid (H12.out.below (hd.below _))
    clear hd K12 R12 RS12 H12
    go_wp2_with fail
    refine (heldRow v0 zs.length EQ.out.2.1 _ H13.out).mono ?_
    rintro e wz ⟨rfl, e14⟩
    have KZ : Hid (Kept w wz) := Lib.hid (by rw [e14]; exact K13.out)
    clear e14 K13 H13
    go_wp2
    go_ret
    exact ⟨rfl, KZ.out⟩
  · have hn' : 1048576 < n := by omega
    go_enter Try.func3, Try.ntmps3
    go_wp2
    go_ret
    exact ⟨rfl, Below.refl _ _⟩
end Go.Proofs.Ytbceiphiopdegaa
