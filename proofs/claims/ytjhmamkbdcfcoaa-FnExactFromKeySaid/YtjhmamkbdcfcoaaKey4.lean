/-
  Walks for FromKey: the implementation's FromKey, and the law.
-/
import Derived.Test.YtjhmamkbdcfcoaaKey2
import Derived.Deep.RegionHeld
set_option linter.unusedSimpArgs false
set_option linter.unusedVariables false
namespace Go.Proofs.Ytjhmamkbdcfcoaa
open Go.RowKit

theorem u32a (p : Nat) (a b c d e f g h : UInt8) (w : World) (H : HasKey w p a b c d e f g h) :
    Calls Try.prog 40 #[.agg #[], .slice (some ⟨p, 0, none⟩) 4 8] w fun x w' => x = .returned (.int .u32 (word4 a b c d)) ∧ HasKey w' p a b c d e f g h ∧ Kept w w' := by
  refine (Try.binary_BE_Uint32 p 0 4 8 a b c d w (Nat.le_refl _) H.1 H.2.1 H.2.2.1 H.2.2.2.1).mono ?_
  rintro _ w' ⟨rfl, hk⟩
  exact ⟨rfl, H.kept hk, hk⟩
theorem u32b (p : Nat) (a b c d e f g h : UInt8) (w : World) (H : HasKey w p a b c d e f g h) :
    Calls Try.prog 40 #[.agg #[], .slice (some ⟨p, 4, none⟩) 4 4] w fun x w' => x = .returned (.int .u32 (word4 e f g h)) ∧ HasKey w' p a b c d e f g h ∧ Kept w w' := by
  refine (Try.binary_BE_Uint32 p 4 4 4 e f g h w (Nat.le_refl _) H.2.2.2.2.1 H.2.2.2.2.2.1 H.2.2.2.2.2.2.1 H.2.2.2.2.2.2.2).mono ?_
  rintro _ w' ⟨rfl, hk⟩
  exact ⟨rfl, H.kept hk, hk⟩
theorem word_lt (a b c d : UInt8) : word4 a b c d < 4294967296 := by
  have ha := a.toNat_lt; have hb := b.toNat_lt; have hc := c.toNat_lt; have hd := d.toNat_lt
  simp only [word4, Lib.beNat, Lib.beFrom]
  omega
def KeyS (w : World) (a b c d e f g h : UInt8) (w' : World) : Prop := HasKey w' w.heap.size a b c d e f g h ∧ Kept w w'
theorem KeyS.drew {w : World} {a b c d e f g h : UInt8} {W : World} (H : KeyS w a b c d e f g h W) : KeyS w a b c d e f g h W.drew := ⟨H.1, Kept.drewN H.2 1⟩
theorem keyS_new (w : World) (a b c d e f g h : UInt8) : KeyS w a b c d e f g h (w.alloc (.cells #[.int .u8 (a.toNat : Int), .int .u8 (b.toNat : Int), .int .u8 (c.toNat : Int), .int .u8 (d.toNat : Int), .int .u8 (e.toNat : Int), .int .u8 (f.toNat : Int), .int .u8 (g.toNat : Int), .int .u8 (h.toNat : Int)] 39)).drew :=
  ⟨hasKey_drew _ _ _ _ _ _ _ _ _, Kept.drewN ((Kept.refl w).alloc _) 1⟩
theorem u32aS (a b c d e f g h : UInt8) (w W : World) (H : KeyS w a b c d e f g h W) :
    Calls Try.prog 40 #[.agg #[], .slice (some ⟨w.heap.size, 0, none⟩) 4 8] W fun x w' => x = .returned (.int .u32 (word4 a b c d)) ∧ KeyS w a b c d e f g h w' := by
  refine (u32a w.heap.size a b c d e f g h W H.1).mono ?_
  rintro _ w' ⟨rfl, h1, h2⟩
  exact ⟨rfl, h1, Kept.trans H.2 h2⟩
theorem u32bS (a b c d e f g h : UInt8) (w W : World) (H : KeyS w a b c d e f g h W) :
    Calls Try.prog 40 #[.agg #[], .slice (some ⟨w.heap.size, 4, none⟩) 4 4] W fun x w' => x = .returned (.int .u32 (word4 e f g h)) ∧ KeyS w a b c d e f g h w' := by
  refine (u32b w.heap.size a b c d e f g h W H.1).mono ?_
  rintro _ w' ⟨rfl, h1, h2⟩
  exact ⟨rfl, h1, Kept.trans H.2 h2⟩
theorem keyOfS (a b c d e f g h : UInt8) (x y : Nat) (hx : x < 4294967296) (hy : y < 4294967296) (w W : World) (H : KeyS w a b c d e f g h W) :
    Calls Try.prog 41 #[.complex .f32 x y] W fun e' w' => e' = .returned (keyV x y) ∧ KeyS w a b c d e f g h w' := by
  refine (implKeyOf x y hx hy W).mono ?_
  rintro _ w' ⟨rfl, h2⟩
  exact ⟨rfl, H.1.kept h2, Kept.trans H.2 h2⟩
set_option maxRecDepth 100000 in
set_option maxHeartbeats 4000000 in
theorem implFromKey (a b c d e f g h : UInt8) (w : World) :
    Calls Try.prog 21 #[k8 a b c d e f g h] w fun x w' => (isKey (word4 a b c d) (word4 e f g h) a b c d e f g h = true ∧ x = .returned (.tuple #[.complex .f32 (word4 a b c d) (word4 e f g h), .int .i64 0]) ∨ isKey (word4 a b c d) (word4 e f g h) a b c d e f g h = false ∧ x = .returned (.tuple #[.complex .f32 0 0, .int .i64 2])) ∧ Kept w w' := by
  have hf := from32
  have UA := Lib.hid (u32aS a b c d e f g h w)
  have UB := Lib.hid (u32bS a b c d e f g h w)
  have HK := Lib.hid (keyOfS a b c d e f g h (word4 a b c d) (word4 e f g h) (word_lt _ _ _ _) (word_lt _ _ _ _) w)
  generalize word4 a b c d = X at *
  generalize word4 e f g h = Y at *
  go_enter Try.func21, Try.ntmps21
  go_wp2
  go_region_held (fun w' => KeyS w a b c d e f g h w') (first | assumption | exact keyS_new _ _ _ _ _ _ _ _ _) (first
      | (go_at_call_of 40 (Value.slice (some ⟨w.heap.size, 0, none⟩) 4 8); refine (UA.out _ (by assumption)).mono ?_; rintro _ w1 ⟨rfl, H1⟩)
      | (go_at_call_of 40 (Value.slice (some ⟨w.heap.size, 4, none⟩) 4 4); refine (UB.out _ (by assumption)).mono ?_; rintro _ w2 ⟨rfl, H2⟩))
  have H3 := Lib.hid (KeyS.drew H2)
  clear H1 H2
  clear UA UB
  cases hq : isKey X Y a b c d e f g h
  all_goals
    have HQ := Lib.hid hq
    unfold isKey at hq
    go_wp2
    go_region_held (fun w' => (w'.cell? ⟨w.heap.size, 0, none⟩ = some (.int .u8 (a.toNat : Int)) ∧ w'.cell? ⟨w.heap.size, 1, none⟩ = some (.int .u8 (b.toNat : Int)) ∧ w'.cell? ⟨w.heap.size, 2, none⟩ = some (.int .u8 (c.toNat : Int)) ∧ w'.cell? ⟨w.heap.size, 3, none⟩ = some (.int .u8 (d.toNat : Int)) ∧ w'.cell? ⟨w.heap.size, 4, none⟩ = some (.int .u8 (e.toNat : Int)) ∧ w'.cell? ⟨w.heap.size, 5, none⟩ = some (.int .u8 (f.toNat : Int)) ∧ w'.cell? ⟨w.heap.size, 6, none⟩ = some (.int .u8 (g.toNat : Int)) ∧ w'.cell? ⟨w.heap.size, 7, none⟩ = some (.int .u8 (h.toNat : Int))) ∧ Kept w w') (first | assumption | exact H3.out) (first | (go_at_call 41; refine (HK.out _ (by assumption)).mono ?_; rintro _ w3 ⟨rfl, H4⟩))
    have H5 := Lib.hid H4.2
    clear H4 hq
    go_wp2
    go_ret2
    first | exact ⟨.inl ⟨HQ.out, rfl⟩, H5.out⟩ | exact ⟨.inr ⟨HQ.out, rfl⟩, H5.out⟩
theorem hasKey_alloc (w : World) (t : TypeId) (a b c d e f g h : UInt8) : HasKey (w.alloc (.cells #[.int .u8 (a.toNat : Int), .int .u8 (b.toNat : Int), .int .u8 (c.toNat : Int), .int .u8 (d.toNat : Int), .int .u8 (e.toNat : Int), .int .u8 (f.toNat : Int), .int .u8 (g.toNat : Int), .int .u8 (h.toNat : Int)] t)) w.heap.size a b c d e f g h :=
  ⟨World.cell?_alloc_at _ _ _ _ rfl, World.cell?_alloc_at _ _ _ _ rfl, World.cell?_alloc_at _ _ _ _ rfl, World.cell?_alloc_at _ _ _ _ rfl, World.cell?_alloc_at _ _ _ _ rfl, World.cell?_alloc_at _ _ _ _ rfl, World.cell?_alloc_at _ _ _ _ rfl, World.cell?_alloc_at _ _ _ _ rfl⟩
set_option maxHeartbeats 4000000 in
theorem law_FnExactFromKey (a b c d e f g h : UInt8) (w : World) :
    Calls Try.prog 6 #[k8 a b c d e f g h] w fun x w' => x = .returned (.bool true) ∧ Below w.heap.size w w' := by
  have hc := fun a b w => run_ccv (P := Try.prog) 22 35 a b w (by kernel_rfl) Try.underlying35
  have HT := Lib.hid (toKey a b c d e f g h)
  have HS := Lib.hid (specFromKey a b c d e f g h)
  have HI := Lib.hid (implFromKey a b c d e f g h)
  generalize word4 a b c d = X at *
  generalize word4 e f g h = Y at *
  generalize isKey X Y a b c d e f g h = q at *
  cases q
  all_goals
    go_enter Try.func6, Try.ntmps6
    go_wp2_with fail
    refine (HT.out _).mono ?_
    rintro _ w1 ⟨rfl, k1⟩
    have K1 := Lib.hid k1; clear k1
    go_wp2_with fail
    refine (HS.out _).mono ?_
    rintro _ w2 ⟨h2, k2⟩
    simp only [true_and, false_and, or_false, false_or, reduceCtorEq, Bool.false_eq_true, Bool.true_eq_false] at h2
    subst h2
    have K2 := Lib.hid (Kept.trans K1.out k2); clear k2 K1
    obtain ⟨l0, l1, l2, l3, l4, l5, l6, l7⟩ := (hasKey_alloc w _ a b c d e f g h).kept K2.out
    go_wp2_with fail
    refine (HT.out _).mono ?_
    rintro _ w3 ⟨rfl, k3⟩
    have K3 := Lib.hid (Kept.trans K2.out k3); clear k3 K2 l0 l1 l2 l3 l4 l5 l6 l7
    go_wp2_with fail
    refine (HI.out _).mono ?_
    rintro _ w4 ⟨h4, k4⟩
    simp only [true_and, false_and, or_false, false_or, reduceCtorEq, Bool.false_eq_true, Bool.true_eq_false] at h4
    subst h4
    have K4 := Lib.hid (Kept.trans K3.out k4); clear k4 K3
    go_wp2_with (go_at_call 18; refine (cvC2 _ _ _ _ (.inl rfl) (.inl rfl) _ _ _ _ _).mono ?_; rintro e w' ⟨rfl, rfl⟩)
    go_ret
    exact ⟨rfl, by repeat (first | exact Kept.trans ((Kept.refl w).alloc _) K4.out | apply Kept.cvW)⟩
end Go.Proofs.Ytjhmamkbdcfcoaa
