/-
  Walks for FromKey: the implementation's side, and the law.
-/
import Derived.Test.YtjhmamkbdcfcoaaKey
set_option linter.unusedSimpArgs false
set_option linter.unusedVariables false
namespace Go.Proofs.Ytjhmamkbdcfcoaa
open Go.RowKit

theorem row8_old (w : World) (o : Obj) (t : TypeId) (a b c d e f g h : Value) : Row8 ((w.alloc (.cells #[a, b, c, d, e, f, g, h] t)).alloc o).drew w.heap.size a b c d e f g h := by
  have L := fun j u (hh : (w.alloc (.cells #[a, b, c, d, e, f, g, h] t)).cell? ⟨w.heap.size, j, none⟩ = some u) => cell?_alloc_old o hh
  exact ⟨L 0 _ (World.cell?_alloc_at _ _ _ _ rfl), L 1 _ (World.cell?_alloc_at _ _ _ _ rfl), L 2 _ (World.cell?_alloc_at _ _ _ _ rfl), L 3 _ (World.cell?_alloc_at _ _ _ _ rfl), L 4 _ (World.cell?_alloc_at _ _ _ _ rfl), L 5 _ (World.cell?_alloc_at _ _ _ _ rfl), L 6 _ (World.cell?_alloc_at _ _ _ _ rfl), L 7 _ (World.cell?_alloc_at _ _ _ _ rfl)⟩
theorem free8_old (w : World) (o : Obj) (t : TypeId) (c : Array Value) (j : Nat) : ((w.alloc (.cells c t)).alloc o).drew.frozen? ⟨w.heap.size, j, none⟩ = false := by
  show ((w.alloc (.cells c t)).alloc o).frozen? ⟨w.heap.size, j, none⟩ = false
  rw [World.frozen?_alloc_past _ _ _ (by simp)]
  exact World.frozen?_alloc_at _ _ _ _ rfl
theorem Row8.below {w w' : World} {p B : Nat} {a b c d e f g h : Value} (H : Row8 w p a b c d e f g h) (hb : Below B w w') (hp : p < B) : Row8 w' p a b c d e f g h := by
  obtain ⟨l0, l1, l2, l3, l4, l5, l6, l7⟩ := H
  have L := fun j u (hh : w.cell? ⟨p, j, none⟩ = some u) => (Below.cell hb (p := ⟨p, j, none⟩) hp).trans hh
  exact ⟨L _ _ l0, L _ _ l1, L _ _ l2, L _ _ l3, L _ _ l4, L _ _ l5, L _ _ l6, L _ _ l7⟩
theorem set8 (w : World) (p : Nat) (a b c d e f g h a' b' c' d' e' f' g' h' : Value) (H : Row8 w p a b c d e f g h) : Row8 (w.setCells p 0 [a', b', c', d', e', f', g', h']) p a' b' c' d' e' f' g' h' := by
  obtain ⟨l0, l1, l2, l3, l4, l5, l6, l7⟩ := H
  have cs := World.cell?_setCells_in p [a', b', c', d', e', f', g', h'] 0 w (fun j hj => by
    have : j = 0 ∨ j = 1 ∨ j = 2 ∨ j = 3 ∨ j = 4 ∨ j = 5 ∨ j = 6 ∨ j = 7 := by simp at hj; omega
    rcases this with rfl | rfl | rfl | rfl | rfl | rfl | rfl | rfl
    · rw [l0]; rfl
    · rw [l1]; rfl
    · rw [l2]; rfl
    · rw [l3]; rfl
    · rw [l4]; rfl
    · rw [l5]; rfl
    · rw [l6]; rfl
    · rw [l7]; rfl)
  exact ⟨cs 0 (by simp), cs 1 (by simp), cs 2 (by simp), cs 3 (by simp), cs 4 (by simp), cs 5 (by simp), cs 6 (by simp), cs 7 (by simp)⟩
set_option maxRecDepth 100000 in
set_option maxHeartbeats 4000000 in
theorem implKeyOf (x y : Nat) (hx : x < 4294967296) (hy : y < 4294967296) (w : World) :
    Calls Try.prog 41 #[.complex .f32 x y] w fun e w' => e = .returned (keyV x y) ∧ Kept w w' := by
  have cx := Lib.hid (canon_lt x hx)
  have cy := Lib.hid (canon_lt y hy)
  clear hx hy
  unfold keyV
  have BX := implBitsOf x
  have BY := implBitsOf y
  generalize canonB x = X at *
  generalize canonB y = Y at *
  go_enter Try.func41, Try.ntmps41
  go_wp2
  go_region_with (first
    | (go_at_call 51; refine (BX _).mono ?_; rintro _ _ ⟨rfl, rfl⟩)
    | (go_at_call 50; refine (put0 (w.heap.size + 1) X cx.out (.int .u8 0) (.int .u8 0) (.int .u8 0) (.int .u8 0) (.int .u8 0) (.int .u8 0) (.int .u8 0) (.int .u8 0) _ ?_ ?_).mono ?_; exact row8_new _ _ _ _ _ _ _ _ _ _ _; exact free8_new _ _ _ _; rintro _ w1 ⟨rfl, R1, Z1, B1⟩))
  all_goals
    have O1 := (row8_old w (.cells #[.int .u8 0, .int .u8 0, .int .u8 0, .int .u8 0, .int .u8 0, .int .u8 0, .int .u8 0, .int .u8 0] 39) 39 (.int .u8 0) (.int .u8 0) (.int .u8 0) (.int .u8 0) (.int .u8 0) (.int .u8 0) (.int .u8 0) (.int .u8 0)).below B1 (Nat.lt_succ_self _)
    have F1 : ∀ j, w1.frozen? ⟨w.heap.size, j, none⟩ = false := fun j => (Below.frozen B1 (p := ⟨w.heap.size, j, none⟩) (Nat.lt_succ_self _)).trans (free8_old _ _ _ _ _)
    have K1 : Kept w w1 := (Below.trans (Below.drew (((Below.refl _ w).alloc (Nat.le_refl _) _).alloc (by simp) _)) (B1.mono (Nat.le_succ _)))
    clear B1
    have HP := Lib.hid (put4 (w.heap.size + 1) Y cy.out _ _ _ _ _ _ _ _ w1.drew R1 Z1)
    have O1' := Lib.hid O1
    have R1' := Lib.hid R1
    have Z1' := Lib.hid Z1
    have F1' := Lib.hid F1
    have K1' := Lib.hid K1
    clear O1 R1 Z1 F1 K1
    go_wp2
    go_region_with (first
      | (go_at_call 51; refine (BY _).mono ?_; rintro _ _ ⟨rfl, rfl⟩)
      | (go_at_call 50; refine HP.out.mono ?_; rintro _ w2 ⟨rfl, R2, Z2, B2⟩))
    all_goals
      have O2 := Row8.below (w := w1.drew) O1'.out B2 (Nat.lt_succ_self _)
      have S := Lib.hid (set8 w2 w.heap.size _ _ _ _ _ _ _ _ (.int .u8 ((X : Int) / 16777216 % 256)) (.int .u8 ((X : Int) / 65536 % 256)) (.int .u8 ((X : Int) / 256 % 256)) (.int .u8 ((X : Int) % 256)) (.int .u8 ((Y : Int) / 16777216 % 256)) (.int .u8 ((Y : Int) / 65536 % 256)) (.int .u8 ((Y : Int) / 256 % 256)) (.int .u8 ((Y : Int) % 256)) O2)
      obtain ⟨o0, o1, o2, o3, o4, o5, o6, o7⟩ := O2
      obtain ⟨r0, r1, r2, r3, r4, r5, r6, r7⟩ := R2
      have f0 := fun j => (Below.frozen B2 (p := ⟨w.heap.size, j, none⟩) (Nat.lt_succ_self _)).trans (F1'.out j)
      have K2 := Lib.hid (Below.trans (Below.trans (Below.drew K1'.out) (B2.mono (Nat.le_succ _))) (Lib.below_setCells_w (Nat.le_refl w.heap.size) [.int .u8 ((X : Int) / 16777216 % 256), .int .u8 ((X : Int) / 65536 % 256), .int .u8 ((X : Int) / 256 % 256), .int .u8 ((X : Int) % 256), .int .u8 ((Y : Int) / 16777216 % 256), .int .u8 ((Y : Int) / 65536 % 256), .int .u8 ((Y : Int) / 256 % 256), .int .u8 ((Y : Int) % 256)] 0 w2) : Kept w _)
      clear B2 O1' R1' Z1' F1' K1' Z2 HP
      go_wp2
      change bodyPost _ _ _ _ _ (w2.setCells w.heap.size 0 [.int .u8 ((X : Int) / 16777216 % 256), .int .u8 ((X : Int) / 65536 % 256), .int .u8 ((X : Int) / 256 % 256), .int .u8 ((X : Int) % 256), .int .u8 ((Y : Int) / 16777216 % 256), .int .u8 ((Y : Int) / 65536 % 256), .int .u8 ((Y : Int) / 256 % 256), .int .u8 ((Y : Int) % 256)])
      clear o0 o1 o2 o3 o4 o5 o6 o7 r0 r1 r2 r3 r4 r5 r6 r7 f0
      generalize w2.setCells w.heap.size 0 [.int .u8 ((X : Int) / 16777216 % 256), .int .u8 ((X : Int) / 65536 % 256), .int .u8 ((X : Int) / 256 % 256), .int .u8 ((X : Int) % 256), .int .u8 ((Y : Int) / 16777216 % 256), .int .u8 ((Y : Int) / 65536 % 256), .int .u8 ((Y : Int) / 256 % 256), .int .u8 ((Y : Int) % 256)] = V at *
      obtain ⟨s0, s1, s2, s3, s4, s5, s6, s7⟩ := S.out
      exact bodyPost_ret (v := k8i ((X : Int) / 16777216 % 256) ((X : Int) / 65536 % 256) ((X : Int) / 256 % 256) ((X : Int) % 256) ((Y : Int) / 16777216 % 256) ((Y : Int) / 65536 % 256) ((Y : Int) / 256 % 256) ((Y : Int) % 256)) (by simp [results, Try.results41, go_sem, s0, s1, s2, s3, s4, s5, s6, s7]) rfl ⟨rfl, K2.out⟩
end Go.Proofs.Ytjhmamkbdcfcoaa
