/-
  NeighboursOf: the law's walk; how a [2]int32 that comes in is opened.
-/
import Derived.Test.YtjhmamkbdcfcoaaNb6
import Derived.OpenShut
set_option linter.unusedSimpArgs false
set_option linter.unusedVariables false
namespace Go.Proofs.Ytjhmamkbdcfcoaa
open Go.RowKit Go.ChangeShapes Go.WideShapes Go.ChangeAt

set_option maxHeartbeats 4000000 in
theorem lawNbNo (x y : Int) (hx : I32 x) (hy : I32 y) (hn : (inC x && inC y) = false) (w : World) :
    Calls Try.prog 7 #[c2 x y] w fun e w' => e = .returned (.bool true) ∧ Below w.heap.size w w' := by
  have HT := Lib.hid (toCellOk x y)
  have HS := Lib.hid (specNbNo x y hx hy hn)
  have HI := Lib.hid (implNbNo x y hn)
  have HE := Lib.hid eqCells0
  have HM := Lib.hid markCells0
  have HH := Lib.hid heldCells0
  clear hn hx hy
  go_enter Try.func7, Try.ntmps7
  go_wp2_with fail
  refine (HT.out _).mono ?_
  rintro _ w1 ⟨rfl, k1⟩
  have K1 := Lib.hid k1; clear k1
  go_wp2_with fail
  refine (HS.out _).mono ?_
  rintro _ w2 ⟨g, rfl, k2⟩
  have K2 := Lib.hid (Kept.trans K1.out k2); clear k2 K1
  obtain ⟨l0, l1⟩ := cell_alloc2 w x y 28
  have l0 := K2.out.cell l0
  have l1 := K2.out.cell l1
  go_wp2_with fail
  refine (HT.out _).mono ?_
  rintro _ w3 ⟨rfl, k3⟩
  have l0 := k3.cell l0
  have l1 := k3.cell l1
  have K3 := Lib.hid (Kept.trans K2.out k3); clear k3 K2
  go_wp2_with fail
  refine (HI.out _).mono ?_
  rintro _ w4 ⟨rfl, k4⟩
  have l0 := k4.cell l0
  have l1 := k4.cell l1
  have K4 := Lib.hid (Kept.trans K3.out k4); clear k4 K3
  go_wp2_with fail
  refine (HE.out _ _ _ _ _).mono ?_
  rintro _ _ ⟨rfl, rfl⟩
  go_wp2_with fail
  refine (HM.out _ _ _).mono ?_
  rintro _ _ ⟨rfl, rfl⟩
  go_wp2_with fail
  refine (HH.out _ _ _).mono ?_
  rintro _ _ ⟨rfl, rfl⟩
  go_wp2_with fail
  refine (HT.out _).mono ?_
  rintro _ w5 ⟨rfl, k5⟩
  have K5 := Lib.hid (Kept.trans K4.out k5); clear k5 K4 l0 l1
  go_wp2_with fail
  refine (HI.out _).mono ?_
  rintro _ w6 ⟨rfl, k6⟩
  have K6 := Lib.hid (Kept.trans K5.out k6); clear k6 K5
  go_wp2_with fail
  refine (HE.out _ _ _ _ _).mono ?_
  rintro _ _ ⟨rfl, rfl⟩
  go_wp2_with fail
  refine (HH.out _ _ _).mono ?_
  rintro _ _ ⟨rfl, rfl⟩
  go_wp2
  go_ret
  exact ⟨rfl, Kept.trans ((Kept.refl w).alloc _) K6.out⟩
set_option maxHeartbeats 4000000 in
theorem lawNbIn (x y : Int) (hx : inC x = true) (hy : inC y = true) (w : World) :
    Calls Try.prog 7 #[c2 x y] w fun e w' => e = .returned (.bool true) ∧ Below w.heap.size w w' := by
  have HT := Lib.hid (toCellOk x y)
  have HS := Lib.hid (specNbIn x y hx hy)
  have HI := Lib.hid (implNbIn x y hx hy)
  have HE := Lib.hid (eqCellsOk (zsL x y))
  have HM := Lib.hid (fun B g cap => markCells B g cap (nbL x y) rfl (nbL_int x y))
  have HH := Lib.hid heldCells
  clear hx hy
  go_enter Try.func7, Try.ntmps7
  go_wp2_with fail
  refine (HT.out _).mono ?_
  rintro _ w1 ⟨rfl, k1⟩
  have K1 := Lib.hid k1; clear k1
  go_wp2_with fail
  refine (HS.out _).mono ?_
  rintro _ w2 ⟨g, cap, rfl, b2, c2', m2, k2⟩
  have C2 := Lib.hid c2'; clear c2' m2
  have B2 := Lib.hid b2.2; clear b2
  have K2 := Lib.hid (Kept.trans K1.out k2); clear k2 K1
  obtain ⟨l0, l1⟩ := cell_alloc2 w x y 28
  have l0 := K2.out.cell l0
  have l1 := K2.out.cell l1
  go_wp2_with fail
  refine (HT.out _).mono ?_
  rintro _ w3 ⟨rfl, k3⟩
  have l0 := k3.cell l0
  have l1 := k3.cell l1
  have C3 := Lib.hid (C2.out.kept k3)
  have B3 := Lib.hid (Nat.lt_of_lt_of_le B2.out k3.size); clear C2 B2
  have K3 := Lib.hid (Kept.trans K2.out k3); clear k3 K2
  go_wp2_with fail
  refine (HI.out _).mono ?_
  rintro _ w4 ⟨gi, capi, rfl, b4, c4', m4, k4⟩
  have l0 := k4.cell l0
  have l1 := k4.cell l1
  have C4 := Lib.hid (C3.out.kept k4); clear C3
  have D4 := Lib.hid c4'; clear c4'
  have M4 := Lib.hid m4; clear m4
  have G4 := Lib.hid (Nat.lt_trans B3.out b4.1)
  have L4 := Lib.hid (Nat.lt_of_le_of_lt K3.out.size b4.1)
  have L0 := Lib.hid (Nat.lt_of_lt_of_le (lt_of_cell (cell_alloc2 w x y 28).1) (Nat.le_of_lt L4.out))
  clear B3 b4
  have K4 := Lib.hid (Kept.trans K3.out k4); clear k4 K3
  go_wp2_with fail
  refine (HE.out _ _ _ _ _ _ (by decide) D4.out C4.out).mono ?_
  rintro _ w5 ⟨rfl, k5⟩
  have l0 := k5.cell l0
  have l1 := k5.cell l1
  have C5 := Lib.hid (C4.out.kept k5); clear C4 D4
  have M5 := Lib.hid (RowM.kept0 M4.out k5); clear M4
  have K5 := Lib.hid (Kept.trans K4.out k5); clear k5 K4
  go_wp2_with fail
  refine (HM.out _ _ _ _ M5.out).mono ?_
  rintro _ w6 ⟨rfl, m6⟩
  have l0 := (Below.cell m6.2 (p := ⟨w.heap.size, 0, none⟩) L0.out).trans l0
  have l1 := (Below.cell m6.2 (p := ⟨w.heap.size, 1, none⟩) L0.out).trans l1
  have C6 := Lib.hid (C5.out.below m6.2 G4.out); clear C5 M5
  have M6 := Lib.hid m6.marked
  have K6 : Hid (Kept (w.alloc (.cells #[.int .i32 x, .int .i32 y] 28)) w6) := (Below.trans K5.out (Below.mono m6.2 (Nat.le_of_lt L4.out)) : Below _ _ _)
  clear m6 K5
  go_wp2_with fail
  refine (HH.out _ _ _ M6.out).mono ?_
  rintro _ w7 ⟨rfl, k7⟩
  have l0 := k7.cell l0
  have l1 := k7.cell l1
  have C7 := Lib.hid (C6.out.kept k7); clear C6
  have M7 := Lib.hid (M6.out.kept k7); clear M6
  have K7 := Lib.hid (Kept.trans K6.out k7); clear k7 K6
  go_wp2_with fail
  refine (HT.out _).mono ?_
  rintro _ w8 ⟨rfl, k8⟩
  have C8 := Lib.hid (C7.out.kept k8); clear C7
  have M8 := Lib.hid (M7.out.kept k8); clear M7
  have K8 := Lib.hid (Kept.trans K7.out k8); clear k8 K7 l0 l1
  go_wp2_with fail
  refine (HI.out _).mono ?_
  rintro _ w9 ⟨gh, caph, rfl, -, c9, -, k9⟩
  have D9 := Lib.hid c9; clear c9
  have C9 := Lib.hid (C8.out.kept k9); clear C8
  have M9 := Lib.hid (M8.out.kept k9); clear M8
  have K9 := Lib.hid (Kept.trans K8.out k9); clear k9 K8
  go_wp2_with fail
  refine (HE.out _ _ _ _ _ _ (by decide) D9.out C9.out).mono ?_
  rintro _ wa ⟨rfl, ka⟩
  have Ma := Lib.hid (M9.out.kept ka); clear M9 C9 D9
  have Ka := Lib.hid (Kept.trans K9.out ka); clear ka K9
  go_wp2_with fail
  refine (HH.out _ _ _ Ma.out).mono ?_
  rintro _ wb ⟨rfl, kb⟩
  have Kb := Lib.hid (Kept.trans Ka.out kb); clear kb Ka
  go_wp2
  go_ret
  exact ⟨rfl, Kept.trans ((Kept.refl w).alloc _) Kb.out⟩
theorem law_FnExactNeighboursOf (x y : Int) (hx : I32 x) (hy : I32 y) (w : World) :
    Calls Try.prog 7 #[c2 x y] w fun e w' => e = .returned (.bool true) ∧ Below w.heap.size w w' := by
  cases h : (inC x && inC y)
  · exact lawNbNo x y hx hy h w
  · rw [Bool.and_eq_true] at h
    exact lawNbIn x y h.1 h.2 w
section
variable {H : Type} {enc : TypeId × Value → H} {P : Program}
theorem int32_1 {w : World} {base : Nat} {sp : Nat → Bool} {held : Bool} {e : TypeId} {n : Nat} {v : Value} {x : DataW H × List MemPlace} (he : P.underlying e = some (.int .i32)) (h : DataW.trod enc P w base sp held n e [v] = some x) : ∃ b : Int, v = .int .i32 b ∧ I32 b := by
  obtain ⟨m, h1, _, h3⟩ := DataW.trod_int he h
  have hv : v = .int .i32 m := by simpa using h1
  refine ⟨m, hv, ?_⟩
  simp [Lit.wf, IntKind.min, IntKind.max, IntKind.signed, IntKind.bits] at h3
  unfold I32
  omega
theorem open_c2 {w : World} {t e : TypeId} {v : Value} {d : DataW H} {ps : List MemPlace} (ht : P.underlying t = some (.array 2 e)) (he : P.underlying e = some (.int .i32)) (hc : P.cellsOf e = 1) (hc8 : P.cellsOf t = 2)
    (hd : DataW.Trod enc P w 0 (fun _ => true) true t v d ps) :
    ∃ x y : Int, v = c2 x y ∧ I32 x ∧ I32 y := by
  obtain ⟨fuel, hf⟩ := hd
  obtain ⟨xs, m, _, _, hlen, hn, hel⟩ := DataW.trod_array ht hf
  rw [hc8] at hlen
  rw [hc] at hel
  have hv : ∃ l : List Value, v = .agg l.toArray ∧ l = v.cells.toList := by
    cases v with
    | agg a => exact ⟨a.toList, by simp, by simp [Value.cells]⟩
    | _ => simp [Value.cells] at hlen
  obtain ⟨l, rfl, hl⟩ := hv
  rw [← hl] at hlen hel
  match l, hlen, xs, hn, hel with
  | [c0, c1], _, [y0, y1], _, hel =>
    obtain ⟨b0, h0, w0⟩ := int32_1 he (show DataW.trod enc P w 0 (fun _ => true) true m e [c0] = some y0 from hel 0 (by decide))
    obtain ⟨b1, h1, w1⟩ := int32_1 he (show DataW.trod enc P w 0 (fun _ => true) true m e [c1] = some y1 from hel 1 (by decide))
    exact ⟨b0, b1, by subst h0 h1; rfl, w0, w1⟩
end
end Go.Proofs.Ytjhmamkbdcfcoaa
