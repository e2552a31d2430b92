/-
  The walk of the program's DotOf, which collects the products in a list of its own, and the law DotOf; no condition beside the lengths.
-/
import Derived.Test.YtjhmamkbdcfcoaaDot
set_option linter.unusedSimpArgs false
set_option linter.unusedVariables false
namespace Go.Proofs.Ytjhmamkbdcfcoaa
open Go.RowKit

def vals (zs : List Nat) : List Value := zs.map (Value.float .f32)
theorem vals_snoc (zs : List Nat) (x : Nat) : vals zs ++ [.float .f32 x] = vals (zs ++ [x]) := by simp [vals]
/-- what has been collected -/
def Coll (xs ys zs : List Nat) (k : Nat) : Prop := zs.length = k ∧ ∀ i, i < k → DotT xs ys i (zs.getD i 0)
theorem coll_next (xs ys zs : List Nat) (k x : Nat) (h : Coll xs ys zs k) (hx : DotT xs ys k x) : Coll xs ys (zs ++ [x]) (k + 1) := by
  refine ⟨by simp [h.1], fun i hi => ?_⟩
  by_cases h1 : i < k
  · have : (zs ++ [x]).getD i 0 = zs.getD i 0 := by
      simp only [List.getD]; rw [List.getElem?_append_left (by rw [h.1]; exact h1)]
    rw [this]; exact h.2 i h1
  · have e : i = k := by omega
    subst e
    have : (zs ++ [x]).getD i 0 = x := by
      simp only [List.getD]; rw [List.getElem?_append_right (by rw [h.1]; exact Nat.le_refl _), h.1, Nat.sub_self]; rfl
    rw [this]; exact hx
theorem holds_own (w : World) (B : Nat) (t : TypeId) (v : Value) (zs : List Nat) (n : Nat) (hl : zs.length = n) (h : w.ownsRow B t 1 v n (vals zs)) :
    n = 0 ∨ ∃ g c, v = .slice (some ⟨g, 0, none⟩) n c ∧ Holds32 w g 0 n zs := by
  by_cases h0 : n = 0
  · exact .inl h0
  · right
    obtain ⟨_, ⟨_, hz⟩ | ⟨g, cap, cur, hv, _⟩⟩ := id h
    · exact absurd hz h0
    subst hv
    refine ⟨g, cap, rfl, fun i hi => ?_⟩
    rw [Nat.zero_add, h.cellAt i (by omega)]
    simp [vals, List.getD, List.getElem?_eq_getElem (show i < zs.length by omega)]

theorem own_arW {w : World} {B : Nat} {e : TypeId} {size : Nat} {v : Value} {n : Nat} {xs : List Value} (h : w.ownsRow B e size v n xs) (op : BinOp) (k : FloatKind) (x y : Nat) : (arW op k x y w).ownsRow B e size v n xs := by
  unfold arW; split <;> exact h
theorem cell_one (W : World) (n : Nat) (hn : n = W.heap.size) (v : Value) (t : TypeId) : ∀ (j : Nat) (u : Value), [v][j]? = some u → (W.alloc (.cells #[v] t)).cell? ((⟨n, 0, none⟩ : Addr).add j) = some u := by
  intro j u hj
  cases j with
  | zero => 
    simp at hj; subst hj
    show (W.alloc (.cells #[v] t)).cell? ⟨n, 0, none⟩ = _
    rw [World.cell?_alloc_at _ _ _ _ hn]; rfl
  | succ j => simp at hj
theorem own_start (w : World) (t : TypeId) : (w.alloc (.cells #[] t)).ownsRow w.heap.size t 1 (.slice (some ⟨w.heap.size, 0, none⟩) 0 0) 0 [] :=
  World.ownsRow_made w #[] 0 (Nat.le_refl _) (by decide) rfl
theorem kept_grown {w wr w1 : World} {v : Value} {t : TypeId} {size n : Nat} {xs : List Value} {row : Option Nat} (h : Kept w wr) (hg : wr.grownBy w1 row) (hr : row = v.ownBlock) (hown : wr.ownsRow w.heap.size t size v n xs) : Kept w w1 :=
  Below.grown h hg h.size (fun k hk => (hown.lt k (by rw [← hr]; exact hk)).1)

theorem own_form (w : World) (B : Nat) (t : TypeId) (v : Value) (zs : List Nat) (n : Nat) (hl : zs.length = n) (h : w.ownsRow B t 1 v n (vals zs)) :
    v = .slice none 0 0 ∧ n = 0 ∨ ∃ g c, v = .slice (some ⟨g, 0, none⟩) n c ∧ Holds32 w g 0 n zs := by
  obtain ⟨_, hz | ⟨g, cap, cur, hv, _⟩⟩ := id h
  · exact .inl hz
  · subst hv
    refine .inr ⟨g, cap, rfl, fun i hi => ?_⟩
    rw [Nat.zero_add, h.cellAt i (by omega)]
    simp [vals, List.getD, List.getElem?_eq_getElem (show i < zs.length by omega)]
set_option maxHeartbeats 400000 in
theorem sumNil (w : World) :
    Calls Try.prog 43 #[.slice none 0 0] w fun e w' => e = .returned (.float .f32 0) ∧ w = w' := by
  go_enter Try.func43, Try.ntmps43
  go_wp2
  refine wp_loop_rounds 1 ?_; rw [rounds_succ]
  go_wp2
  go_ret
  exact ⟨rfl, rfl⟩

set_option maxHeartbeats 1000000 in
theorem implDotGo (xs ys : List Nat) (g g' n : Nat) (w : World) (hn : n ≤ 256) (h1 : Holds32 w g 0 n xs) (h2 : Holds32 w g' 0 n ys) :
    Calls Try.prog 33 #[.slice (some ⟨g, 0, none⟩) n n, .slice (some ⟨g', 0, none⟩) n n] w fun e w' => ∃ s, e = .returned (.tuple #[.float .f32 s, .int .i64 0]) ∧ SumP (DotT xs ys) n s ∧ Kept w w' := by
  have hm := fun t x y w => run_ar (P := Try.prog) .mul (by simp) t .f32 x y w
  have ht := twoB_zero n hn
  obtain ⟨i0, hi, hz0, hz1, hz2⟩ := info_parts info32
  have H1 := Lib.hid h1
  have H2 := Lib.hid h2
  have HI := Lib.hid (And.intro hi (And.intro hz0 (And.intro hz1 hz2)))
  clear h1 h2 hi hz0 hz1 hz2
  go_enter Try.func33, Try.ntmps33
  go_wp2_with (go_at_call 45; refine (implTwo _ _ _ _ _ _ _).mono ?_; rintro e w' ⟨rfl, rfl⟩)
  go_loopw [7, 19] (fun v i wr => ∃ (k : Nat) (zs : List Nat), k ≤ n ∧ i = .int .i64 k ∧ wr.ownsRow w.heap.size 29 1 v k (vals zs) ∧ Hid (Coll xs ys zs k) ∧ Kept w wr) (fun _ i _ => n - (intOf i).toNat)
  case atStart => exact ⟨0, [], Nat.zero_le _, rfl, own_start w _, ⟨rfl, fun i hi => absurd hi (Nat.not_lt_zero _)⟩, (Kept.refl w).alloc _⟩
  case round =>
    obtain ⟨k, zs, hk, rfl, hown, HS, hkept⟩ := hrel
    have K1 := Lib.hid hkept
    clear hkept
    by_cases hlt : k < n
    · have e1 := K1.out.cell (H1.out k hlt)
      have e2 := K1.out.cell (H2.out k hlt)
      rw [Nat.zero_add] at e1 e2
      have e3 := fun w => Lib.hid (dotT_mk xs ys k w)
      generalize xs.getD k 0 = x at *
      generalize ys.getD k 0 = y at *
      have H3 := Lib.hid e3
      clear e3
      have HO := Lib.hid hown
      clear hown
      go_wp2_with (at_builtin; refine wpList_append_own _ rfl _ _ 48 rfl w.heap.size 29 i0 (.float .f32 0) 1 4 Try.underlying48 HI.out.1 HI.out.2.1 HI.out.2.2.1 HI.out.2.2.2 rfl (by decide) _ _ _ rfl ((own_arW HO.out .mul .f32 x y).alloc _) ⟨wr.heap.size, 0, none⟩ 1 1 [.float .f32 (arB .mul .f32 x y wr)] rfl rfl ?c1 ?c2 ?c3 ?c4 ?c5 ?_)
      case c1 => exact cell_one _ _ (by simp) _ _
      case c2 => simp [Value.oneCell']
      case c3 => unfold maxLen; omega
      case c4 => omega
      case c5 => have := K1.out.size; simp; omega
      intro v' w1 hown' hgrow _
      rw [vals_snoc] at hown'
      have K2 : Hid (Kept w w1) := kept_grown (((K1.out.arW _ _ _ _).alloc _)) hgrow rfl ((own_arW HO.out .mul .f32 x y).alloc _)
      have C2 := Lib.hid (coll_next xs ys zs k _ HS.out (H3.out wr).out)
      have O2 := Lib.hid hown'
      clear hgrow hown'
      go_wp2
      go_roundw
      case rel => exact ⟨k + 1, _, by omega, by go_num, O2.out, C2.out, K2.out⟩
      case measure => simp [intOf]; omega
    · have hkn : k = n := by omega
      have C2 : Hid (Coll xs ys zs n) := by rw [← hkn]; exact HS.out
      have HF := Lib.hid (own_form _ _ _ _ zs k HS.out.1 hown)
      clear hown
      rcases HF.out with ⟨hv, h0⟩ | ⟨g2, cp, hv, h2⟩
      · have hs0 : Hid (SumP (DotT xs ys) n 0) := by rw [← hkn, h0]; rfl
        clear h0 hkn
        rw [hv]
        clear hv
        go_wp2_with (go_at_call 43; refine (sumNil _).mono ?_; rintro e w' ⟨rfl, rfl⟩)
        go_ret2
        exact ⟨_, rfl, hs0.out, K1.out⟩
      · have A2 := Lib.hid h2
        have HK := Lib.hid hkn
        clear h2 hkn
        rw [hv]
        clear hv
        go_wp2_with fail
        refine (implSum1 zs g2 0 k cp _ (by omega) A2.out).mono ?_
        rintro e w' ⟨s, rfl, hs, hd⟩
        have S2 := Lib.hid hs
        have D2 := Lib.hid hd
        clear hs hd
        go_wp2
        go_ret2
        exact ⟨_, rfl, sum_of_list xs ys zs n C2.out.2 n s (Nat.le_refl n) (HK.out ▸ S2.out), Kept.drawn K1.out D2.out⟩
theorem dot_big (n m : Nat) (h : ¬ twoB n m = 0) : 256 < n ∨ 256 < m ∨ ¬ n = m := by
  unfold twoB at h
  by_cases h1 : 256 < n ∨ 256 < m
  · omega
  · rw [if_neg h1] at h
    by_cases h2 : n = m
    · rw [if_pos h2] at h; exact absurd rfl h
    · omega
set_option maxHeartbeats 400000 in
theorem specDotNo (a b : Option Addr) (n m c d : Nat) (w : World) (h : ¬ twoB n m = 0) :
    Calls Try.prog 32 #[.slice a n c, .slice b m d] w fun e w' => e = .returned (.tuple #[.float .f32 0, .int .i64 (twoB n m)]) ∧ w = w' := by
  have h1 : (twoB n m != 0) = true := by simpa using h
  clear h
  go_enter Try.func32, Try.ntmps32
  go_wp2_with (go_at_call 44; refine (specTwo _ _ _ _ _ _ _).mono ?_; rintro e w' ⟨rfl, rfl⟩)
  go_ret2
  exact ⟨rfl, rfl⟩
set_option maxHeartbeats 400000 in
theorem implDotNo (a b : Option Addr) (n m c d : Nat) (w : World) (h : ¬ twoB n m = 0) :
    Calls Try.prog 33 #[.slice a n c, .slice b m d] w fun e w' => e = .returned (.tuple #[.float .f32 0, .int .i64 (twoB n m)]) ∧ w = w' := by
  have h1 : (twoB n m != 0) = true := by simpa using h
  clear h
  go_enter Try.func33, Try.ntmps33
  go_wp2_with (go_at_call 45; refine (implTwo _ _ _ _ _ _ _).mono ?_; rintro e w' ⟨rfl, rfl⟩)
  go_ret2
  exact ⟨rfl, rfl⟩
/-- one statement for both sides -/
def DotR (xs ys : List Nat) (n m s : Nat) (code : Int) : Prop := code = twoB n m ∧ (twoB n m = 0 → SumP (DotT xs ys) n s) ∧ (¬ twoB n m = 0 → s = 0)
theorem dotR_eqn (xs ys : List Nat) (n m s t : Nat) (c d : Int) (h : DotR xs ys n m s c) (h' : DotR xs ys n m t d) : eqn s t ∧ c = d := by
  refine ⟨?_, by rw [h.1, h'.1]⟩
  by_cases h0 : twoB n m = 0
  · exact sumP_eqn _ (dotT_eqn xs ys) n s t (h.2.1 h0) (h'.2.1 h0)
  · rw [h.2.2 h0, h'.2.2 h0]; exact eqn_refl _
theorem two_zero (n m : Nat) (h : twoB n m = 0) : n ≤ 256 ∧ n = m := by
  unfold twoB at h
  by_cases h1 : 256 < n ∨ 256 < m
  · rw [if_pos h1] at h; omega
  · rw [if_neg h1] at h
    by_cases h2 : n = m
    · omega
    · rw [if_neg h2] at h; omega
theorem specDotAny (xs ys : List Nat) (g g' n m : Nat) (w : World) (h1 : Holds32 w g 0 n xs) (h2 : Holds32 w g' 0 m ys) :
    Calls Try.prog 32 #[.slice (some ⟨g, 0, none⟩) n n, .slice (some ⟨g', 0, none⟩) m m] w fun e w' => ∃ s code, e = .returned (.tuple #[.float .f32 s, .int .i64 code]) ∧ DotR xs ys n m s code ∧ Kept w w' := by
  by_cases h0 : twoB n m = 0
  · obtain ⟨hn, rfl⟩ := two_zero n m h0
    refine (specDot xs ys g g' n w hn h1 h2).mono ?_
    rintro e w' ⟨s, rfl, hs, hd⟩
    exact ⟨s, 0, rfl, ⟨h0.symm, fun _ => hs, fun h => absurd h0 h⟩, Kept.drawn (Kept.refl w) hd⟩
  · refine (specDotNo _ _ n m _ _ w h0).mono ?_
    rintro e w' ⟨rfl, rfl⟩
    exact ⟨0, _, rfl, ⟨rfl, fun h => absurd h h0, fun _ => rfl⟩, Kept.refl w⟩
theorem implDotAny (xs ys : List Nat) (g g' n m : Nat) (w : World) (h1 : Holds32 w g 0 n xs) (h2 : Holds32 w g' 0 m ys) :
    Calls Try.prog 33 #[.slice (some ⟨g, 0, none⟩) n n, .slice (some ⟨g', 0, none⟩) m m] w fun e w' => ∃ s code, e = .returned (.tuple #[.float .f32 s, .int .i64 code]) ∧ DotR xs ys n m s code ∧ Kept w w' := by
  by_cases h0 : twoB n m = 0
  · obtain ⟨hn, rfl⟩ := two_zero n m h0
    refine (implDotGo xs ys g g' n w hn h1 h2).mono ?_
    rintro e w' ⟨s, rfl, hs, hd⟩
    exact ⟨s, 0, rfl, ⟨h0.symm, fun _ => hs, fun h => absurd h0 h⟩, hd⟩
  · refine (implDotNo _ _ n m _ _ w h0).mono ?_
    rintro e w' ⟨rfl, rfl⟩
    exact ⟨0, _, rfl, ⟨rfl, fun h => absurd h h0, fun _ => rfl⟩, Kept.refl w⟩

set_option maxHeartbeats 1000000 in
theorem law_FnExactDotOf (a : Option Addr) (n c : Nat) (xs : List Nat) (hn0 : n ≤ 9223372036854775807) (b : Option Addr) (m d : Nat) (ys : List Nat) (hm0 : m ≤ 9223372036854775807) (w : World) (h : Src w a n xs) (h' : Src w b m ys) :
    Calls Try.prog 9 #[.slice a n c, .slice b m d] w fun e w' => e = .returned (.bool true) ∧ Below w.heap.size w w' := by
  have HX := Lib.hid h
  have HY := Lib.hid h'
  clear h h'
  have hc := fun a w => run_cv (P := Try.prog) 29 53 a w (by kernel_rfl) Try.underlying53
  by_cases hn : n ≤ 1048576
  · by_cases hm : m ≤ 1048576
    · go_enter Try.func9, Try.ntmps9
      go_wp2_with fail
      refine (toF_any a n c xs _ hn HX.out).mono ?_
      rintro e w1 ⟨g1, rfl, hh1, hk1⟩
      have A1 := Lib.hid hh1; have K1 := Lib.hid hk1; clear hh1 hk1
      go_wp2_with fail
      refine (toF_any b m d ys _ hm (HY.out.kept K1.out)).mono ?_
      rintro e w2 ⟨g2, rfl, hh2, hk2⟩
      have A2 := Lib.hid hh2; have B2 := Lib.hid (A1.out.kept hk2); have K2 := Lib.hid (K1.out.trans hk2); clear hh2 hk2
      go_wp2_with fail
      refine (specDotAny xs ys g1 g2 n m _ B2.out A2.out).mono ?_
      rintro e w3 ⟨s, code, rfl, hs, hd⟩
      have K3 := Lib.hid (K2.out.trans hd); have S3 := Lib.hid hs; clear hs hd
      go_wp2_with fail
      refine (toF_any a n c xs _ hn (HX.out.kept K3.out)).mono ?_
      rintro e w4 ⟨g4, rfl, hh4, hk4⟩
      have A4 := Lib.hid hh4; have K4 := Lib.hid (K3.out.trans hk4); clear hh4 hk4
      go_wp2_with fail
      refine (toF_any b m d ys _ hm (HY.out.kept K4.out)).mono ?_
      rintro e w5 ⟨g5, rfl, hh5, hk5⟩
      have A5 := Lib.hid hh5; have B5 := Lib.hid (A4.out.kept hk5); have K5 := Lib.hid (K4.out.trans hk5); clear hh5 hk5
      go_wp2_with fail
      refine (implDotAny xs ys g4 g5 n m _ B5.out A5.out).mono ?_
      rintro e w6 ⟨t, code', rfl, ht, hd⟩
      have K6 := Lib.hid (K5.out.trans hd); have A6 := Lib.hid (A5.out.kept hd); have B6 := Lib.hid (B5.out.kept hd)
      have hcode := (dotR_eqn xs ys n m s t code code' S3.out ht).2
      have E6 := Lib.hid (dotR_eqn xs ys n m s t code code' S3.out ht).1
      clear ht hd
      subst hcode
      go_wp2_with fail
      refine (cv2 _ _ (eqn_symm E6.out) _ _ _).mono ?_
      rintro e w7 ⟨rfl, rfl⟩
      go_wp2_with fail
      refine (toF_any a n c xs _ hn (HX.out.kept ((K6.out.cvW _).cvW _))).mono ?_
      rintro e w8 ⟨g8, rfl, hh8, hk8⟩
      have A8 := Lib.hid hh8; have J8 := Lib.hid ((((Kept.refl _).cvW _).cvW _).trans hk8); have K8 := Lib.hid (K6.out.trans J8.out); clear hh8 hk8
      go_wp2_with fail
      refine (eqF_self xs g4 g8 n _ hn (B6.out.kept J8.out) A8.out).mono ?_
      rintro e w9 ⟨rfl, hd9⟩
      have K9 := Lib.hid (K8.out.drawn hd9); have J9 := Lib.hid (J8.out.drawn hd9); clear hd9
      go_wp2_with fail
      refine (toF_any b m d ys _ hm (HY.out.kept K9.out)).mono ?_
      rintro e w10 ⟨g10, rfl, hh10, hk10⟩
      have A10 := Lib.hid hh10; have K10 := Lib.hid (K9.out.trans hk10); have J10 := Lib.hid (J9.out.trans hk10); clear hh10 hk10
      go_wp2_with fail
      refine (eqF_self ys g5 g10 m _ hm (A6.out.kept J10.out) A10.out).mono ?_
      rintro e w11 ⟨rfl, hd11⟩
      have K11 := Lib.hid (K10.out.drawn hd11); clear hd11
      go_wp2
      go_ret
      exact ⟨rfl, K11.out⟩
    · have hm' : 1048576 < m := by omega
      go_enter Try.func9, Try.ntmps9
      go_wp2
      go_ret
      exact ⟨rfl, Below.refl _ _⟩
  · have hn' : 1048576 < n := by omega
    go_enter Try.func9, Try.ntmps9
    go_wp2
    go_ret
    exact ⟨rfl, Below.refl _ _⟩
end Go.Proofs.Ytjhmamkbdcfcoaa
