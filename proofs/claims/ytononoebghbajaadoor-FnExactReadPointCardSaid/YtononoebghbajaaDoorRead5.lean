/-
  ReadReal: the reference at every text; the law's walk.
-/
import Derived.Test.YtononoebghbajaaDoorRead4
set_option linter.unusedSimpArgs false
set_option linter.unusedVariables false
namespace Go.Proofs.YtononoebghbajaaDoor
open Go.RowKit

set_option maxHeartbeats 4000000 in
theorem specReadB (t : ByteArray) (hmax : t.size ≤ 9223372036854775807) (w : World) :
    Calls Tryd.prog 21 #[.string t] w (ReadB t w) := by
  by_cases ht : t = nanS
  · have H := Lib.hid (refB_nan t ht)
    have hr0 : rok t = true := by subst ht; exact rok_nan
    have hc := nanConv
    have HQ : Hid (∀ u w', eqn u (refB t) → Kept w w' → ReadB t w (.returned (.tuple #[.float .f32 u, .bool true])) w') := by
      refine Lib.hid fun u w' h1 h2 => ⟨u, ⟨?_, fun _ => h1⟩, h2⟩
      rw [hr0]
    clear hr0
    subst ht
    generalize ReadB nanS w = Q at *
    unfold nanS
    go_enter Tryd.func21, Tryd.ntmps21
    go_wp2_with (go_at_call 22; refine (nanCall _).mono ?_; rintro e w' ⟨rfl, rfl⟩)
    exact HQ.out _ _ (H.out _ (nvConv32 _ _)) (Kept.drewN (Kept.refl w) 1)
  · by_cases h8 : t.size = 8
    · exact specRead8 t h8 ht w
    · have HQ : Hid (ReadB t w (.returned (.tuple #[.float .f32 0, .bool false])) w) := by
        have hs : specNum t = none := by unfold specNum; rw [if_neg h8]
        exact Lib.hid ⟨0, ⟨by rw [rok_no ht hs], fun hr => by rw [rok_no ht hs] at hr; cases hr⟩, Kept.refl w⟩
      have h0 := ne_nan ht
      have h1 : ((t.size : Int) == 8) = false := by rw [beq_eq_false_iff_ne]; omega
      generalize ReadB t w = Q at *
      clear ht h8
      go_enter Tryd.func21, Tryd.ntmps21
      go_wp2
      exact HQ.out
set_option maxHeartbeats 4000000 in
theorem specReadAll (t : ByteArray) (hmax : t.size ≤ 9223372036854775807) (w : World) :
    Calls Tryd.prog 9 #[.string t] w (ReadOut t w) := by
  have HB := Lib.hid (specReadB t hmax w)
  have HQ1 : Hid (rok t = true → ∀ u w', eqn u (refB t) → Kept w w' → ReadOut t w (.returned (.tuple #[.float .f32 u, .int .i64 0])) w') := by
    refine Lib.hid fun hr u w' h1 h2 => ⟨u, ⟨?_, h1⟩, h2⟩
    unfold rcode; rw [hr]; rfl
  have HQ2 : Hid (rok t = false → ∀ w', Kept w w' → ReadOut t w (.returned (.tuple #[.float .f32 0, .int .i64 5])) w') := by
    refine Lib.hid fun hr w' h2 => ⟨0, ⟨?_, .inl (refB_bad hr).symm⟩, h2⟩
    unfold rcode; rw [hr]; rfl
  generalize ReadOut t w = Q at *
  clear hmax
  go_enter Tryd.func9, Tryd.ntmps9
  go_wp2_with fail
  refine HB.out.mono ?_
  rintro _ w1 ⟨u, ⟨rfl, h⟩, hk⟩
  have H := Lib.hid (And.intro h hk)
  clear h hk HB
  cases hr : rok t
  · have HR := Lib.hid hr
    clear hr
    go_wp2
    exact HQ2.out HR.out _ H.out.2
  · have HR := Lib.hid hr
    clear hr
    go_wp2
    exact HQ1.out HR.out _ _ (H.out.1 HR.out) H.out.2
theorem eqn_trans {x y r : Nat} (h1 : eqn x r) (h2 : eqn y r) : eqn x y := by
  rcases h1 with rfl | ⟨a, b⟩
  · rcases h2 with rfl | ⟨c, d⟩
    · exact .inl rfl
    · exact .inr ⟨d, c⟩
  · rcases h2 with rfl | ⟨c, d⟩
    · exact .inr ⟨a, b⟩
    · exact .inr ⟨a, c⟩
set_option maxHeartbeats 4000000 in
theorem lawRead (t : ByteArray) (ws : t.size ≤ 9223372036854775807) (w : World) (hE : Errs w) (hT : Tab16 w) :
    Calls Tryd.prog 4 #[.string t] w fun e w' => e = .returned (.bool true) ∧ Kept w w' := by
  by_cases hbig : 1048576 < t.size
  · have hb : (1048576 : Int) < (t.size : Int) := by omega
    clear hE hT hbig
    go_enter Tryd.func4, Tryd.ntmps4
    go_wp2
    go_ret
    exact ⟨rfl, Kept.refl _⟩
  · have hb : (t.size : Int) ≤ 1048576 := by omega
    have HS := Lib.hid (specReadAll t ws w)
    have HI := Lib.hid (fun w1 (h : Kept w w1) => implReadAll t (by omega) w1 (hE.kept h) (h.cell hT))
    have HC := Lib.hid (fun x y (h : eqn x y) => cv2 x y h)
    have hcv := fun a w => run_cv (P := Tryd.prog) 22 28 a w (by kernel_rfl) Tryd.underlying28
    clear hE hT hbig ws
    go_enter Tryd.func4, Tryd.ntmps4
    go_wp2_with fail
    refine HS.out.mono ?_
    rintro _ w1 ⟨u, ⟨rfl, h⟩, hk⟩
    have H1 := Lib.hid (And.intro h hk)
    clear h hk HS
    go_wp2_with fail
    refine (HI.out _ H1.out.2).mono ?_
    rintro _ w2 ⟨v, ⟨rfl, h⟩, hk⟩
    have H2 := Lib.hid (And.intro (eqn_trans h H1.out.1) (Kept.trans H1.out.2 hk))
    clear h hk HI
    generalize rcode t = rc at *
    go_wp2_with (go_at_call 11; refine (HC.out _ _ H2.out.1 _ _ _).mono ?_; rintro e w' ⟨rfl, rfl⟩)
    go_ret
    exact ⟨rfl, by repeat (first | exact H2.out.2 | apply Kept.cvW)⟩
end Go.Proofs.YtononoebghbajaaDoor
