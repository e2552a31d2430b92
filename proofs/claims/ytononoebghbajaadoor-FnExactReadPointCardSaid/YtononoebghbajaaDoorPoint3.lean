/-
  ReadPoint: the reference's side; the law's walk.
-/
import Derived.Test.YtononoebghbajaaDoorPoint2
set_option linter.unusedSimpArgs false
set_option linter.unusedVariables false
namespace Go.Proofs.YtononoebghbajaaDoor
open Go.RowKit

theorem sp_len : ∀ (l cur : List UInt8), ∀ x ∈ sp cur l, x.length ≤ cur.length + l.length
  | [], cur, x, h => by
    simp only [sp, List.mem_singleton] at h
    subst h
    simp
  | c :: r, cur, x, h => by
    simp only [sp] at h
    split at h
    · rcases List.mem_cons.1 h with rfl | h
      · simp
      · have := sp_len r [] x h
        simp only [List.length_nil, Nat.zero_add] at this
        simp only [List.length_cons]
        omega
    · have := sp_len r _ x h
      simp only [List.length_append, List.length_cons, List.length_nil] at this ⊢
      omega
/-- the reference's reading, with its word on it -/
def PointB (t : ByteArray) (w : World) (e : Ending) (w' : World) : Prop := ∃ u v : Nat, (e = .returned (.tuple #[.complex .f32 u v, .bool (pok t)]) ∧ (pok t = true → eqn u (pre t) ∧ eqn v (pim t))) ∧ Kept w w'
set_option maxHeartbeats 8000000 in
theorem specPointB (t : ByteArray) (ht : t.size ≤ 1048576) (w : World) :
    Calls Tryd.prog 25 #[.string t] w (PointB t w) := by
  have HS := Lib.hid (splitOk t ht w)
  have HR := Lib.hid specReadB
  have HQ1 : Hid (∀ (a b : ByteArray), sp [] t.data.toList = [a.data.toList, b.data.toList] → ∀ (u v : Nat) (w' : World), (rok a = true → eqn u (refB a)) → (rok b = true → eqn v (refB b)) → Kept w w' → PointB t w (.returned (.tuple #[.complex .f32 u v, .bool (rok a && rok b)])) w') := by
    refine Lib.hid fun a b h u v w' hu hv hk => ?_
    have e : pok t = (rok a && rok b) := pok_two h
    refine ⟨u, v, ⟨by rw [e], fun hp => ?_⟩, hk⟩
    have hp' := hp
    rw [e, Bool.and_eq_true] at hp'
    unfold pre pim
    rw [hp, h]
    exact ⟨hu hp'.1, hv hp'.2⟩
  have HQ2 : Hid ((sp [] t.data.toList).length ≠ 2 → ∀ w', Kept w w' → PointB t w (.returned (.tuple #[.complex .f32 0 0, .bool false])) w') := by
    refine Lib.hid fun h w' hk => ⟨0, 0, ⟨by rw [pok_len h], fun hp => ?_⟩, hk⟩
    rw [pok_len h] at hp
    cases hp
  generalize PointB t w = Q at *
  have HT := Lib.hid ht
  clear ht
  go_enter Tryd.func25, Tryd.ntmps25
  go_wp2_with fail
  refine HS.out.mono ?_
  rintro _ w1 ⟨v, ws, rfl, h1, h2, h3⟩
  have hpos : 0 < ws.length := by
    have := sp_pos t.data.toList []
    rw [← h1, toL, List.length_map] at this
    omega
  have hmax : ws.length ≤ 9223372036854775807 := by
    rcases h2.2 with ⟨_, h0⟩ | ⟨g, cap, cur, _, _, _, ha, hb, _⟩
    · omega
    · unfold maxLen at hb; omega
  obtain ⟨g, cap, rfl, -, -⟩ := World.ownsRow.form h2 hpos
  have G := Lib.hid (And.intro h1 (And.intro h2 h3))
  clear h1 h2 h3 hpos HS
  by_cases hn : ws.length = 2
  · match ws, hn, G with
    | [a, b], _, G =>
      have ha : Hid (a.size ≤ 9223372036854775807 ∧ b.size ≤ 9223372036854775807) := by
        have e1 := G.out.1
        have l1 := sp_len t.data.toList [] a.data.toList (by rw [← e1]; simp [toL])
        have l2 := sp_len t.data.toList [] b.data.toList (by rw [← e1]; simp [toL])
        rw [size_list, size_list] at l1 l2
        have := HT.out
        simp only [List.length_nil] at l1 l2
        exact Lib.hid ⟨by omega, by omega⟩
      have c0 : w1.cell? ⟨g, 0, none⟩ = some (.string a) := World.ownsRow.cellAt G.out.2.1 0 (by simp)
      have c1 : w1.cell? ⟨g, 1, none⟩ = some (.string b) := World.ownsRow.cellAt G.out.2.1 1 (by simp)
      clear hn hmax
      go_wp2_with fail
      refine (HR.out a ha.out.1 _).mono ?_
      rintro _ w2 ⟨u, ⟨rfl, hu⟩, hk⟩
      have c1 := hk.cell c1
      have K2 := Lib.hid (Kept.trans G.out.2.2 hk)
      have U := Lib.hid hu
      clear hu hk c0
      go_wp2_with fail
      refine (HR.out b ha.out.2 _).mono ?_
      rintro _ w3 ⟨v, ⟨rfl, hv⟩, hk⟩
      have K3 := Lib.hid (Kept.trans K2.out hk)
      have V := Lib.hid hv
      clear hv hk c1 K2
      have HF := Lib.hid (HQ1.out a b G.out.1.symm u v w3 U.out V.out K3.out)
      generalize rok b = rb at *
      generalize rok a = ra at *
      clear U V ha HR HQ1 HQ2 G K3
      cases ra
      · go_wp2
        exact HF.out
      · go_wp2
        exact HF.out
  · have hne : ((ws.length : Int) == 2) = false := by rw [beq_eq_false_iff_ne]; omega
    have HB := Lib.hid (HQ2.out (by rw [← G.out.1, toL, List.length_map]; exact hn) _ G.out.2.2)
    clear hn
    go_wp2
    exact HB.out
set_option maxHeartbeats 4000000 in
theorem specPointAll (t : ByteArray) (ht : t.size ≤ 1048576) (w : World) :
    Calls Tryd.prog 12 #[.string t] w (PointOut t w) := by
  have HB := Lib.hid (specPointB t ht w)
  have HQ1 : Hid (pok t = true → ∀ u v w', eqn u (pre t) → eqn v (pim t) → Kept w w' → PointOut t w (.returned (.tuple #[.complex .f32 u v, .int .i64 0])) w') := by
    refine Lib.hid fun hr u v w' h1 h2 h3 => ⟨u, v, ⟨?_, h1, h2⟩, h3⟩
    unfold pcode; rw [hr]; rfl
  have HQ2 := Lib.hid (fun (h : pok t = false) w' (hk : Kept w w') => point_bad h hk)
  generalize PointOut t w = Q at *
  clear ht
  go_enter Tryd.func12, Tryd.ntmps12
  go_wp2_with fail
  refine HB.out.mono ?_
  rintro _ w1 ⟨u, v, ⟨rfl, h⟩, hk⟩
  have H := Lib.hid (And.intro h hk)
  clear h hk HB
  cases hr : pok t
  · have HR := Lib.hid hr
    clear hr
    go_wp2
    exact HQ2.out HR.out _ H.out.2
  · have HR := Lib.hid hr
    clear hr
    go_wp2
    exact HQ1.out HR.out _ _ _ (H.out.1 HR.out).1 (H.out.1 HR.out).2 H.out.2
set_option maxHeartbeats 4000000 in
theorem lawPoint (t : ByteArray) (ws : t.size ≤ 9223372036854775807) (w : World) (hE : Errs w) (hT : Tab16 w) :
    Calls Tryd.prog 5 #[.string t] w fun e w' => e = .returned (.bool true) ∧ Kept w w' := by
  by_cases hbig : 1048576 < t.size
  · have hb : (1048576 : Int) < (t.size : Int) := by omega
    clear hE hT hbig
    go_enter Tryd.func5, Tryd.ntmps5
    go_wp2
    go_ret
    exact ⟨rfl, Kept.refl _⟩
  · have hb : (t.size : Int) ≤ 1048576 := by omega
    have HS := Lib.hid (specPointAll t (by omega) w)
    have HI := Lib.hid (fun w1 (h : Kept w w1) => implPoint t (by omega) w1 (hE.kept h) (h.cell hT))
    have HC := Lib.hid (fun a b a' b' (h : eqn a a') (h' : eqn b b') => cvC2 a b a' b' h h')
    have hc := fun a b w => run_ccv (P := Tryd.prog) 30 34 a b w (by kernel_rfl) Tryd.underlying34
    clear hE hT hbig ws
    go_enter Tryd.func5, Tryd.ntmps5
    go_wp2_with fail
    refine HS.out.mono ?_
    rintro _ w1 ⟨u, v, ⟨rfl, h1, h2⟩, hk⟩
    have H1 := Lib.hid (And.intro h1 (And.intro h2 hk))
    clear h1 h2 hk HS
    go_wp2_with fail
    refine (HI.out _ H1.out.2.2).mono ?_
    rintro _ w2 ⟨u', v', ⟨rfl, h1, h2⟩, hk⟩
    have H2 := Lib.hid (And.intro (eqn_trans h1 H1.out.1) (And.intro (eqn_trans h2 H1.out.2.1) (Kept.trans H1.out.2.2 hk)))
    clear h1 h2 hk HI
    generalize pcode t = rc at *
    go_wp2_with (go_at_call 14; refine (HC.out _ _ _ _ H2.out.1 H2.out.2.1 _ _ _ _ _).mono ?_; rintro e w' ⟨rfl, rfl⟩)
    go_ret
    exact ⟨rfl, by repeat (first | exact H2.out.2.2 | apply Kept.cvW)⟩
end Go.Proofs.YtononoebghbajaaDoor
