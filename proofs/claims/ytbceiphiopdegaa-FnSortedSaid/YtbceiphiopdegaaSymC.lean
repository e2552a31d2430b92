/-
  Walks for SortReals: Go's merge of two ranges.
-/
import Derived.Test.YtbceiphiopdegaaSymA
set_option linter.unusedSimpArgs false
set_option linter.unusedVariables false
namespace Go.Proofs.Ytbceiphiopdegaa
open Go.RowKit

/-- what the merge leaves -/
def SymOk (g N cap : Nat) (w0 : World) (a m b : Nat) : Prop := ∀ (xs : List Nat) (w : World), Row g N cap w0 xs w → Srt a m xs → Srt m b xs →
    Calls Try.prog 73 #[.slice (some ⟨g, 0, none⟩) N cap, .int .i64 (a : Int), .int .i64 (m : Int), .int .i64 (b : Int), .func (.func 26) #[] #[]] w fun e w' => ∃ ys, (∃ v, e = .returned v) ∧ Row g N cap w0 ys w' ∧ SwR a b xs ys ∧ Srt a b ys
set_option maxRecDepth 100000 in
set_option maxHeartbeats 32000000 in
theorem symC (g N cap a m b : Nat) (hm : a + 2 ≤ m) (hmb : m + 2 ≤ b) (hb : b ≤ N) (hN : N ≤ 1000) (w0 : World) (IH : ∀ a' m' b', b' - a' < b - a → a' < m' → m' < b' → b' ≤ N → SymOk g N cap w0 a' m' b') : SymOk g N cap w0 a m b := by
  intro xs w R hA hS
  have R0 := Lib.hid R
  have HC := Lib.hid compareOk
  have HI := Lib.hid IH
  have HR := Lib.hid (fun a m b h1 h2 h3 ys w => rotOk g N cap a m b h1 h2 h3 hN w0 ys w)
  have hB := Lib.hid (And.intro hm (And.intro hmb (And.intro hb hN)))
  have HA := Lib.hid hA
  have HS := Lib.hid hS
  have t0 : ((m : Int) - (a : Int) == 1) = false := by rw [beq_eq_false_iff_ne]; omega
  have t1 : ((b : Int) - (m : Int) == 1) = false := by rw [beq_eq_false_iff_ne]; omega
  obtain ⟨mid, hmid⟩ : ∃ mid : Nat, mid = (a + b) / 2 := ⟨_, rfl⟩
  have hmidI : ((a : Int) + (b : Int)) / 2 = (mid : Int) := by omega
  obtain ⟨lo, hi, hL⟩ : ∃ lo hi, SLo a m b mid lo hi := by
    by_cases h : mid < m
    · exact ⟨_, _, .inl ⟨h, rfl, rfl⟩⟩
    · exact ⟨_, _, .inr ⟨by omega, rfl, rfl⟩⟩
  have HLL := Lib.hid (hL.lohi hmid (by omega) (by omega))
  have HSL := Lib.hid (And.intro hL hmid)
  have hst : (mid < m ∧ (mid : Int) + (m : Int) - (b : Int) = (lo : Int) ∧ (mid : Int) = (hi : Int)) ∨ (m ≤ mid ∧ (a : Int) = (lo : Int) ∧ (m : Int) = (hi : Int)) := by
    rcases hL with ⟨h1, h2, h3⟩ | ⟨h1, h2, h3⟩
    · exact .inl ⟨h1, by omega, by omega⟩
    · exact .inr ⟨h1, by omega, by omega⟩
  have ha0 : (a : Int) + 2 ≤ (m : Int) := by omega
  have hb0 : (m : Int) + 2 ≤ (b : Int) := by omega
  have hN0 : (b : Int) ≤ (N : Int) := by omega
  have hN1 : (N : Int) ≤ 1000 := by omega
  have ha1 : (0 : Int) ≤ (a : Int) := by omega
  have hmd1 : (a : Int) < (mid : Int) := by omega
  have hmd2 : (mid : Int) < (b : Int) := by omega
  clear R hm hmb hb hN hA hS IH hmid hL
  rcases hst with ⟨hmm, hs1, hs2⟩ | ⟨hmm, hs1, hs2⟩
  · have hc0 : (mid : Int) < (m : Int) := by omega
    have S1 := Lib.hid hs1
    have S2 := Lib.hid hs2
    clear hmm hs1 hs2
    go_enter Try.func73, Try.ntmps73
    go_wp2
    go_loopw [20, 21] (fun vi vj wr => ∃ s r : Nat, lo ≤ s ∧ s ≤ r ∧ r ≤ hi ∧ vi = .int .i64 (s : Int) ∧ vj = .int .i64 (r : Int) ∧ Hid (Row g N cap w0 xs wr ∧ Sea (mid + m - 1) lo hi s r xs)) (fun vi vj _ => (intOf vj).toNat - (intOf vi).toNat)
    case atStart => exact ⟨lo, hi, Nat.le_refl _, HLL.out.1, Nat.le_refl _, by rw [S1.out], by rw [S2.out], Lib.hid ⟨R0.out, fun c h1 h2 => by omega, fun c h1 h2 => by omega⟩⟩
    case round =>
      obtain ⟨s, r, hs1, hs2, hs3, rfl, rfl, H⟩ := hrel
      by_cases hlt : s < r
      · obtain ⟨c, hc⟩ : ∃ c : Nat, c = (s + r) / 2 := ⟨_, rfl⟩
        have hcs : s ≤ c ∧ c < r := by omega
        have hci : ((s : Int) + (r : Int)) / 2 = (c : Int) := by omega
        have hh := hB.out
        have rng := HSL.out.1.range HSL.out.2 (by omega) (by omega) (by omega : lo ≤ c) (by omega : c < hi)
        obtain ⟨pc, hpc⟩ : ∃ pc : Nat, pc = mid + m - 1 - c := ⟨_, rfl⟩
        have hpi : (mid : Int) + (m : Int) - 1 - (c : Int) = (pc : Int) := by omega
        have i0 : (s : Int) < (r : Int) := by omega
        have i1 : (r : Int) ≤ 1000 := by have := HLL.out; omega
        have i2 : (0 : Int) ≤ (s : Int) := by omega
        have cN : c < N := by omega
        have pN : pc < N := by omega
        have cN0 : (c : Int) < (N : Int) := by omega
        have cN1 : (0 : Int) ≤ (c : Int) := by omega
        have pN0 : (pc : Int) < (N : Int) := by omega
        have pN1 : (0 : Int) ≤ (pc : Int) := by omega
        have c1 := H.out.1.cell c cN
        have c2 := H.out.1.cell pc pN
        have HCC := Lib.hid (HC.out _ _ (H.out.1.lt pc pN) (H.out.1.lt c cN))
        have HH := Lib.hid (And.intro hc (And.intro hcs (And.intro hpc hh)))
        clear hc hcs hpc hh rng
        by_cases hl : ky xs pc < ky xs c
        · have hcn : decide (cmpR (va xs pc) (va xs c) < 0) = true := by rw [cmp_negK]; exact decide_eq_true hl
          have HX : Hid (Sea (mid + m - 1) lo hi s c xs) := by
            have h4 := HH.out
            rw [h4.2.2.1] at hl
            exact Lib.hid (H.out.2.down HSL.out.1 HSL.out.2 (by omega) (by omega) HA.out HS.out (by omega) (by omega) hl)
          clear hl
          go_wp2
          go_quiet ((go_at_call 26; exact quiet_left (HCC.out _)))
          go_wp2
          go_roundw
          case rel => have := HH.out; exact ⟨s, c, hs1, by omega, by omega, rfl, rfl, Lib.hid ⟨H.out.1.drewN _, HX.out⟩⟩
          case measure => have := HH.out; simp [intOf]; omega
        · have hcn : decide (cmpR (va xs pc) (va xs c) < 0) = false := by rw [cmp_negK]; exact decide_eq_false hl
          have HX : Hid (Sea (mid + m - 1) lo hi (c + 1) r xs) := by
            have h4 := HH.out
            rw [h4.2.2.1] at hl
            exact Lib.hid (H.out.2.up HSL.out.1 HSL.out.2 (by omega) (by omega) HA.out HS.out hs1 (by omega) (by omega) hl)
          clear hl
          go_wp2
          go_quiet ((go_at_call 26; exact quiet_left (HCC.out _)))
          go_wp2
          go_roundw
          case rel => have := HH.out; exact ⟨c + 1, r, by omega, by omega, hs3, by go_num, rfl, Lib.hid ⟨H.out.1.drewN _, HX.out⟩⟩
          case measure => have := HH.out; simp [intOf]; omega
      · obtain rfl : s = r := by omega
        have hh := hB.out
        have hC := cut_of HSL.out.1 HSL.out.2 (by omega) (by omega) hs1 hs3
        obtain ⟨e, he⟩ : ∃ e : Nat, e = mid + m - s := ⟨_, rfl⟩
        have HSep := Lib.hid (fun zs (h : Rtd s m e xs zs) => Rtd.sep HSL.out.1 HSL.out.2 (by omega) (by omega) hs1 hs3 H.out.2 (by rw [← he]; exact h) HA.out HS.out)
        rw [← he] at hC
        have hei : (mid : Int) + (m : Int) - (s : Int) = (e : Int) := by obtain ⟨c1, c2, c3, c4, c5, c6⟩ := hC; omega
        have HCut := Lib.hid hC
        have i0 : decide ((s : Int) < (s : Int)) = false := decide_eq_false (by omega)
        have i2 : (a : Int) ≤ (s : Int) := by have := hC.1; omega
        have i3 : (e : Int) ≤ (b : Int) := by have := hC.2.2.2.1; omega
        clear hh hC he
        by_cases k1 : s < m ∧ m < e
        · obtain ⟨k1, k2⟩ := k1
          have k1i : (s : Int) < (m : Int) := by omega
          have k2i : (m : Int) < (e : Int) := by omega
          go_wp2_with fail
          refine (HR.out s m e k1 k2 (by omega) xs _ H.out.1).mono ?_
          rintro _ w1 ⟨zs, ⟨v, rfl⟩, hr, hsw, hro⟩
          have hC := HCut.out
          have hz : Rtd s m e xs zs := fun k => ⟨fun q1 q2 => hro k q1 q2, fun q => hsw.2.2.1 k q⟩
          have G : Hid (Row g N cap w0 zs w1 ∧ SwR a b xs zs ∧ Rtd s m e xs zs) := Lib.hid ⟨hr, hsw.mono hC.1 hC.2.2.2.1, hz⟩
          clear hr hsw hro hz hC
          have hC := HCut.out
          have hL1 := G.out.2.2.left hC HS.out
          have hL2 := G.out.2.2.right hC HA.out
          have hsep := HSep.out zs G.out.2.2
          have hlA : Srt a s zs := (HA.out.mono (Nat.le_refl _) hC.2.1).congr (fun k q1 q2 => (G.out.2.2 k).2 (by omega))
          have hlB : Srt e b zs := (HS.out.mono hC.2.2.1 (Nat.le_refl _)).congr (fun k q1 q2 => (G.out.2.2 k).2 (by omega))
          have L := Lib.hid (And.intro hL1 (And.intro hL2 (And.intro hsep (And.intro hlA hlB))))
          clear hL1 hL2 hsep hlA hlB hC
          by_cases p1 : a < s ∧ s < mid
          · obtain ⟨p1, p2⟩ := p1
            have p1i : (a : Int) < (s : Int) := by omega
            have p2i : (s : Int) < (mid : Int) := by omega
            go_wp2_with fail
            refine (HI.out a s mid (by omega) p1 p2 (by omega) zs _ G.out.1 L.out.2.2.2.1 L.out.1).mono ?_
            rintro _ w2 ⟨ws, ⟨v, rfl⟩, hr, hsw, hso⟩
            have G2 := Lib.hid (And.intro hr (And.intro hsw hso))
            clear hr hsw hso
            have hr1 : Srt mid e ws := L.out.2.1.congr (fun k q1 q2 => G2.out.2.1.2.2.1 k (by omega))
            have hr2 : Srt e b ws := L.out.2.2.2.2.congr (fun k q1 q2 => G2.out.2.1.2.2.1 k (by have hC := HCut.out; obtain ⟨c1, c2, c3, c4, c5, c6⟩ := hC; omega))
            have L2 := Lib.hid (And.intro hr1 hr2)
            clear hr1 hr2
            by_cases r1 : mid < e ∧ e < b
            · obtain ⟨r1, r2⟩ := r1
              have r1i : (mid : Int) < (e : Int) := by omega
              have r2i : (e : Int) < (b : Int) := by omega
              go_wp2_with fail
              all_goals
                refine (HI.out mid e b (by omega) r1 r2 (by have := hB.out; omega) ws _ G2.out.1 L2.out.1 L2.out.2).mono ?_
                rintro _ w3 ⟨vs, ⟨v, rfl⟩, hr, hsw, hso⟩
                have F : Hid (Row g N cap w0 vs w3 ∧ SwR a b xs vs ∧ Srt a b vs) := Lib.hid ⟨hr, (G.out.2.1.trans (G2.out.2.1.mono (Nat.le_refl _) (by omega))).trans (hsw.mono (by omega) (Nat.le_refl _)), halves L.out.2.2.1 G2.out.2.1 G2.out.2.2 hsw hso⟩
                clear hr hsw hso
                go_wp2
                all_goals first | (go_end0; exact ⟨vs, ⟨_, rfl⟩, F.out⟩) | exact ⟨vs, ⟨_, rfl⟩, F.out⟩ | exact ⟨⟨_, rfl⟩, F.out⟩ | exact ⟨⟨_, rfl⟩, _, F.out⟩ | (go_end0; exact ⟨⟨_, rfl⟩, F.out⟩) | (go_end0; exact ⟨⟨_, rfl⟩, _, F.out⟩)
            · have F : Hid (Row g N cap w0 ws w2 ∧ SwR a b xs ws ∧ Srt a b ws) := by
                have hC := HCut.out
                have hmr : Srt mid b ws := by
                  by_cases q : mid < e
                  · exact L2.out.1.mono (Nat.le_refl _) (by omega)
                  · exact L2.out.2.mono (by obtain ⟨c1, c2, c3, c4, c5, c6⟩ := hC; omega) (Nat.le_refl _)
                exact Lib.hid ⟨G2.out.1, G.out.2.1.trans (G2.out.2.1.mono (Nat.le_refl _) (by omega)), halves L.out.2.2.1 G2.out.2.1 G2.out.2.2 (SwR.refl _ _ _) hmr⟩
              by_cases r2 : mid < e
              · have r2i : (mid : Int) < (e : Int) := by omega
                have r3i : decide ((e : Int) < (b : Int)) = false := decide_eq_false (by omega)
                have r4i : (b : Int) ≤ (e : Int) := by omega
                clear r1
                go_wp2
                all_goals first | (go_end0; exact ⟨ws, ⟨_, rfl⟩, F.out⟩) | exact ⟨ws, ⟨_, rfl⟩, F.out⟩ | exact ⟨⟨_, rfl⟩, F.out⟩ | exact ⟨⟨_, rfl⟩, _, F.out⟩ | (go_end0; exact ⟨⟨_, rfl⟩, F.out⟩) | (go_end0; exact ⟨⟨_, rfl⟩, _, F.out⟩)
              · have r2i : decide ((mid : Int) < (e : Int)) = false := decide_eq_false (by omega)
                clear r1
                go_wp2
                all_goals first | (go_end0; exact ⟨ws, ⟨_, rfl⟩, F.out⟩) | exact ⟨ws, ⟨_, rfl⟩, F.out⟩ | exact ⟨⟨_, rfl⟩, F.out⟩ | exact ⟨⟨_, rfl⟩, _, F.out⟩ | (go_end0; exact ⟨⟨_, rfl⟩, F.out⟩) | (go_end0; exact ⟨⟨_, rfl⟩, _, F.out⟩)
          · have G2 : Hid (Row g N cap w0 zs w1 ∧ SwR a mid zs zs ∧ Srt a mid zs) := by
              have hC := HCut.out
              refine Lib.hid ⟨G.out.1, SwR.refl _ _ _, ?_⟩
              by_cases q : a < s
              · exact L.out.2.2.2.1.mono (Nat.le_refl _) (by obtain ⟨c1, c2, c3, c4, c5, c6⟩ := hC; omega)
              · exact L.out.1.mono (by omega) (Nat.le_refl _)
            obtain ⟨ws, G2⟩ : ∃ ws, Hid (Row g N cap w0 ws w1 ∧ SwR a mid zs ws ∧ Srt a mid ws) := ⟨zs, G2⟩
            obtain ⟨w2, rfl⟩ : ∃ w2 : World, w2 = w1 := ⟨_, rfl⟩
            by_cases p2 : a < s
            · have p2i : (a : Int) < (s : Int) := by omega
              have p3i : decide ((s : Int) < (mid : Int)) = false := decide_eq_false (by omega)
              have p4i : (mid : Int) ≤ (s : Int) := by omega
              clear p1
              have hr1 : Srt mid e ws := L.out.2.1.congr (fun k q1 q2 => G2.out.2.1.2.2.1 k (by omega))
              have hr2 : Srt e b ws := L.out.2.2.2.2.congr (fun k q1 q2 => G2.out.2.1.2.2.1 k (by have hC := HCut.out; obtain ⟨c1, c2, c3, c4, c5, c6⟩ := hC; omega))
              have L2 := Lib.hid (And.intro hr1 hr2)
              clear hr1 hr2
              by_cases r1 : mid < e ∧ e < b
              · obtain ⟨r1, r2⟩ := r1
                have r1i : (mid : Int) < (e : Int) := by omega
                have r2i : (e : Int) < (b : Int) := by omega
                go_wp2_with fail
                all_goals
                  refine (HI.out mid e b (by omega) r1 r2 (by have := hB.out; omega) ws _ G2.out.1 L2.out.1 L2.out.2).mono ?_
                  rintro _ w3 ⟨vs, ⟨v, rfl⟩, hr, hsw, hso⟩
                  have F : Hid (Row g N cap w0 vs w3 ∧ SwR a b xs vs ∧ Srt a b vs) := Lib.hid ⟨hr, (G.out.2.1.trans (G2.out.2.1.mono (Nat.le_refl _) (by omega))).trans (hsw.mono (by omega) (Nat.le_refl _)), halves L.out.2.2.1 G2.out.2.1 G2.out.2.2 hsw hso⟩
                  clear hr hsw hso
                  go_wp2
                  all_goals first | (go_end0; exact ⟨vs, ⟨_, rfl⟩, F.out⟩) | exact ⟨vs, ⟨_, rfl⟩, F.out⟩ | exact ⟨⟨_, rfl⟩, F.out⟩ | exact ⟨⟨_, rfl⟩, _, F.out⟩ | (go_end0; exact ⟨⟨_, rfl⟩, F.out⟩) | (go_end0; exact ⟨⟨_, rfl⟩, _, F.out⟩)
              · have F : Hid (Row g N cap w0 ws w2 ∧ SwR a b xs ws ∧ Srt a b ws) := by
                  have hC := HCut.out
                  have hmr : Srt mid b ws := by
                    by_cases q : mid < e
                    · exact L2.out.1.mono (Nat.le_refl _) (by omega)
                    · exact L2.out.2.mono (by obtain ⟨c1, c2, c3, c4, c5, c6⟩ := hC; omega) (Nat.le_refl _)
                  exact Lib.hid ⟨G2.out.1, G.out.2.1.trans (G2.out.2.1.mono (Nat.le_refl _) (by omega)), halves L.out.2.2.1 G2.out.2.1 G2.out.2.2 (SwR.refl _ _ _) hmr⟩
                by_cases r2 : mid < e
                · have r2i : (mid : Int) < (e : Int) := by omega
                  have r3i : decide ((e : Int) < (b : Int)) = false := decide_eq_false (by omega)
                  have r4i : (b : Int) ≤ (e : Int) := by omega
                  clear r1
                  go_wp2
                  all_goals first | (go_end0; exact ⟨ws, ⟨_, rfl⟩, F.out⟩) | exact ⟨ws, ⟨_, rfl⟩, F.out⟩ | exact ⟨⟨_, rfl⟩, F.out⟩ | exact ⟨⟨_, rfl⟩, _, F.out⟩ | (go_end0; exact ⟨⟨_, rfl⟩, F.out⟩) | (go_end0; exact ⟨⟨_, rfl⟩, _, F.out⟩)
                · have r2i : decide ((mid : Int) < (e : Int)) = false := decide_eq_false (by omega)
                  clear r1
                  go_wp2
                  all_goals first | (go_end0; exact ⟨ws, ⟨_, rfl⟩, F.out⟩) | exact ⟨ws, ⟨_, rfl⟩, F.out⟩ | exact ⟨⟨_, rfl⟩, F.out⟩ | exact ⟨⟨_, rfl⟩, _, F.out⟩ | (go_end0; exact ⟨⟨_, rfl⟩, F.out⟩) | (go_end0; exact ⟨⟨_, rfl⟩, _, F.out⟩)
            · have p2i : decide ((a : Int) < (s : Int)) = false := decide_eq_false (by omega)
              clear p1
              have hr1 : Srt mid e ws := L.out.2.1.congr (fun k q1 q2 => G2.out.2.1.2.2.1 k (by omega))
              have hr2 : Srt e b ws := L.out.2.2.2.2.congr (fun k q1 q2 => G2.out.2.1.2.2.1 k (by have hC := HCut.out; obtain ⟨c1, c2, c3, c4, c5, c6⟩ := hC; omega))
              have L2 := Lib.hid (And.intro hr1 hr2)
              clear hr1 hr2
              by_cases r1 : mid < e ∧ e < b
              · obtain ⟨r1, r2⟩ := r1
                have r1i : (mid : Int) < (e : Int) := by omega
                have r2i : (e : Int) < (b : Int) := by omega
                go_wp2_with fail
                all_goals
                  refine (HI.out mid e b (by omega) r1 r2 (by have := hB.out; omega) ws _ G2.out.1 L2.out.1 L2.out.2).mono ?_
                  rintro _ w3 ⟨vs, ⟨v, rfl⟩, hr, hsw, hso⟩
                  have F : Hid (Row g N cap w0 vs w3 ∧ SwR a b xs vs ∧ Srt a b vs) := Lib.hid ⟨hr, (G.out.2.1.trans (G2.out.2.1.mono (Nat.le_refl _) (by omega))).trans (hsw.mono (by omega) (Nat.le_refl _)), halves L.out.2.2.1 G2.out.2.1 G2.out.2.2 hsw hso⟩
                  clear hr hsw hso
                  go_wp2
                  all_goals first | (go_end0; exact ⟨vs, ⟨_, rfl⟩, F.out⟩) | exact ⟨vs, ⟨_, rfl⟩, F.out⟩ | exact ⟨⟨_, rfl⟩, F.out⟩ | exact ⟨⟨_, rfl⟩, _, F.out⟩ | (go_end0; exact ⟨⟨_, rfl⟩, F.out⟩) | (go_end0; exact ⟨⟨_, rfl⟩, _, F.out⟩)
              · have F : Hid (Row g N cap w0 ws w2 ∧ SwR a b xs ws ∧ Srt a b ws) := by
                  have hC := HCut.out
                  have hmr : Srt mid b ws := by
                    by_cases q : mid < e
                    · exact L2.out.1.mono (Nat.le_refl _) (by omega)
                    · exact L2.out.2.mono (by obtain ⟨c1, c2, c3, c4, c5, c6⟩ := hC; omega) (Nat.le_refl _)
                  exact Lib.hid ⟨G2.out.1, G.out.2.1.trans (G2.out.2.1.mono (Nat.le_refl _) (by omega)), halves L.out.2.2.1 G2.out.2.1 G2.out.2.2 (SwR.refl _ _ _) hmr⟩
                by_cases r2 : mid < e
                · have r2i : (mid : Int) < (e : Int) := by omega
                  have r3i : decide ((e : Int) < (b : Int)) = false := decide_eq_false (by omega)
                  have r4i : (b : Int) ≤ (e : Int) := by omega
                  clear r1
                  go_wp2
                  all_goals first | (go_end0; exact ⟨ws, ⟨_, rfl⟩, F.out⟩) | exact ⟨ws, ⟨_, rfl⟩, F.out⟩ | exact ⟨⟨_, rfl⟩, F.out⟩ | exact ⟨⟨_, rfl⟩, _, F.out⟩ | (go_end0; exact ⟨⟨_, rfl⟩, F.out⟩) | (go_end0; exact ⟨⟨_, rfl⟩, _, F.out⟩)
                · have r2i : decide ((mid : Int) < (e : Int)) = false := decide_eq_false (by omega)
                  clear r1
                  go_wp2
                  all_goals first | (go_end0; exact ⟨ws, ⟨_, rfl⟩, F.out⟩) | exact ⟨ws, ⟨_, rfl⟩, F.out⟩ | exact ⟨⟨_, rfl⟩, F.out⟩ | exact ⟨⟨_, rfl⟩, _, F.out⟩ | (go_end0; exact ⟨⟨_, rfl⟩, F.out⟩) | (go_end0; exact ⟨⟨_, rfl⟩, _, F.out⟩)
        · have G : Hid (Row g N cap w0 xs wr ∧ SwR a b xs xs ∧ Rtd s m e xs xs) := by
            have hC := HCut.out
            exact Lib.hid ⟨H.out.1, SwR.refl _ _ _, Rtd.still xs (by obtain ⟨c1, c2, c3, c4, c5, c6⟩ := hC; omega) hC.2.1 hC.2.2.1⟩
          obtain ⟨zs, G⟩ : ∃ zs, Hid (Row g N cap w0 zs wr ∧ SwR a b xs zs ∧ Rtd s m e xs zs) := ⟨xs, G⟩
          obtain ⟨w1, rfl⟩ : ∃ w1 : World, w1 = wr := ⟨_, rfl⟩
          by_cases k2 : s < m
          · have k2i : (s : Int) < (m : Int) := by omega
            have k3i : decide ((m : Int) < (e : Int)) = false := decide_eq_false (by omega)
            have k4i : (e : Int) ≤ (m : Int) := by omega
            have k5i : ¬ ((m : Int) < (e : Int)) := by omega
            have k6i : decide ((m : Int) < (mid : Int) + (m : Int) - (s : Int)) = false := decide_eq_false (by omega)
            clear k1
            have hC := HCut.out
            have hL1 := G.out.2.2.left hC HS.out
            have hL2 := G.out.2.2.right hC HA.out
            have hsep := HSep.out zs G.out.2.2
            have hlA : Srt a s zs := (HA.out.mono (Nat.le_refl _) hC.2.1).congr (fun k q1 q2 => (G.out.2.2 k).2 (by omega))
            have hlB : Srt e b zs := (HS.out.mono hC.2.2.1 (Nat.le_refl _)).congr (fun k q1 q2 => (G.out.2.2 k).2 (by omega))
            have L := Lib.hid (And.intro hL1 (And.intro hL2 (And.intro hsep (And.intro hlA hlB))))
            clear hL1 hL2 hsep hlA hlB hC
            by_cases p1 : a < s ∧ s < mid
            · obtain ⟨p1, p2⟩ := p1
              have p1i : (a : Int) < (s : Int) := by omega
              have p2i : (s : Int) < (mid : Int) := by omega
              go_wp2_with fail
              refine (HI.out a s mid (by omega) p1 p2 (by omega) zs _ G.out.1 L.out.2.2.2.1 L.out.1).mono ?_
              rintro _ w2 ⟨ws, ⟨v, rfl⟩, hr, hsw, hso⟩
              have G2 := Lib.hid (And.intro hr (And.intro hsw hso))
              clear hr hsw hso
              have hr1 : Srt mid e ws := L.out.2.1.congr (fun k q1 q2 => G2.out.2.1.2.2.1 k (by omega))
              have hr2 : Srt e b ws := L.out.2.2.2.2.congr (fun k q1 q2 => G2.out.2.1.2.2.1 k (by have hC := HCut.out; obtain ⟨c1, c2, c3, c4, c5, c6⟩ := hC; omega))
              have L2 := Lib.hid (And.intro hr1 hr2)
              clear hr1 hr2
              by_cases r1 : mid < e ∧ e < b
              · obtain ⟨r1, r2⟩ := r1
                have r1i : (mid : Int) < (e : Int) := by omega
                have r2i : (e : Int) < (b : Int) := by omega
                go_wp2_with fail
                all_goals
                  refine (HI.out mid e b (by omega) r1 r2 (by have := hB.out; omega) ws _ G2.out.1 L2.out.1 L2.out.2).mono ?_
                  rintro _ w3 ⟨vs, ⟨v, rfl⟩, hr, hsw, hso⟩
                  have F : Hid (Row g N cap w0 vs w3 ∧ SwR a b xs vs ∧ Srt a b vs) := Lib.hid ⟨hr, (G.out.2.1.trans (G2.out.2.1.mono (Nat.le_refl _) (by omega))).trans (hsw.mono (by omega) (Nat.le_refl _)), halves L.out.2.2.1 G2.out.2.1 G2.out.2.2 hsw hso⟩
                  clear hr hsw hso
                  go_wp2
                  all_goals first | (go_end0; exact ⟨vs, ⟨_, rfl⟩, F.out⟩) | exact ⟨vs, ⟨_, rfl⟩, F.out⟩ | exact ⟨⟨_, rfl⟩, F.out⟩ | exact ⟨⟨_, rfl⟩, _, F.out⟩ | (go_end0; exact ⟨⟨_, rfl⟩, F.out⟩) | (go_end0; exact ⟨⟨_, rfl⟩, _, F.out⟩)
              · have F : Hid (Row g N cap w0 ws w2 ∧ SwR a b xs ws ∧ Srt a b ws) := by
                  have hC := HCut.out
                  have hmr : Srt mid b ws := by
                    by_cases q : mid < e
                    · exact L2.out.1.mono (Nat.le_refl _) (by omega)
                    · exact L2.out.2.mono (by obtain ⟨c1, c2, c3, c4, c5, c6⟩ := hC; omega) (Nat.le_refl _)
                  exact Lib.hid ⟨G2.out.1, G.out.2.1.trans (G2.out.2.1.mono (Nat.le_refl _) (by omega)), halves L.out.2.2.1 G2.out.2.1 G2.out.2.2 (SwR.refl _ _ _) hmr⟩
                by_cases r2 : mid < e
                · have r2i : (mid : Int) < (e : Int) := by omega
                  have r3i : decide ((e : Int) < (b : Int)) = false := decide_eq_false (by omega)
                  have r4i : (b : Int) ≤ (e : Int) := by omega
                  clear r1
                  go_wp2
                  all_goals first | (go_end0; exact ⟨ws, ⟨_, rfl⟩, F.out⟩) | exact ⟨ws, ⟨_, rfl⟩, F.out⟩ | exact ⟨⟨_, rfl⟩, F.out⟩ | exact ⟨⟨_, rfl⟩, _, F.out⟩ | (go_end0; exact ⟨⟨_, rfl⟩, F.out⟩) | (go_end0; exact ⟨⟨_, rfl⟩, _, F.out⟩)
                · have r2i : decide ((mid : Int) < (e : Int)) = false := decide_eq_false (by omega)
                  clear r1
                  go_wp2
                  all_goals first | (go_end0; exact ⟨ws, ⟨_, rfl⟩, F.out⟩) | exact ⟨ws, ⟨_, rfl⟩, F.out⟩ | exact ⟨⟨_, rfl⟩, F.out⟩ | exact ⟨⟨_, rfl⟩, _, F.out⟩ | (go_end0; exact ⟨⟨_, rfl⟩, F.out⟩) | (go_end0; exact ⟨⟨_, rfl⟩, _, F.out⟩)
            · have G2 : Hid (Row g N cap w0 zs w1 ∧ SwR a mid zs zs ∧ Srt a mid zs) := by
                have hC := HCut.out
                refine Lib.hid ⟨G.out.1, SwR.refl _ _ _, ?_⟩
                by_cases q : a < s
                · exact L.out.2.2.2.1.mono (Nat.le_refl _) (by obtain ⟨c1, c2, c3, c4, c5, c6⟩ := hC; omega)
                · exact L.out.1.mono (by omega) (Nat.le_refl _)
              obtain ⟨ws, G2⟩ : ∃ ws, Hid (Row g N cap w0 ws w1 ∧ SwR a mid zs ws ∧ Srt a mid ws) := ⟨zs, G2⟩
              obtain ⟨w2, rfl⟩ : ∃ w2 : World, w2 = w1 := ⟨_, rfl⟩
              by_cases p2 : a < s
              · have p2i : (a : Int) < (s : Int) := by omega
                have p3i : decide ((s : Int) < (mid : Int)) = false := decide_eq_false (by omega)
                have p4i : (mid : Int) ≤ (s : Int) := by omega
                clear p1
                have hr1 : Srt mid e ws := L.out.2.1.congr (fun k q1 q2 => G2.out.2.1.2.2.1 k (by omega))
                have hr2 : Srt e b ws := L.out.2.2.2.2.congr (fun k q1 q2 => G2.out.2.1.2.2.1 k (by have hC := HCut.out; obtain ⟨c1, c2, c3, c4, c5, c6⟩ := hC; omega))
                have L2 := Lib.hid (And.intro hr1 hr2)
                clear hr1 hr2
                by_cases r1 : mid < e ∧ e < b
                · obtain ⟨r1, r2⟩ := r1
                  have r1i : (mid : Int) < (e : Int) := by omega
                  have r2i : (e : Int) < (b : Int) := by omega
                  go_wp2_with fail
                  all_goals
                    refine (HI.out mid e b (by omega) r1 r2 (by have := hB.out; omega) ws _ G2.out.1 L2.out.1 L2.out.2).mono ?_
                    rintro _ w3 ⟨vs, ⟨v, rfl⟩, hr, hsw, hso⟩
                    have F : Hid (Row g N cap w0 vs w3 ∧ SwR a b xs vs ∧ Srt a b vs) := Lib.hid ⟨hr, (G.out.2.1.trans (G2.out.2.1.mono (Nat.le_refl _) (by omega))).trans (hsw.mono (by omega) (Nat.le_refl _)), halves L.out.2.2.1 G2.out.2.1 G2.out.2.2 hsw hso⟩
                    clear hr hsw hso
                    go_wp2
                    all_goals first | (go_end0; exact ⟨vs, ⟨_, rfl⟩, F.out⟩) | exact ⟨vs, ⟨_, rfl⟩, F.out⟩ | exact ⟨⟨_, rfl⟩, F.out⟩ | exact ⟨⟨_, rfl⟩, _, F.out⟩ | (go_end0; exact ⟨⟨_, rfl⟩, F.out⟩) | (go_end0; exact ⟨⟨_, rfl⟩, _, F.out⟩)
                · have F : Hid (Row g N cap w0 ws w2 ∧ SwR a b xs ws ∧ Srt a b ws) := by
                    have hC := HCut.out
                    have hmr : Srt mid b ws := by
                      by_cases q : mid < e
                      · exact L2.out.1.mono (Nat.le_refl _) (by omega)
                      · exact L2.out.2.mono (by obtain ⟨c1, c2, c3, c4, c5, c6⟩ := hC; omega) (Nat.le_refl _)
                    exact Lib.hid ⟨G2.out.1, G.out.2.1.trans (G2.out.2.1.mono (Nat.le_refl _) (by omega)), halves L.out.2.2.1 G2.out.2.1 G2.out.2.2 (SwR.refl _ _ _) hmr⟩
                  by_cases r2 : mid < e
                  · have r2i : (mid : Int) < (e : Int) := by omega
                    have r3i : decide ((e : Int) < (b : Int)) = false := decide_eq_false (by omega)
                    have r4i : (b : Int) ≤ (e : Int) := by omega
                    clear r1
                    go_wp2
                    all_goals first | (go_end0; exact ⟨ws, ⟨_, rfl⟩, F.out⟩) | exact ⟨ws, ⟨_, rfl⟩, F.out⟩ | exact ⟨⟨_, rfl⟩, F.out⟩ | exact ⟨⟨_, rfl⟩, _, F.out⟩ | (go_end0; exact ⟨⟨_, rfl⟩, F.out⟩) | (go_end0; exact ⟨⟨_, rfl⟩, _, F.out⟩)
                  · have r2i : decide ((mid : Int) < (e : Int)) = false := decide_eq_false (by omega)
                    clear r1
                    go_wp2
                    all_goals first | (go_end0; exact ⟨ws, ⟨_, rfl⟩, F.out⟩) | exact ⟨ws, ⟨_, rfl⟩, F.out⟩ | exact ⟨⟨_, rfl⟩, F.out⟩ | exact ⟨⟨_, rfl⟩, _, F.out⟩ | (go_end0; exact ⟨⟨_, rfl⟩, F.out⟩) | (go_end0; exact ⟨⟨_, rfl⟩, _, F.out⟩)
              · have p2i : decide ((a : Int) < (s : Int)) = false := decide_eq_false (by omega)
                clear p1
                have hr1 : Srt mid e ws := L.out.2.1.congr (fun k q1 q2 => G2.out.2.1.2.2.1 k (by omega))
                have hr2 : Srt e b ws := L.out.2.2.2.2.congr (fun k q1 q2 => G2.out.2.1.2.2.1 k (by have hC := HCut.out; obtain ⟨c1, c2, c3, c4, c5, c6⟩ := hC; omega))
                have L2 := Lib.hid (And.intro hr1 hr2)
                clear hr1 hr2
                by_cases r1 : mid < e ∧ e < b
                · obtain ⟨r1, r2⟩ := r1
                  have r1i : (mid : Int) < (e : Int) := by omega
                  have r2i : (e : Int) < (b : Int) := by omega
                  go_wp2_with fail
                  all_goals
                    refine (HI.out mid e b (by omega) r1 r2 (by have := hB.out; omega) ws _ G2.out.1 L2.out.1 L2.out.2).mono ?_
                    rintro _ w3 ⟨vs, ⟨v, rfl⟩, hr, hsw, hso⟩
                    have F : Hid (Row g N cap w0 vs w3 ∧ SwR a b xs vs ∧ Srt a b vs) := Lib.hid ⟨hr, (G.out.2.1.trans (G2.out.2.1.mono (Nat.le_refl _) (by omega))).trans (hsw.mono (by omega) (Nat.le_refl _)), halves L.out.2.2.1 G2.out.2.1 G2.out.2.2 hsw hso⟩
                    clear hr hsw hso
                    go_wp2
                    all_goals first | (go_end0; exact ⟨vs, ⟨_, rfl⟩, F.out⟩) | exact ⟨vs, ⟨_, rfl⟩, F.out⟩ | exact ⟨⟨_, rfl⟩, F.out⟩ | exact ⟨⟨_, rfl⟩, _, F.out⟩ | (go_end0; exact ⟨⟨_, rfl⟩, F.out⟩) | (go_end0; exact ⟨⟨_, rfl⟩, _, F.out⟩)
                · have F : Hid (Row g N cap w0 ws w2 ∧ SwR a b xs ws ∧ Srt a b ws) := by
                    have hC := HCut.out
                    have hmr : Srt mid b ws := by
                      by_cases q : mid < e
                      · exact L2.out.1.mono (Nat.le_refl _) (by omega)
                      · exact L2.out.2.mono (by obtain ⟨c1, c2, c3, c4, c5, c6⟩ := hC; omega) (Nat.le_refl _)
                    exact Lib.hid ⟨G2.out.1, G.out.2.1.trans (G2.out.2.1.mono (Nat.le_refl _) (by omega)), halves L.out.2.2.1 G2.out.2.1 G2.out.2.2 (SwR.refl _ _ _) hmr⟩
                  by_cases r2 : mid < e
                  · have r2i : (mid : Int) < (e : Int) := by omega
                    have r3i : decide ((e : Int) < (b : Int)) = false := decide_eq_false (by omega)
                    have r4i : (b : Int) ≤ (e : Int) := by omega
                    clear r1
                    go_wp2
                    all_goals first | (go_end0; exact ⟨ws, ⟨_, rfl⟩, F.out⟩) | exact ⟨ws, ⟨_, rfl⟩, F.out⟩ | exact ⟨⟨_, rfl⟩, F.out⟩ | exact ⟨⟨_, rfl⟩, _, F.out⟩ | (go_end0; exact ⟨⟨_, rfl⟩, F.out⟩) | (go_end0; exact ⟨⟨_, rfl⟩, _, F.out⟩)
                  · have r2i : decide ((mid : Int) < (e : Int)) = false := decide_eq_false (by omega)
                    clear r1
                    go_wp2
                    all_goals first | (go_end0; exact ⟨ws, ⟨_, rfl⟩, F.out⟩) | exact ⟨ws, ⟨_, rfl⟩, F.out⟩ | exact ⟨⟨_, rfl⟩, F.out⟩ | exact ⟨⟨_, rfl⟩, _, F.out⟩ | (go_end0; exact ⟨⟨_, rfl⟩, F.out⟩) | (go_end0; exact ⟨⟨_, rfl⟩, _, F.out⟩)
          · have k2i : decide ((s : Int) < (m : Int)) = false := decide_eq_false (by omega)
            clear k1
            have hC := HCut.out
            have hL1 := G.out.2.2.left hC HS.out
            have hL2 := G.out.2.2.right hC HA.out
            have hsep := HSep.out zs G.out.2.2
            have hlA : Srt a s zs := (HA.out.mono (Nat.le_refl _) hC.2.1).congr (fun k q1 q2 => (G.out.2.2 k).2 (by omega))
            have hlB : Srt e b zs := (HS.out.mono hC.2.2.1 (Nat.le_refl _)).congr (fun k q1 q2 => (G.out.2.2 k).2 (by omega))
            have L := Lib.hid (And.intro hL1 (And.intro hL2 (And.intro hsep (And.intro hlA hlB))))
            clear hL1 hL2 hsep hlA hlB hC
            by_cases p1 : a < s ∧ s < mid
            · obtain ⟨p1, p2⟩ := p1
              have p1i : (a : Int) < (s : Int) := by omega
              have p2i : (s : Int) < (mid : Int) := by omega
              go_wp2_with fail
              refine (HI.out a s mid (by omega) p1 p2 (by omega) zs _ G.out.1 L.out.2.2.2.1 L.out.1).mono ?_
              rintro _ w2 ⟨ws, ⟨v, rfl⟩, hr, hsw, hso⟩
              have G2 := Lib.hid (And.intro hr (And.intro hsw hso))
              clear hr hsw hso
              have hr1 : Srt mid e ws := L.out.2.1.congr (fun k q1 q2 => G2.out.2.1.2.2.1 k (by omega))
              have hr2 : Srt e b ws := L.out.2.2.2.2.congr (fun k q1 q2 => G2.out.2.1.2.2.1 k (by have hC := HCut.out; obtain ⟨c1, c2, c3, c4, c5, c6⟩ := hC; omega))
              have L2 := Lib.hid (And.intro hr1 hr2)
              clear hr1 hr2
              by_cases r1 : mid < e ∧ e < b
              · obtain ⟨r1, r2⟩ := r1
                have r1i : (mid : Int) < (e : Int) := by omega
                have r2i : (e : Int) < (b : Int) := by omega
                go_wp2_with fail
                all_goals
                  refine (HI.out mid e b (by omega) r1 r2 (by have := hB.out; omega) ws _ G2.out.1 L2.out.1 L2.out.2).mono ?_
                  rintro _ w3 ⟨vs, ⟨v, rfl⟩, hr, hsw, hso⟩
                  have F : Hid (Row g N cap w0 vs w3 ∧ SwR a b xs vs ∧ Srt a b vs) := Lib.hid ⟨hr, (G.out.2.1.trans (G2.out.2.1.mono (Nat.le_refl _) (by omega))).trans (hsw.mono (by omega) (Nat.le_refl _)), halves L.out.2.2.1 G2.out.2.1 G2.out.2.2 hsw hso⟩
                  clear hr hsw hso
                  go_wp2
                  all_goals first | (go_end0; exact ⟨vs, ⟨_, rfl⟩, F.out⟩) | exact ⟨vs, ⟨_, rfl⟩, F.out⟩ | exact ⟨⟨_, rfl⟩, F.out⟩ | exact ⟨⟨_, rfl⟩, _, F.out⟩ | (go_end0; exact ⟨⟨_, rfl⟩, F.out⟩) | (go_end0; exact ⟨⟨_, rfl⟩, _, F.out⟩)
              · have F : Hid (Row g N cap w0 ws w2 ∧ SwR a b xs ws ∧ Srt a b ws) := by
                  have hC := HCut.out
                  have hmr : Srt mid b ws := by
                    by_cases q : mid < e
                    · exact L2.out.1.mono (Nat.le_refl _) (by omega)
                    · exact L2.out.2.mono (by obtain ⟨c1, c2, c3, c4, c5, c6⟩ := hC; omega) (Nat.le_refl _)
                  exact Lib.hid ⟨G2.out.1, G.out.2.1.trans (G2.out.2.1.mono (Nat.le_refl _) (by omega)), halves L.out.2.2.1 G2.out.2.1 G2.out.2.2 (SwR.refl _ _ _) hmr⟩
                by_cases r2 : mid < e
                · have r2i : (mid : Int) < (e : Int) := by omega
                  have r3i : decide ((e : Int) < (b : Int)) = false := decide_eq_false (by omega)
                  have r4i : (b : Int) ≤ (e : Int) := by omega
                  clear r1
                  go_wp2
                  all_goals first | (go_end0; exact ⟨ws, ⟨_, rfl⟩, F.out⟩) | exact ⟨ws, ⟨_, rfl⟩, F.out⟩ | exact ⟨⟨_, rfl⟩, F.out⟩ | exact ⟨⟨_, rfl⟩, _, F.out⟩ | (go_end0; exact ⟨⟨_, rfl⟩, F.out⟩) | (go_end0; exact ⟨⟨_, rfl⟩, _, F.out⟩)
                · have r2i : decide ((mid : Int) < (e : Int)) = false := decide_eq_false (by omega)
                  clear r1
                  go_wp2
                  all_goals first | (go_end0; exact ⟨ws, ⟨_, rfl⟩, F.out⟩) | exact ⟨ws, ⟨_, rfl⟩, F.out⟩ | exact ⟨⟨_, rfl⟩, F.out⟩ | exact ⟨⟨_, rfl⟩, _, F.out⟩ | (go_end0; exact ⟨⟨_, rfl⟩, F.out⟩) | (go_end0; exact ⟨⟨_, rfl⟩, _, F.out⟩)
            · have G2 : Hid (Row g N cap w0 zs w1 ∧ SwR a mid zs zs ∧ Srt a mid zs) := by
                have hC := HCut.out
                refine Lib.hid ⟨G.out.1, SwR.refl _ _ _, ?_⟩
                by_cases q : a < s
                · exact L.out.2.2.2.1.mono (Nat.le_refl _) (by obtain ⟨c1, c2, c3, c4, c5, c6⟩ := hC; omega)
                · exact L.out.1.mono (by omega) (Nat.le_refl _)
              obtain ⟨ws, G2⟩ : ∃ ws, Hid (Row g N cap w0 ws w1 ∧ SwR a mid zs ws ∧ Srt a mid ws) := ⟨zs, G2⟩
              obtain ⟨w2, rfl⟩ : ∃ w2 : World, w2 = w1 := ⟨_, rfl⟩
              by_cases p2 : a < s
              · have p2i : (a : Int) < (s : Int) := by omega
                have p3i : decide ((s : Int) < (mid : Int)) = false := decide_eq_false (by omega)
                have p4i : (mid : Int) ≤ (s : Int) := by omega
                clear p1
                have hr1 : Srt mid e ws := L.out.2.1.congr (fun k q1 q2 => G2.out.2.1.2.2.1 k (by omega))
                have hr2 : Srt e b ws := L.out.2.2.2.2.congr (fun k q1 q2 => G2.out.2.1.2.2.1 k (by have hC := HCut.out; obtain ⟨c1, c2, c3, c4, c5, c6⟩ := hC; omega))
                have L2 := Lib.hid (And.intro hr1 hr2)
                clear hr1 hr2
                by_cases r1 : mid < e ∧ e < b
                · obtain ⟨r1, r2⟩ := r1
                  have r1i : (mid : Int) < (e : Int) := by omega
                  have r2i : (e : Int) < (b : Int) := by omega
                  go_wp2_with fail
                  all_goals
                    refine (HI.out mid e b (by omega) r1 r2 (by have := hB.out; omega) ws _ G2.out.1 L2.out.1 L2.out.2).mono ?_
                    rintro _ w3 ⟨vs, ⟨v, rfl⟩, hr, hsw, hso⟩
                    have F : Hid (Row g N cap w0 vs w3 ∧ SwR a b xs vs ∧ Srt a b vs) := Lib.hid ⟨hr, (G.out.2.1.trans (G2.out.2.1.mono (Nat.le_refl _) (by omega))).trans (hsw.mono (by omega) (Nat.le_refl _)), halves L.out.2.2.1 G2.out.2.1 G2.out.2.2 hsw hso⟩
                    clear hr hsw hso
                    go_wp2
                    all_goals first | (go_end0; exact ⟨vs, ⟨_, rfl⟩, F.out⟩) | exact ⟨vs, ⟨_, rfl⟩, F.out⟩ | exact ⟨⟨_, rfl⟩, F.out⟩ | exact ⟨⟨_, rfl⟩, _, F.out⟩ | (go_end0; exact ⟨⟨_, rfl⟩, F.out⟩) | (go_end0; exact ⟨⟨_, rfl⟩, _, F.out⟩)
                · have F : Hid (Row g N cap w0 ws w2 ∧ SwR a b xs ws ∧ Srt a b ws) := by
                    have hC := HCut.out
                    have hmr : Srt mid b ws := by
                      by_cases q : mid < e
                      · exact L2.out.1.mono (Nat.le_refl _) (by omega)
                      · exact L2.out.2.mono (by obtain ⟨c1, c2, c3, c4, c5, c6⟩ := hC; omega) (Nat.le_refl _)
                    exact Lib.hid ⟨G2.out.1, G.out.2.1.trans (G2.out.2.1.mono (Nat.le_refl _) (by omega)), halves L.out.2.2.1 G2.out.2.1 G2.out.2.2 (SwR.refl _ _ _) hmr⟩
                  by_cases r2 : mid < e
                  · have r2i : (mid : Int) < (e : Int) := by omega
                    have r3i : decide ((e : Int) < (b : Int)) = false := decide_eq_false (by omega)
                    have r4i : (b : Int) ≤ (e : Int) := by omega
                    clear r1
                    go_wp2
                    all_goals first | (go_end0; exact ⟨ws, ⟨_, rfl⟩, F.out⟩) | exact ⟨ws, ⟨_, rfl⟩, F.out⟩ | exact ⟨⟨_, rfl⟩, F.out⟩ | exact ⟨⟨_, rfl⟩, _, F.out⟩ | (go_end0; exact ⟨⟨_, rfl⟩, F.out⟩) | (go_end0; exact ⟨⟨_, rfl⟩, _, F.out⟩)
                  · have r2i : decide ((mid : Int) < (e : Int)) = false := decide_eq_false (by omega)
                    clear r1
                    go_wp2
                    all_goals first | (go_end0; exact ⟨ws, ⟨_, rfl⟩, F.out⟩) | exact ⟨ws, ⟨_, rfl⟩, F.out⟩ | exact ⟨⟨_, rfl⟩, F.out⟩ | exact ⟨⟨_, rfl⟩, _, F.out⟩ | (go_end0; exact ⟨⟨_, rfl⟩, F.out⟩) | (go_end0; exact ⟨⟨_, rfl⟩, _, F.out⟩)
              · have p2i : decide ((a : Int) < (s : Int)) = false := decide_eq_false (by omega)
                clear p1
                have hr1 : Srt mid e ws := L.out.2.1.congr (fun k q1 q2 => G2.out.2.1.2.2.1 k (by omega))
                have hr2 : Srt e b ws := L.out.2.2.2.2.congr (fun k q1 q2 => G2.out.2.1.2.2.1 k (by have hC := HCut.out; obtain ⟨c1, c2, c3, c4, c5, c6⟩ := hC; omega))
                have L2 := Lib.hid (And.intro hr1 hr2)
                clear hr1 hr2
                by_cases r1 : mid < e ∧ e < b
                · obtain ⟨r1, r2⟩ := r1
                  have r1i : (mid : Int) < (e : Int) := by omega
                  have r2i : (e : Int) < (b : Int) := by omega
                  go_wp2_with fail
                  all_goals
                    refine (HI.out mid e b (by omega) r1 r2 (by have := hB.out; omega) ws _ G2.out.1 L2.out.1 L2.out.2).mono ?_
                    rintro _ w3 ⟨vs, ⟨v, rfl⟩, hr, hsw, hso⟩
                    have F : Hid (Row g N cap w0 vs w3 ∧ SwR a b xs vs ∧ Srt a b vs) := Lib.hid ⟨hr, (G.out.2.1.trans (G2.out.2.1.mono (Nat.le_refl _) (by omega))).trans (hsw.mono (by omega) (Nat.le_refl _)), halves L.out.2.2.1 G2.out.2.1 G2.out.2.2 hsw hso⟩
                    clear hr hsw hso
                    go_wp2
                    all_goals first | (go_end0; exact ⟨vs, ⟨_, rfl⟩, F.out⟩) | exact ⟨vs, ⟨_, rfl⟩, F.out⟩ | exact ⟨⟨_, rfl⟩, F.out⟩ | exact ⟨⟨_, rfl⟩, _, F.out⟩ | (go_end0; exact ⟨⟨_, rfl⟩, F.out⟩) | (go_end0; exact ⟨⟨_, rfl⟩, _, F.out⟩)
                · have F : Hid (Row g N cap w0 ws w2 ∧ SwR a b xs ws ∧ Srt a b ws) := by
                    have hC := HCut.out
                    have hmr : Srt mid b ws := by
                      by_cases q : mid < e
                      · exact L2.out.1.mono (Nat.le_refl _) (by omega)
                      · exact L2.out.2.mono (by obtain ⟨c1, c2, c3, c4, c5, c6⟩ := hC; omega) (Nat.le_refl _)
                    exact Lib.hid ⟨G2.out.1, G.out.2.1.trans (G2.out.2.1.mono (Nat.le_refl _) (by omega)), halves L.out.2.2.1 G2.out.2.1 G2.out.2.2 (SwR.refl _ _ _) hmr⟩
                  by_cases r2 : mid < e
                  · have r2i : (mid : Int) < (e : Int) := by omega
                    have r3i : decide ((e : Int) < (b : Int)) = false := decide_eq_false (by omega)
                    have r4i : (b : Int) ≤ (e : Int) := by omega
                    clear r1
                    go_wp2
                    all_goals first | (go_end0; exact ⟨ws, ⟨_, rfl⟩, F.out⟩) | exact ⟨ws, ⟨_, rfl⟩, F.out⟩ | exact ⟨⟨_, rfl⟩, F.out⟩ | exact ⟨⟨_, rfl⟩, _, F.out⟩ | (go_end0; exact ⟨⟨_, rfl⟩, F.out⟩) | (go_end0; exact ⟨⟨_, rfl⟩, _, F.out⟩)
                  · have r2i : decide ((mid : Int) < (e : Int)) = false := decide_eq_false (by omega)
                    clear r1
                    go_wp2
                    all_goals first | (go_end0; exact ⟨ws, ⟨_, rfl⟩, F.out⟩) | exact ⟨ws, ⟨_, rfl⟩, F.out⟩ | exact ⟨⟨_, rfl⟩, F.out⟩ | exact ⟨⟨_, rfl⟩, _, F.out⟩ | (go_end0; exact ⟨⟨_, rfl⟩, F.out⟩) | (go_end0; exact ⟨⟨_, rfl⟩, _, F.out⟩)
  · have hc0 : decide ((mid : Int) < (m : Int)) = false := decide_eq_false (by omega)
    have hc1 : (m : Int) ≤ (mid : Int) := by omega
    have S1 := Lib.hid hs1
    have S2 := Lib.hid hs2
    clear hmm hs1 hs2
    go_enter Try.func73, Try.ntmps73
    go_wp2
    go_loopw [20, 21] (fun vi vj wr => ∃ s r : Nat, lo ≤ s ∧ s ≤ r ∧ r ≤ hi ∧ vi = .int .i64 (s : Int) ∧ vj = .int .i64 (r : Int) ∧ Hid (Row g N cap w0 xs wr ∧ Sea (mid + m - 1) lo hi s r xs)) (fun vi vj _ => (intOf vj).toNat - (intOf vi).toNat)
    case atStart => exact ⟨lo, hi, Nat.le_refl _, HLL.out.1, Nat.le_refl _, by rw [S1.out], by rw [S2.out], Lib.hid ⟨R0.out, fun c h1 h2 => by omega, fun c h1 h2 => by omega⟩⟩
    case round =>
      obtain ⟨s, r, hs1, hs2, hs3, rfl, rfl, H⟩ := hrel
      by_cases hlt : s < r
      · obtain ⟨c, hc⟩ : ∃ c : Nat, c = (s + r) / 2 := ⟨_, rfl⟩
        have hcs : s ≤ c ∧ c < r := by omega
        have hci : ((s : Int) + (r : Int)) / 2 = (c : Int) := by omega
        have hh := hB.out
        have rng := HSL.out.1.range HSL.out.2 (by omega) (by omega) (by omega : lo ≤ c) (by omega : c < hi)
        obtain ⟨pc, hpc⟩ : ∃ pc : Nat, pc = mid + m - 1 - c := ⟨_, rfl⟩
        have hpi : (mid : Int) + (m : Int) - 1 - (c : Int) = (pc : Int) := by omega
        have i0 : (s : Int) < (r : Int) := by omega
        have i1 : (r : Int) ≤ 1000 := by have := HLL.out; omega
        have i2 : (0 : Int) ≤ (s : Int) := by omega
        have cN : c < N := by omega
        have pN : pc < N := by omega
        have cN0 : (c : Int) < (N : Int) := by omega
        have cN1 : (0 : Int) ≤ (c : Int) := by omega
        have pN0 : (pc : Int) < (N : Int) := by omega
        have pN1 : (0 : Int) ≤ (pc : Int) := by omega
        have c1 := H.out.1.cell c cN
        have c2 := H.out.1.cell pc pN
        have HCC := Lib.hid (HC.out _ _ (H.out.1.lt pc pN) (H.out.1.lt c cN))
        have HH := Lib.hid (And.intro hc (And.intro hcs (And.intro hpc hh)))
        clear hc hcs hpc hh rng
        by_cases hl : ky xs pc < ky xs c
        · have hcn : decide (cmpR (va xs pc) (va xs c) < 0) = true := by rw [cmp_negK]; exact decide_eq_true hl
          have HX : Hid (Sea (mid + m - 1) lo hi s c xs) := by
            have h4 := HH.out
            rw [h4.2.2.1] at hl
            exact Lib.hid (H.out.2.down HSL.out.1 HSL.out.2 (by omega) (by omega) HA.out HS.out (by omega) (by omega) hl)
          clear hl
          go_wp2
          go_quiet ((go_at_call 26; exact quiet_left (HCC.out _)))
          go_wp2
          go_roundw
          case rel => have := HH.out; exact ⟨s, c, hs1, by omega, by omega, rfl, rfl, Lib.hid ⟨H.out.1.drewN _, HX.out⟩⟩
          case measure => have := HH.out; simp [intOf]; omega
        · have hcn : decide (cmpR (va xs pc) (va xs c) < 0) = false := by rw [cmp_negK]; exact decide_eq_false hl
          have HX : Hid (Sea (mid + m - 1) lo hi (c + 1) r xs) := by
            have h4 := HH.out
            rw [h4.2.2.1] at hl
            exact Lib.hid (H.out.2.up HSL.out.1 HSL.out.2 (by omega) (by omega) HA.out HS.out hs1 (by omega) (by omega) hl)
          clear hl
          go_wp2
          go_quiet ((go_at_call 26; exact quiet_left (HCC.out _)))
          go_wp2
          go_roundw
          case rel => have := HH.out; exact ⟨c + 1, r, by omega, by omega, hs3, by go_num, rfl, Lib.hid ⟨H.out.1.drewN _, HX.out⟩⟩
          case measure => have := HH.out; simp [intOf]; omega
      · obtain rfl : s = r := by omega
        have hh := hB.out
        have hC := cut_of HSL.out.1 HSL.out.2 (by omega) (by omega) hs1 hs3
        obtain ⟨e, he⟩ : ∃ e : Nat, e = mid + m - s := ⟨_, rfl⟩
        have HSep := Lib.hid (fun zs (h : Rtd s m e xs zs) => Rtd.sep HSL.out.1 HSL.out.2 (by omega) (by omega) hs1 hs3 H.out.2 (by rw [← he]; exact h) HA.out HS.out)
        rw [← he] at hC
        have hei : (mid : Int) + (m : Int) - (s : Int) = (e : Int) := by obtain ⟨c1, c2, c3, c4, c5, c6⟩ := hC; omega
        have HCut := Lib.hid hC
        have i0 : decide ((s : Int) < (s : Int)) = false := decide_eq_false (by omega)
        have i2 : (a : Int) ≤ (s : Int) := by have := hC.1; omega
        have i3 : (e : Int) ≤ (b : Int) := by have := hC.2.2.2.1; omega
        clear hh hC he
        by_cases k1 : s < m ∧ m < e
        · obtain ⟨k1, k2⟩ := k1
          have k1i : (s : Int) < (m : Int) := by omega
          have k2i : (m : Int) < (e : Int) := by omega
          go_wp2_with fail
          refine (HR.out s m e k1 k2 (by omega) xs _ H.out.1).mono ?_
          rintro _ w1 ⟨zs, ⟨v, rfl⟩, hr, hsw, hro⟩
          have hC := HCut.out
          have hz : Rtd s m e xs zs := fun k => ⟨fun q1 q2 => hro k q1 q2, fun q => hsw.2.2.1 k q⟩
          have G : Hid (Row g N cap w0 zs w1 ∧ SwR a b xs zs ∧ Rtd s m e xs zs) := Lib.hid ⟨hr, hsw.mono hC.1 hC.2.2.2.1, hz⟩
          clear hr hsw hro hz hC
          have hC := HCut.out
          have hL1 := G.out.2.2.left hC HS.out
          have hL2 := G.out.2.2.right hC HA.out
          have hsep := HSep.out zs G.out.2.2
          have hlA : Srt a s zs := (HA.out.mono (Nat.le_refl _) hC.2.1).congr (fun k q1 q2 => (G.out.2.2 k).2 (by omega))
          have hlB : Srt e b zs := (HS.out.mono hC.2.2.1 (Nat.le_refl _)).congr (fun k q1 q2 => (G.out.2.2 k).2 (by omega))
          have L := Lib.hid (And.intro hL1 (And.intro hL2 (And.intro hsep (And.intro hlA hlB))))
          clear hL1 hL2 hsep hlA hlB hC
          by_cases p1 : a < s ∧ s < mid
          · obtain ⟨p1, p2⟩ := p1
            have p1i : (a : Int) < (s : Int) := by omega
            have p2i : (s : Int) < (mid : Int) := by omega
            go_wp2_with fail
            refine (HI.out a s mid (by omega) p1 p2 (by omega) zs _ G.out.1 L.out.2.2.2.1 L.out.1).mono ?_
            rintro _ w2 ⟨ws, ⟨v, rfl⟩, hr, hsw, hso⟩
            have G2 := Lib.hid (And.intro hr (And.intro hsw hso))
            clear hr hsw hso
            have hr1 : Srt mid e ws := L.out.2.1.congr (fun k q1 q2 => G2.out.2.1.2.2.1 k (by omega))
            have hr2 : Srt e b ws := L.out.2.2.2.2.congr (fun k q1 q2 => G2.out.2.1.2.2.1 k (by have hC := HCut.out; obtain ⟨c1, c2, c3, c4, c5, c6⟩ := hC; omega))
            have L2 := Lib.hid (And.intro hr1 hr2)
            clear hr1 hr2
            by_cases r1 : mid < e ∧ e < b
            · obtain ⟨r1, r2⟩ := r1
              have r1i : (mid : Int) < (e : Int) := by omega
              have r2i : (e : Int) < (b : Int) := by omega
              go_wp2_with fail
              all_goals
                refine (HI.out mid e b (by omega) r1 r2 (by have := hB.out; omega) ws _ G2.out.1 L2.out.1 L2.out.2).mono ?_
                rintro _ w3 ⟨vs, ⟨v, rfl⟩, hr, hsw, hso⟩
                have F : Hid (Row g N cap w0 vs w3 ∧ SwR a b xs vs ∧ Srt a b vs) := Lib.hid ⟨hr, (G.out.2.1.trans (G2.out.2.1.mono (Nat.le_refl _) (by omega))).trans (hsw.mono (by omega) (Nat.le_refl _)), halves L.out.2.2.1 G2.out.2.1 G2.out.2.2 hsw hso⟩
                clear hr hsw hso
                go_wp2
                all_goals first | (go_end0; exact ⟨vs, ⟨_, rfl⟩, F.out⟩) | exact ⟨vs, ⟨_, rfl⟩, F.out⟩ | exact ⟨⟨_, rfl⟩, F.out⟩ | exact ⟨⟨_, rfl⟩, _, F.out⟩ | (go_end0; exact ⟨⟨_, rfl⟩, F.out⟩) | (go_end0; exact ⟨⟨_, rfl⟩, _, F.out⟩)
            · have F : Hid (Row g N cap w0 ws w2 ∧ SwR a b xs ws ∧ Srt a b ws) := by
                have hC := HCut.out
                have hmr : Srt mid b ws := by
                  by_cases q : mid < e
                  · exact L2.out.1.mono (Nat.le_refl _) (by omega)
                  · exact L2.out.2.mono (by obtain ⟨c1, c2, c3, c4, c5, c6⟩ := hC; omega) (Nat.le_refl _)
                exact Lib.hid ⟨G2.out.1, G.out.2.1.trans (G2.out.2.1.mono (Nat.le_refl _) (by omega)), halves L.out.2.2.1 G2.out.2.1 G2.out.2.2 (SwR.refl _ _ _) hmr⟩
              by_cases r2 : mid < e
              · have r2i : (mid : Int) < (e : Int) := by omega
                have r3i : decide ((e : Int) < (b : Int)) = false := decide_eq_false (by omega)
                have r4i : (b : Int) ≤ (e : Int) := by omega
                clear r1
                go_wp2
                all_goals first | (go_end0; exact ⟨ws, ⟨_, rfl⟩, F.out⟩) | exact ⟨ws, ⟨_, rfl⟩, F.out⟩ | exact ⟨⟨_, rfl⟩, F.out⟩ | exact ⟨⟨_, rfl⟩, _, F.out⟩ | (go_end0; exact ⟨⟨_, rfl⟩, F.out⟩) | (go_end0; exact ⟨⟨_, rfl⟩, _, F.out⟩)
              · have r2i : decide ((mid : Int) < (e : Int)) = false := decide_eq_false (by omega)
                clear r1
                go_wp2
                all_goals first | (go_end0; exact ⟨ws, ⟨_, rfl⟩, F.out⟩) | exact ⟨ws, ⟨_, rfl⟩, F.out⟩ | exact ⟨⟨_, rfl⟩, F.out⟩ | exact ⟨⟨_, rfl⟩, _, F.out⟩ | (go_end0; exact ⟨⟨_, rfl⟩, F.out⟩) | (go_end0; exact ⟨⟨_, rfl⟩, _, F.out⟩)
          · have G2 : Hid (Row g N cap w0 zs w1 ∧ SwR a mid zs zs ∧ Srt a mid zs) := by
              have hC := HCut.out
              refine Lib.hid ⟨G.out.1, SwR.refl _ _ _, ?_⟩
              by_cases q : a < s
              · exact L.out.2.2.2.1.mono (Nat.le_refl _) (by obtain ⟨c1, c2, c3, c4, c5, c6⟩ := hC; omega)
              · exact L.out.1.mono (by omega) (Nat.le_refl _)
            obtain ⟨ws, G2⟩ : ∃ ws, Hid (Row g N cap w0 ws w1 ∧ SwR a mid zs ws ∧ Srt a mid ws) := ⟨zs, G2⟩
            obtain ⟨w2, rfl⟩ : ∃ w2 : World, w2 = w1 := ⟨_, rfl⟩
            by_cases p2 : a < s
            · have p2i : (a : Int) < (s : Int) := by omega
              have p3i : decide ((s : Int) < (mid : Int)) = false := decide_eq_false (by omega)
              have p4i : (mid : Int) ≤ (s : Int) := by omega
              clear p1
              have hr1 : Srt mid e ws := L.out.2.1.congr (fun k q1 q2 => G2.out.2.1.2.2.1 k (by omega))
              have hr2 : Srt e b ws := L.out.2.2.2.2.congr (fun k q1 q2 => G2.out.2.1.2.2.1 k (by have hC := HCut.out; obtain ⟨c1, c2, c3, c4, c5, c6⟩ := hC; omega))
              have L2 := Lib.hid (And.intro hr1 hr2)
              clear hr1 hr2
              by_cases r1 : mid < e ∧ e < b
              · obtain ⟨r1, r2⟩ := r1
                have r1i : (mid : Int) < (e : Int) := by omega
                have r2i : (e : Int) < (b : Int) := by omega
                go_wp2_with fail
                all_goals
                  refine (HI.out mid e b (by omega) r1 r2 (by have := hB.out; omega) ws _ G2.out.1 L2.out.1 L2.out.2).mono ?_
                  rintro _ w3 ⟨vs, ⟨v, rfl⟩, hr, hsw, hso⟩
                  have F : Hid (Row g N cap w0 vs w3 ∧ SwR a b xs vs ∧ Srt a b vs) := Lib.hid ⟨hr, (G.out.2.1.trans (G2.out.2.1.mono (Nat.le_refl _) (by omega))).trans (hsw.mono (by omega) (Nat.le_refl _)), halves L.out.2.2.1 G2.out.2.1 G2.out.2.2 hsw hso⟩
                  clear hr hsw hso
                  go_wp2
                  all_goals first | (go_end0; exact ⟨vs, ⟨_, rfl⟩, F.out⟩) | exact ⟨vs, ⟨_, rfl⟩, F.out⟩ | exact ⟨⟨_, rfl⟩, F.out⟩ | exact ⟨⟨_, rfl⟩, _, F.out⟩ | (go_end0; exact ⟨⟨_, rfl⟩, F.out⟩) | (go_end0; exact ⟨⟨_, rfl⟩, _, F.out⟩)
              · have F : Hid (Row g N cap w0 ws w2 ∧ SwR a b xs ws ∧ Srt a b ws) := by
                  have hC := HCut.out
                  have hmr : Srt mid b ws := by
                    by_cases q : mid < e
                    · exact L2.out.1.mono (Nat.le_refl _) (by omega)
                    · exact L2.out.2.mono (by obtain ⟨c1, c2, c3, c4, c5, c6⟩ := hC; omega) (Nat.le_refl _)
                  exact Lib.hid ⟨G2.out.1, G.out.2.1.trans (G2.out.2.1.mono (Nat.le_refl _) (by omega)), halves L.out.2.2.1 G2.out.2.1 G2.out.2.2 (SwR.refl _ _ _) hmr⟩
                by_cases r2 : mid < e
                · have r2i : (mid : Int) < (e : Int) := by omega
                  have r3i : decide ((e : Int) < (b : Int)) = false := decide_eq_false (by omega)
                  have r4i : (b : Int) ≤ (e : Int) := by omega
                  clear r1
                  go_wp2
                  all_goals first | (go_end0; exact ⟨ws, ⟨_, rfl⟩, F.out⟩) | exact ⟨ws, ⟨_, rfl⟩, F.out⟩ | exact ⟨⟨_, rfl⟩, F.out⟩ | exact ⟨⟨_, rfl⟩, _, F.out⟩ | (go_end0; exact ⟨⟨_, rfl⟩, F.out⟩) | (go_end0; exact ⟨⟨_, rfl⟩, _, F.out⟩)
                · have r2i : decide ((mid : Int) < (e : Int)) = false := decide_eq_false (by omega)
                  clear r1
                  go_wp2
                  all_goals first | (go_end0; exact ⟨ws, ⟨_, rfl⟩, F.out⟩) | exact ⟨ws, ⟨_, rfl⟩, F.out⟩ | exact ⟨⟨_, rfl⟩, F.out⟩ | exact ⟨⟨_, rfl⟩, _, F.out⟩ | (go_end0; exact ⟨⟨_, rfl⟩, F.out⟩) | (go_end0; exact ⟨⟨_, rfl⟩, _, F.out⟩)
            · have p2i : decide ((a : Int) < (s : Int)) = false := decide_eq_false (by omega)
              clear p1
              have hr1 : Srt mid e ws := L.out.2.1.congr (fun k q1 q2 => G2.out.2.1.2.2.1 k (by omega))
              have hr2 : Srt e b ws := L.out.2.2.2.2.congr (fun k q1 q2 => G2.out.2.1.2.2.1 k (by have hC := HCut.out; obtain ⟨c1, c2, c3, c4, c5, c6⟩ := hC; omega))
              have L2 := Lib.hid (And.intro hr1 hr2)
              clear hr1 hr2
              by_cases r1 : mid < e ∧ e < b
              · obtain ⟨r1, r2⟩ := r1
                have r1i : (mid : Int) < (e : Int) := by omega
                have r2i : (e : Int) < (b : Int) := by omega
                go_wp2_with fail
                all_goals
                  refine (HI.out mid e b (by omega) r1 r2 (by have := hB.out; omega) ws _ G2.out.1 L2.out.1 L2.out.2).mono ?_
                  rintro _ w3 ⟨vs, ⟨v, rfl⟩, hr, hsw, hso⟩
                  have F : Hid (Row g N cap w0 vs w3 ∧ SwR a b xs vs ∧ Srt a b vs) := Lib.hid ⟨hr, (G.out.2.1.trans (G2.out.2.1.mono (Nat.le_refl _) (by omega))).trans (hsw.mono (by omega) (Nat.le_refl _)), halves L.out.2.2.1 G2.out.2.1 G2.out.2.2 hsw hso⟩
                  clear hr hsw hso
                  go_wp2
                  all_goals first | (go_end0; exact ⟨vs, ⟨_, rfl⟩, F.out⟩) | exact ⟨vs, ⟨_, rfl⟩, F.out⟩ | exact ⟨⟨_, rfl⟩, F.out⟩ | exact ⟨⟨_, rfl⟩, _, F.out⟩ | (go_end0; exact ⟨⟨_, rfl⟩, F.out⟩) | (go_end0; exact ⟨⟨_, rfl⟩, _, F.out⟩)
              · have F : Hid (Row g N cap w0 ws w2 ∧ SwR a b xs ws ∧ Srt a b ws) := by
                  have hC := HCut.out
                  have hmr : Srt mid b ws := by
                    by_cases q : mid < e
                    · exact L2.out.1.mono (Nat.le_refl _) (by omega)
                    · exact L2.out.2.mono (by obtain ⟨c1, c2, c3, c4, c5, c6⟩ := hC; omega) (Nat.le_refl _)
                  exact Lib.hid ⟨G2.out.1, G.out.2.1.trans (G2.out.2.1.mono (Nat.le_refl _) (by omega)), halves L.out.2.2.1 G2.out.2.1 G2.out.2.2 (SwR.refl _ _ _) hmr⟩
                by_cases r2 : mid < e
                · have r2i : (mid : Int) < (e : Int) := by omega
                  have r3i : decide ((e : Int) < (b : Int)) = false := decide_eq_false (by omega)
                  have r4i : (b : Int) ≤ (e : Int) := by omega
                  clear r1
                  go_wp2
                  all_goals first | (go_end0; exact ⟨ws, ⟨_, rfl⟩, F.out⟩) | exact ⟨ws, ⟨_, rfl⟩, F.out⟩ | exact ⟨⟨_, rfl⟩, F.out⟩ | exact ⟨⟨_, rfl⟩, _, F.out⟩ | (go_end0; exact ⟨⟨_, rfl⟩, F.out⟩) | (go_end0; exact ⟨⟨_, rfl⟩, _, F.out⟩)
                · have r2i : decide ((mid : Int) < (e : Int)) = false := decide_eq_false (by omega)
                  clear r1
                  go_wp2
                  all_goals first | (go_end0; exact ⟨ws, ⟨_, rfl⟩, F.out⟩) | exact ⟨ws, ⟨_, rfl⟩, F.out⟩ | exact ⟨⟨_, rfl⟩, F.out⟩ | exact ⟨⟨_, rfl⟩, _, F.out⟩ | (go_end0; exact ⟨⟨_, rfl⟩, F.out⟩) | (go_end0; exact ⟨⟨_, rfl⟩, _, F.out⟩)
        · have G : Hid (Row g N cap w0 xs wr ∧ SwR a b xs xs ∧ Rtd s m e xs xs) := by
            have hC := HCut.out
            exact Lib.hid ⟨H.out.1, SwR.refl _ _ _, Rtd.still xs (by obtain ⟨c1, c2, c3, c4, c5, c6⟩ := hC; omega) hC.2.1 hC.2.2.1⟩
          obtain ⟨zs, G⟩ : ∃ zs, Hid (Row g N cap w0 zs wr ∧ SwR a b xs zs ∧ Rtd s m e xs zs) := ⟨xs, G⟩
          obtain ⟨w1, rfl⟩ : ∃ w1 : World, w1 = wr := ⟨_, rfl⟩
          by_cases k2 : s < m
          · have k2i : (s : Int) < (m : Int) := by omega
            have k3i : decide ((m : Int) < (e : Int)) = false := decide_eq_false (by omega)
            have k4i : (e : Int) ≤ (m : Int) := by omega
            have k5i : ¬ ((m : Int) < (e : Int)) := by omega
            have k6i : decide ((m : Int) < (mid : Int) + (m : Int) - (s : Int)) = false := decide_eq_false (by omega)
            clear k1
            have hC := HCut.out
            have hL1 := G.out.2.2.left hC HS.out
            have hL2 := G.out.2.2.right hC HA.out
            have hsep := HSep.out zs G.out.2.2
            have hlA : Srt a s zs := (HA.out.mono (Nat.le_refl _) hC.2.1).congr (fun k q1 q2 => (G.out.2.2 k).2 (by omega))
            have hlB : Srt e b zs := (HS.out.mono hC.2.2.1 (Nat.le_refl _)).congr (fun k q1 q2 => (G.out.2.2 k).2 (by omega))
            have L := Lib.hid (And.intro hL1 (And.intro hL2 (And.intro hsep (And.intro hlA hlB))))
            clear hL1 hL2 hsep hlA hlB hC
            by_cases p1 : a < s ∧ s < mid
            · obtain ⟨p1, p2⟩ := p1
              have p1i : (a : Int) < (s : Int) := by omega
              have p2i : (s : Int) < (mid : Int) := by omega
              go_wp2_with fail
              refine (HI.out a s mid (by omega) p1 p2 (by omega) zs _ G.out.1 L.out.2.2.2.1 L.out.1).mono ?_
              rintro _ w2 ⟨ws, ⟨v, rfl⟩, hr, hsw, hso⟩
              have G2 := Lib.hid (And.intro hr (And.intro hsw hso))
              clear hr hsw hso
              have hr1 : Srt mid e ws := L.out.2.1.congr (fun k q1 q2 => G2.out.2.1.2.2.1 k (by omega))
              have hr2 : Srt e b ws := L.out.2.2.2.2.congr (fun k q1 q2 => G2.out.2.1.2.2.1 k (by have hC := HCut.out; obtain ⟨c1, c2, c3, c4, c5, c6⟩ := hC; omega))
              have L2 := Lib.hid (And.intro hr1 hr2)
              clear hr1 hr2
              by_cases r1 : mid < e ∧ e < b
              · obtain ⟨r1, r2⟩ := r1
                have r1i : (mid : Int) < (e : Int) := by omega
                have r2i : (e : Int) < (b : Int) := by omega
                go_wp2_with fail
                all_goals
                  refine (HI.out mid e b (by omega) r1 r2 (by have := hB.out; omega) ws _ G2.out.1 L2.out.1 L2.out.2).mono ?_
                  rintro _ w3 ⟨vs, ⟨v, rfl⟩, hr, hsw, hso⟩
                  have F : Hid (Row g N cap w0 vs w3 ∧ SwR a b xs vs ∧ Srt a b vs) := Lib.hid ⟨hr, (G.out.2.1.trans (G2.out.2.1.mono (Nat.le_refl _) (by omega))).trans (hsw.mono (by omega) (Nat.le_refl _)), halves L.out.2.2.1 G2.out.2.1 G2.out.2.2 hsw hso⟩
                  clear hr hsw hso
                  go_wp2
                  all_goals first | (go_end0; exact ⟨vs, ⟨_, rfl⟩, F.out⟩) | exact ⟨vs, ⟨_, rfl⟩, F.out⟩ | exact ⟨⟨_, rfl⟩, F.out⟩ | exact ⟨⟨_, rfl⟩, _, F.out⟩ | (go_end0; exact ⟨⟨_, rfl⟩, F.out⟩) | (go_end0; exact ⟨⟨_, rfl⟩, _, F.out⟩)
              · have F : Hid (Row g N cap w0 ws w2 ∧ SwR a b xs ws ∧ Srt a b ws) := by
                  have hC := HCut.out
                  have hmr : Srt mid b ws := by
                    by_cases q : mid < e
                    · exact L2.out.1.mono (Nat.le_refl _) (by omega)
                    · exact L2.out.2.mono (by obtain ⟨c1, c2, c3, c4, c5, c6⟩ := hC; omega) (Nat.le_refl _)
                  exact Lib.hid ⟨G2.out.1, G.out.2.1.trans (G2.out.2.1.mono (Nat.le_refl _) (by omega)), halves L.out.2.2.1 G2.out.2.1 G2.out.2.2 (SwR.refl _ _ _) hmr⟩
                by_cases r2 : mid < e
                · have r2i : (mid : Int) < (e : Int) := by omega
                  have r3i : decide ((e : Int) < (b : Int)) = false := decide_eq_false (by omega)
                  have r4i : (b : Int) ≤ (e : Int) := by omega
                  clear r1
                  go_wp2
                  all_goals first | (go_end0; exact ⟨ws, ⟨_, rfl⟩, F.out⟩) | exact ⟨ws, ⟨_, rfl⟩, F.out⟩ | exact ⟨⟨_, rfl⟩, F.out⟩ | exact ⟨⟨_, rfl⟩, _, F.out⟩ | (go_end0; exact ⟨⟨_, rfl⟩, F.out⟩) | (go_end0; exact ⟨⟨_, rfl⟩, _, F.out⟩)
                · have r2i : decide ((mid : Int) < (e : Int)) = false := decide_eq_false (by omega)
                  clear r1
                  go_wp2
                  all_goals first | (go_end0; exact ⟨ws, ⟨_, rfl⟩, F.out⟩) | exact ⟨ws, ⟨_, rfl⟩, F.out⟩ | exact ⟨⟨_, rfl⟩, F.out⟩ | exact ⟨⟨_, rfl⟩, _, F.out⟩ | (go_end0; exact ⟨⟨_, rfl⟩, F.out⟩) | (go_end0; exact ⟨⟨_, rfl⟩, _, F.out⟩)
            · have G2 : Hid (Row g N cap w0 zs w1 ∧ SwR a mid zs zs ∧ Srt a mid zs) := by
                have hC := HCut.out
                refine Lib.hid ⟨G.out.1, SwR.refl _ _ _, ?_⟩
                by_cases q : a < s
                · exact L.out.2.2.2.1.mono (Nat.le_refl _) (by obtain ⟨c1, c2, c3, c4, c5, c6⟩ := hC; omega)
                · exact L.out.1.mono (by omega) (Nat.le_refl _)
              obtain ⟨ws, G2⟩ : ∃ ws, Hid (Row g N cap w0 ws w1 ∧ SwR a mid zs ws ∧ Srt a mid ws) := ⟨zs, G2⟩
              obtain ⟨w2, rfl⟩ : ∃ w2 : World, w2 = w1 := ⟨_, rfl⟩
              by_cases p2 : a < s
              · have p2i : (a : Int) < (s : Int) := by omega
                have p3i : decide ((s : Int) < (mid : Int)) = false := decide_eq_false (by omega)
                have p4i : (mid : Int) ≤ (s : Int) := by omega
                clear p1
                have hr1 : Srt mid e ws := L.out.2.1.congr (fun k q1 q2 => G2.out.2.1.2.2.1 k (by omega))
                have hr2 : Srt e b ws := L.out.2.2.2.2.congr (fun k q1 q2 => G2.out.2.1.2.2.1 k (by have hC := HCut.out; obtain ⟨c1, c2, c3, c4, c5, c6⟩ := hC; omega))
                have L2 := Lib.hid (And.intro hr1 hr2)
                clear hr1 hr2
                by_cases r1 : mid < e ∧ e < b
                · obtain ⟨r1, r2⟩ := r1
                  have r1i : (mid : Int) < (e : Int) := by omega
                  have r2i : (e : Int) < (b : Int) := by omega
                  go_wp2_with fail
                  all_goals
                    refine (HI.out mid e b (by omega) r1 r2 (by have := hB.out; omega) ws _ G2.out.1 L2.out.1 L2.out.2).mono ?_
                    rintro _ w3 ⟨vs, ⟨v, rfl⟩, hr, hsw, hso⟩
                    have F : Hid (Row g N cap w0 vs w3 ∧ SwR a b xs vs ∧ Srt a b vs) := Lib.hid ⟨hr, (G.out.2.1.trans (G2.out.2.1.mono (Nat.le_refl _) (by omega))).trans (hsw.mono (by omega) (Nat.le_refl _)), halves L.out.2.2.1 G2.out.2.1 G2.out.2.2 hsw hso⟩
                    clear hr hsw hso
                    go_wp2
                    all_goals first | (go_end0; exact ⟨vs, ⟨_, rfl⟩, F.out⟩) | exact ⟨vs, ⟨_, rfl⟩, F.out⟩ | exact ⟨⟨_, rfl⟩, F.out⟩ | exact ⟨⟨_, rfl⟩, _, F.out⟩ | (go_end0; exact ⟨⟨_, rfl⟩, F.out⟩) | (go_end0; exact ⟨⟨_, rfl⟩, _, F.out⟩)
                · have F : Hid (Row g N cap w0 ws w2 ∧ SwR a b xs ws ∧ Srt a b ws) := by
                    have hC := HCut.out
                    have hmr : Srt mid b ws := by
                      by_cases q : mid < e
                      · exact L2.out.1.mono (Nat.le_refl _) (by omega)
                      · exact L2.out.2.mono (by obtain ⟨c1, c2, c3, c4, c5, c6⟩ := hC; omega) (Nat.le_refl _)
                    exact Lib.hid ⟨G2.out.1, G.out.2.1.trans (G2.out.2.1.mono (Nat.le_refl _) (by omega)), halves L.out.2.2.1 G2.out.2.1 G2.out.2.2 (SwR.refl _ _ _) hmr⟩
                  by_cases r2 : mid < e
                  · have r2i : (mid : Int) < (e : Int) := by omega
                    have r3i : decide ((e : Int) < (b : Int)) = false := decide_eq_false (by omega)
                    have r4i : (b : Int) ≤ (e : Int) := by omega
                    clear r1
                    go_wp2
                    all_goals first | (go_end0; exact ⟨ws, ⟨_, rfl⟩, F.out⟩) | exact ⟨ws, ⟨_, rfl⟩, F.out⟩ | exact ⟨⟨_, rfl⟩, F.out⟩ | exact ⟨⟨_, rfl⟩, _, F.out⟩ | (go_end0; exact ⟨⟨_, rfl⟩, F.out⟩) | (go_end0; exact ⟨⟨_, rfl⟩, _, F.out⟩)
                  · have r2i : decide ((mid : Int) < (e : Int)) = false := decide_eq_false (by omega)
                    clear r1
                    go_wp2
                    all_goals first | (go_end0; exact ⟨ws, ⟨_, rfl⟩, F.out⟩) | exact ⟨ws, ⟨_, rfl⟩, F.out⟩ | exact ⟨⟨_, rfl⟩, F.out⟩ | exact ⟨⟨_, rfl⟩, _, F.out⟩ | (go_end0; exact ⟨⟨_, rfl⟩, F.out⟩) | (go_end0; exact ⟨⟨_, rfl⟩, _, F.out⟩)
              · have p2i : decide ((a : Int) < (s : Int)) = false := decide_eq_false (by omega)
                clear p1
                have hr1 : Srt mid e ws := L.out.2.1.congr (fun k q1 q2 => G2.out.2.1.2.2.1 k (by omega))
                have hr2 : Srt e b ws := L.out.2.2.2.2.congr (fun k q1 q2 => G2.out.2.1.2.2.1 k (by have hC := HCut.out; obtain ⟨c1, c2, c3, c4, c5, c6⟩ := hC; omega))
                have L2 := Lib.hid (And.intro hr1 hr2)
                clear hr1 hr2
                by_cases r1 : mid < e ∧ e < b
                · obtain ⟨r1, r2⟩ := r1
                  have r1i : (mid : Int) < (e : Int) := by omega
                  have r2i : (e : Int) < (b : Int) := by omega
                  go_wp2_with fail
                  all_goals
                    refine (HI.out mid e b (by omega) r1 r2 (by have := hB.out; omega) ws _ G2.out.1 L2.out.1 L2.out.2).mono ?_
                    rintro _ w3 ⟨vs, ⟨v, rfl⟩, hr, hsw, hso⟩
                    have F : Hid (Row g N cap w0 vs w3 ∧ SwR a b xs vs ∧ Srt a b vs) := Lib.hid ⟨hr, (G.out.2.1.trans (G2.out.2.1.mono (Nat.le_refl _) (by omega))).trans (hsw.mono (by omega) (Nat.le_refl _)), halves L.out.2.2.1 G2.out.2.1 G2.out.2.2 hsw hso⟩
                    clear hr hsw hso
                    go_wp2
                    all_goals first | (go_end0; exact ⟨vs, ⟨_, rfl⟩, F.out⟩) | exact ⟨vs, ⟨_, rfl⟩, F.out⟩ | exact ⟨⟨_, rfl⟩, F.out⟩ | exact ⟨⟨_, rfl⟩, _, F.out⟩ | (go_end0; exact ⟨⟨_, rfl⟩, F.out⟩) | (go_end0; exact ⟨⟨_, rfl⟩, _, F.out⟩)
                · have F : Hid (Row g N cap w0 ws w2 ∧ SwR a b xs ws ∧ Srt a b ws) := by
                    have hC := HCut.out
                    have hmr : Srt mid b ws := by
                      by_cases q : mid < e
                      · exact L2.out.1.mono (Nat.le_refl _) (by omega)
                      · exact L2.out.2.mono (by obtain ⟨c1, c2, c3, c4, c5, c6⟩ := hC; omega) (Nat.le_refl _)
                    exact Lib.hid ⟨G2.out.1, G.out.2.1.trans (G2.out.2.1.mono (Nat.le_refl _) (by omega)), halves L.out.2.2.1 G2.out.2.1 G2.out.2.2 (SwR.refl _ _ _) hmr⟩
                  by_cases r2 : mid < e
                  · have r2i : (mid : Int) < (e : Int) := by omega
                    have r3i : decide ((e : Int) < (b : Int)) = false := decide_eq_false (by omega)
                    have r4i : (b : Int) ≤ (e : Int) := by omega
                    clear r1
                    go_wp2
                    all_goals first | (go_end0; exact ⟨ws, ⟨_, rfl⟩, F.out⟩) | exact ⟨ws, ⟨_, rfl⟩, F.out⟩ | exact ⟨⟨_, rfl⟩, F.out⟩ | exact ⟨⟨_, rfl⟩, _, F.out⟩ | (go_end0; exact ⟨⟨_, rfl⟩, F.out⟩) | (go_end0; exact ⟨⟨_, rfl⟩, _, F.out⟩)
                  · have r2i : decide ((mid : Int) < (e : Int)) = false := decide_eq_false (by omega)
                    clear r1
                    go_wp2
                    all_goals first | (go_end0; exact ⟨ws, ⟨_, rfl⟩, F.out⟩) | exact ⟨ws, ⟨_, rfl⟩, F.out⟩ | exact ⟨⟨_, rfl⟩, F.out⟩ | exact ⟨⟨_, rfl⟩, _, F.out⟩ | (go_end0; exact ⟨⟨_, rfl⟩, F.out⟩) | (go_end0; exact ⟨⟨_, rfl⟩, _, F.out⟩)
          · have k2i : decide ((s : Int) < (m : Int)) = false := decide_eq_false (by omega)
            clear k1
            have hC := HCut.out
            have hL1 := G.out.2.2.left hC HS.out
            have hL2 := G.out.2.2.right hC HA.out
            have hsep := HSep.out zs G.out.2.2
            have hlA : Srt a s zs := (HA.out.mono (Nat.le_refl _) hC.2.1).congr (fun k q1 q2 => (G.out.2.2 k).2 (by omega))
            have hlB : Srt e b zs := (HS.out.mono hC.2.2.1 (Nat.le_refl _)).congr (fun k q1 q2 => (G.out.2.2 k).2 (by omega))
            have L := Lib.hid (And.intro hL1 (And.intro hL2 (And.intro hsep (And.intro hlA hlB))))
            clear hL1 hL2 hsep hlA hlB hC
            by_cases p1 : a < s ∧ s < mid
            · obtain ⟨p1, p2⟩ := p1
              have p1i : (a : Int) < (s : Int) := by omega
              have p2i : (s : Int) < (mid : Int) := by omega
              go_wp2_with fail
              refine (HI.out a s mid (by omega) p1 p2 (by omega) zs _ G.out.1 L.out.2.2.2.1 L.out.1).mono ?_
              rintro _ w2 ⟨ws, ⟨v, rfl⟩, hr, hsw, hso⟩
              have G2 := Lib.hid (And.intro hr (And.intro hsw hso))
              clear hr hsw hso
              have hr1 : Srt mid e ws := L.out.2.1.congr (fun k q1 q2 => G2.out.2.1.2.2.1 k (by omega))
              have hr2 : Srt e b ws := L.out.2.2.2.2.congr (fun k q1 q2 => G2.out.2.1.2.2.1 k (by have hC := HCut.out; obtain ⟨c1, c2, c3, c4, c5, c6⟩ := hC; omega))
              have L2 := Lib.hid (And.intro hr1 hr2)
              clear hr1 hr2
              by_cases r1 : mid < e ∧ e < b
              · obtain ⟨r1, r2⟩ := r1
                have r1i : (mid : Int) < (e : Int) := by omega
                have r2i : (e : Int) < (b : Int) := by omega
                go_wp2_with fail
                all_goals
                  refine (HI.out mid e b (by omega) r1 r2 (by have := hB.out; omega) ws _ G2.out.1 L2.out.1 L2.out.2).mono ?_
                  rintro _ w3 ⟨vs, ⟨v, rfl⟩, hr, hsw, hso⟩
                  have F : Hid (Row g N cap w0 vs w3 ∧ SwR a b xs vs ∧ Srt a b vs) := Lib.hid ⟨hr, (G.out.2.1.trans (G2.out.2.1.mono (Nat.le_refl _) (by omega))).trans (hsw.mono (by omega) (Nat.le_refl _)), halves L.out.2.2.1 G2.out.2.1 G2.out.2.2 hsw hso⟩
                  clear hr hsw hso
                  go_wp2
                  all_goals first | (go_end0; exact ⟨vs, ⟨_, rfl⟩, F.out⟩) | exact ⟨vs, ⟨_, rfl⟩, F.out⟩ | exact ⟨⟨_, rfl⟩, F.out⟩ | exact ⟨⟨_, rfl⟩, _, F.out⟩ | (go_end0; exact ⟨⟨_, rfl⟩, F.out⟩) | (go_end0; exact ⟨⟨_, rfl⟩, _, F.out⟩)
              · have F : Hid (Row g N cap w0 ws w2 ∧ SwR a b xs ws ∧ Srt a b ws) := by
                  have hC := HCut.out
                  have hmr : Srt mid b ws := by
                    by_cases q : mid < e
                    · exact L2.out.1.mono (Nat.le_refl _) (by omega)
                    · exact L2.out.2.mono (by obtain ⟨c1, c2, c3, c4, c5, c6⟩ := hC; omega) (Nat.le_refl _)
                  exact Lib.hid ⟨G2.out.1, G.out.2.1.trans (G2.out.2.1.mono (Nat.le_refl _) (by omega)), halves L.out.2.2.1 G2.out.2.1 G2.out.2.2 (SwR.refl _ _ _) hmr⟩
                by_cases r2 : mid < e
                · have r2i : (mid : Int) < (e : Int) := by omega
                  have r3i : decide ((e : Int) < (b : Int)) = false := decide_eq_false (by omega)
                  have r4i : (b : Int) ≤ (e : Int) := by omega
                  clear r1
                  go_wp2
                  all_goals first | (go_end0; exact ⟨ws, ⟨_, rfl⟩, F.out⟩) | exact ⟨ws, ⟨_, rfl⟩, F.out⟩ | exact ⟨⟨_, rfl⟩, F.out⟩ | exact ⟨⟨_, rfl⟩, _, F.out⟩ | (go_end0; exact ⟨⟨_, rfl⟩, F.out⟩) | (go_end0; exact ⟨⟨_, rfl⟩, _, F.out⟩)
                · have r2i : decide ((mid : Int) < (e : Int)) = false := decide_eq_false (by omega)
                  clear r1
                  go_wp2
                  all_goals first | (go_end0; exact ⟨ws, ⟨_, rfl⟩, F.out⟩) | exact ⟨ws, ⟨_, rfl⟩, F.out⟩ | exact ⟨⟨_, rfl⟩, F.out⟩ | exact ⟨⟨_, rfl⟩, _, F.out⟩ | (go_end0; exact ⟨⟨_, rfl⟩, F.out⟩) | (go_end0; exact ⟨⟨_, rfl⟩, _, F.out⟩)
            · have G2 : Hid (Row g N cap w0 zs w1 ∧ SwR a mid zs zs ∧ Srt a mid zs) := by
                have hC := HCut.out
                refine Lib.hid ⟨G.out.1, SwR.refl _ _ _, ?_⟩
                by_cases q : a < s
                · exact L.out.2.2.2.1.mono (Nat.le_refl _) (by obtain ⟨c1, c2, c3, c4, c5, c6⟩ := hC; omega)
                · exact L.out.1.mono (by omega) (Nat.le_refl _)
              obtain ⟨ws, G2⟩ : ∃ ws, Hid (Row g N cap w0 ws w1 ∧ SwR a mid zs ws ∧ Srt a mid ws) := ⟨zs, G2⟩
              obtain ⟨w2, rfl⟩ : ∃ w2 : World, w2 = w1 := ⟨_, rfl⟩
              by_cases p2 : a < s
              · have p2i : (a : Int) < (s : Int) := by omega
                have p3i : decide ((s : Int) < (mid : Int)) = false := decide_eq_false (by omega)
                have p4i : (mid : Int) ≤ (s : Int) := by omega
                clear p1
                have hr1 : Srt mid e ws := L.out.2.1.congr (fun k q1 q2 => G2.out.2.1.2.2.1 k (by omega))
                have hr2 : Srt e b ws := L.out.2.2.2.2.congr (fun k q1 q2 => G2.out.2.1.2.2.1 k (by have hC := HCut.out; obtain ⟨c1, c2, c3, c4, c5, c6⟩ := hC; omega))
                have L2 := Lib.hid (And.intro hr1 hr2)
                clear hr1 hr2
                by_cases r1 : mid < e ∧ e < b
                · obtain ⟨r1, r2⟩ := r1
                  have r1i : (mid : Int) < (e : Int) := by omega
                  have r2i : (e : Int) < (b : Int) := by omega
                  go_wp2_with fail
                  all_goals
                    refine (HI.out mid e b (by omega) r1 r2 (by have := hB.out; omega) ws _ G2.out.1 L2.out.1 L2.out.2).mono ?_
                    rintro _ w3 ⟨vs, ⟨v, rfl⟩, hr, hsw, hso⟩
                    have F : Hid (Row g N cap w0 vs w3 ∧ SwR a b xs vs ∧ Srt a b vs) := Lib.hid ⟨hr, (G.out.2.1.trans (G2.out.2.1.mono (Nat.le_refl _) (by omega))).trans (hsw.mono (by omega) (Nat.le_refl _)), halves L.out.2.2.1 G2.out.2.1 G2.out.2.2 hsw hso⟩
                    clear hr hsw hso
                    go_wp2
                    all_goals first | (go_end0; exact ⟨vs, ⟨_, rfl⟩, F.out⟩) | exact ⟨vs, ⟨_, rfl⟩, F.out⟩ | exact ⟨⟨_, rfl⟩, F.out⟩ | exact ⟨⟨_, rfl⟩, _, F.out⟩ | (go_end0; exact ⟨⟨_, rfl⟩, F.out⟩) | (go_end0; exact ⟨⟨_, rfl⟩, _, F.out⟩)
                · have F : Hid (Row g N cap w0 ws w2 ∧ SwR a b xs ws ∧ Srt a b ws) := by
                    have hC := HCut.out
                    have hmr : Srt mid b ws := by
                      by_cases q : mid < e
                      · exact L2.out.1.mono (Nat.le_refl _) (by omega)
                      · exact L2.out.2.mono (by obtain ⟨c1, c2, c3, c4, c5, c6⟩ := hC; omega) (Nat.le_refl _)
                    exact Lib.hid ⟨G2.out.1, G.out.2.1.trans (G2.out.2.1.mono (Nat.le_refl _) (by omega)), halves L.out.2.2.1 G2.out.2.1 G2.out.2.2 (SwR.refl _ _ _) hmr⟩
                  by_cases r2 : mid < e
                  · have r2i : (mid : Int) < (e : Int) := by omega
                    have r3i : decide ((e : Int) < (b : Int)) = false := decide_eq_false (by omega)
                    have r4i : (b : Int) ≤ (e : Int) := by omega
                    clear r1
                    go_wp2
                    all_goals first | (go_end0; exact ⟨ws, ⟨_, rfl⟩, F.out⟩) | exact ⟨ws, ⟨_, rfl⟩, F.out⟩ | exact ⟨⟨_, rfl⟩, F.out⟩ | exact ⟨⟨_, rfl⟩, _, F.out⟩ | (go_end0; exact ⟨⟨_, rfl⟩, F.out⟩) | (go_end0; exact ⟨⟨_, rfl⟩, _, F.out⟩)
                  · have r2i : decide ((mid : Int) < (e : Int)) = false := decide_eq_false (by omega)
                    clear r1
                    go_wp2
                    all_goals first | (go_end0; exact ⟨ws, ⟨_, rfl⟩, F.out⟩) | exact ⟨ws, ⟨_, rfl⟩, F.out⟩ | exact ⟨⟨_, rfl⟩, F.out⟩ | exact ⟨⟨_, rfl⟩, _, F.out⟩ | (go_end0; exact ⟨⟨_, rfl⟩, F.out⟩) | (go_end0; exact ⟨⟨_, rfl⟩, _, F.out⟩)
              · have p2i : decide ((a : Int) < (s : Int)) = false := decide_eq_false (by omega)
                clear p1
                have hr1 : Srt mid e ws := L.out.2.1.congr (fun k q1 q2 => G2.out.2.1.2.2.1 k (by omega))
                have hr2 : Srt e b ws := L.out.2.2.2.2.congr (fun k q1 q2 => G2.out.2.1.2.2.1 k (by have hC := HCut.out; obtain ⟨c1, c2, c3, c4, c5, c6⟩ := hC; omega))
                have L2 := Lib.hid (And.intro hr1 hr2)
                clear hr1 hr2
                by_cases r1 : mid < e ∧ e < b
                · obtain ⟨r1, r2⟩ := r1
                  have r1i : (mid : Int) < (e : Int) := by omega
                  have r2i : (e : Int) < (b : Int) := by omega
                  go_wp2_with fail
                  all_goals
                    refine (HI.out mid e b (by omega) r1 r2 (by have := hB.out; omega) ws _ G2.out.1 L2.out.1 L2.out.2).mono ?_
                    rintro _ w3 ⟨vs, ⟨v, rfl⟩, hr, hsw, hso⟩
                    have F : Hid (Row g N cap w0 vs w3 ∧ SwR a b xs vs ∧ Srt a b vs) := Lib.hid ⟨hr, (G.out.2.1.trans (G2.out.2.1.mono (Nat.le_refl _) (by omega))).trans (hsw.mono (by omega) (Nat.le_refl _)), halves L.out.2.2.1 G2.out.2.1 G2.out.2.2 hsw hso⟩
                    clear hr hsw hso
                    go_wp2
                    all_goals first | (go_end0; exact ⟨vs, ⟨_, rfl⟩, F.out⟩) | exact ⟨vs, ⟨_, rfl⟩, F.out⟩ | exact ⟨⟨_, rfl⟩, F.out⟩ | exact ⟨⟨_, rfl⟩, _, F.out⟩ | (go_end0; exact ⟨⟨_, rfl⟩, F.out⟩) | (go_end0; exact ⟨⟨_, rfl⟩, _, F.out⟩)
                · have F : Hid (Row g N cap w0 ws w2 ∧ SwR a b xs ws ∧ Srt a b ws) := by
                    have hC := HCut.out
                    have hmr : Srt mid b ws := by
                      by_cases q : mid < e
                      · exact L2.out.1.mono (Nat.le_refl _) (by omega)
                      · exact L2.out.2.mono (by obtain ⟨c1, c2, c3, c4, c5, c6⟩ := hC; omega) (Nat.le_refl _)
                    exact Lib.hid ⟨G2.out.1, G.out.2.1.trans (G2.out.2.1.mono (Nat.le_refl _) (by omega)), halves L.out.2.2.1 G2.out.2.1 G2.out.2.2 (SwR.refl _ _ _) hmr⟩
                  by_cases r2 : mid < e
                  · have r2i : (mid : Int) < (e : Int) := by omega
                    have r3i : decide ((e : Int) < (b : Int)) = false := decide_eq_false (by omega)
                    have r4i : (b : Int) ≤ (e : Int) := by omega
                    clear r1
                    go_wp2
                    all_goals first | (go_end0; exact ⟨ws, ⟨_, rfl⟩, F.out⟩) | exact ⟨ws, ⟨_, rfl⟩, F.out⟩ | exact ⟨⟨_, rfl⟩, F.out⟩ | exact ⟨⟨_, rfl⟩, _, F.out⟩ | (go_end0; exact ⟨⟨_, rfl⟩, F.out⟩) | (go_end0; exact ⟨⟨_, rfl⟩, _, F.out⟩)
                  · have r2i : decide ((mid : Int) < (e : Int)) = false := decide_eq_false (by omega)
                    clear r1
                    go_wp2
                    all_goals first | (go_end0; exact ⟨ws, ⟨_, rfl⟩, F.out⟩) | exact ⟨ws, ⟨_, rfl⟩, F.out⟩ | exact ⟨⟨_, rfl⟩, F.out⟩ | exact ⟨⟨_, rfl⟩, _, F.out⟩ | (go_end0; exact ⟨⟨_, rfl⟩, F.out⟩) | (go_end0; exact ⟨⟨_, rfl⟩, _, F.out⟩)
theorem symOk (g N cap : Nat) (hN : N ≤ 1000) (w0 : World) : ∀ (L a m b : Nat), b - a ≤ L → a < m → m < b → b ≤ N → SymOk g N cap w0 a m b
  | 0, a, m, b, h, h1, h2, _ => by omega
  | L + 1, a, m, b, h, h1, h2, hb => by
    by_cases c1 : m = a + 1
    · exact fun xs w R hA hS => symA g N cap a m b c1 h2 hb hN w0 xs w R hS
    · by_cases c2 : b = m + 1
      · exact fun xs w R hA hS => symB g N cap a m b (by omega) c2 hb hN w0 xs w R hA
      · exact symC g N cap a m b (by omega) (by omega) hb hN w0 (fun a' m' b' k1 k2 k3 k4 => symOk g N cap hN w0 L a' m' b' (by omega) k2 k3 k4)
end Go.Proofs.Ytbceiphiopdegaa
