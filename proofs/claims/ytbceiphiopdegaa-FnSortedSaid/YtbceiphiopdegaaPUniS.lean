/-
  Walk for FnSorted: the reference's UniquePoints.
-/
import Derived.Test.YtbceiphiopdegaaPUq
set_option linter.unusedSimpArgs false
set_option linter.unusedVariables false
namespace Go.Proofs.Ytbceiphiopdegaa.Pt
open Go.RowKit

/-- a value that is read as a row of points -/
def RowV (w : World) (v : Value) (ys : List Nat) : Prop := ∃ a c, v = .slice a ys.length c ∧ (ys = [] ∨ ∃ g, a = some ⟨g, 0, none⟩ ∧ Holds32 w g 0 ys.length ys)
theorem RowV.kept {w w' : World} {v : Value} {ys : List Nat} (h : RowV w v ys) (hk : Kept w w') : RowV w' v ys := by
  obtain ⟨a, c, rfl, h | ⟨g, rfl, h⟩⟩ := h
  · exact ⟨a, c, rfl, .inl h⟩
  · exact ⟨_, c, rfl, .inr ⟨g, rfl, h.kept hk⟩⟩
theorem rowV_of {w : World} {Z : Nat} {v : Value} {ys : List Nat} (h : w.ownsRow Z 37 1 v ys.length (ys.map cxv)) : RowV w v ys := by
  rcases h.2 with ⟨rfl, h0⟩ | ⟨g, cap, cur, rfl, h2⟩
  · exact ⟨none, 0, by rw [h0], .inl (List.eq_nil_of_length_eq_zero h0)⟩
  · refine ⟨_, cap, rfl, .inr ⟨g, rfl, fun i hi => ?_⟩⟩
    rw [Nat.zero_add, World.ownsRow.cellAt h i (by omega), List.getElem?_map, va_get ys i hi]; rfl
/-- a sorted list that is not empty, opened: a row -/
theorem Sorted.row {Z : Nat} {w0 w' : World} {xs : List Nat} {v : Value} (h : Sorted Z w0 xs v w') (hne : 1 ≤ xs.length) (hB : ∀ x ∈ xs, x < B64) :
    ∃ g cap ys, v = .slice (some ⟨g, 0, none⟩) xs.length cap ∧ Z ≤ g ∧ Row g xs.length cap w' ys w' ∧ (xs.length ≤ cap ∧ cap ≤ maxLen) ∧ ys.Perm xs ∧ Ordd ys ∧ Below w0.heap.size w0 w' := by
  obtain ⟨ys, h1, h2, h3, h4⟩ := h
  have hl : ys.length = xs.length := h2.length_eq
  rcases h1.2 with ⟨rfl, h0⟩ | ⟨g, cap, cur, rfl, hZ, hk, hc, hm, h5⟩
  · omega
  · rw [hl] at h1 hc h5 ⊢
    refine ⟨g, cap, ys, rfl, hZ, ⟨hl, fun x hx => hB x (h2.mem_iff.1 hx), ⟨h1.1, .inr ⟨g, cap, cur, rfl, Nat.zero_le _, hk, hc, hm, h5⟩⟩, Below.refl _ _⟩, ⟨hc, hm⟩, h2, h3, h4⟩
/-- what UniquePoints gives -/
def UniqP (w : World) (xs : List Nat) (e : Ending) (w' : World) : Prop := ∃ v us, (e = .returned (.tuple #[v, .int .i64 0]) ∧ Uniq xs us ∧ us.length ≤ xs.length) ∧ RowV w' v us ∧ Kept w w'
/-- the reference's list after k places -/
def UqS (w0 w1 : World) (ys : List Nat) (k : Nat) (v : Value) (wr : World) : Prop :=
  wr.ownsRow w1.heap.size 37 1 v (uq ys k).length ((uq ys k).map cxv) ∧ Kept w1 wr
theorem UqS.start (w0 w1 : World) (ys : List Nat) : UqS w0 w1 ys 0 (.slice (some ⟨w1.heap.size, 0, none⟩) 0 0) (w1.alloc (.cells #[] 37)) :=
  ⟨World.ownsRow_made w1 #[] 0 (Nat.le_refl _) (by decide) rfl, (Kept.refl w1).alloc _⟩
theorem UqS.drewN {w0 w1 wr : World} {ys : List Nat} {k : Nat} {v : Value} (h : UqS w0 w1 ys k v wr) (m : Nat) : UqS w0 w1 ys k v (wr.drewN m) := ⟨h.1, h.2.drewN m⟩
theorem UqS.skip {w0 w1 wr : World} {ys : List Nat} {k : Nat} {v : Value} (h : UqS w0 w1 ys k v wr) (hk : kp ys k = false) : UqS w0 w1 ys (k + 1) v wr := by
  unfold UqS; rw [uq_no hk]; exact h
theorem UqS.add {w0 w1 wr w' : World} {ys : List Nat} {k : Nat} {v v' : Value} {t : TypeId} (h : UqS w0 w1 ys k v wr) (hk : kp ys k = true)
    (hown : w'.ownsRow w1.heap.size 37 1 v' ((uq ys k).length + 1) ((uq ys k).map cxv ++ [.complex .f32 (reP (va ys k)) (imP (va ys k))]))
    (hg : (wr.alloc (.cells #[.complex .f32 (reP (va ys k)) (imP (va ys k))] t)).grownBy w' v.ownBlock) : UqS w0 w1 ys (k + 1) v' w' := by
  refine ⟨?_, Below.grown (h.2.alloc _) hg (by have := h.2.size; simp; omega) (fun k hk => (h.1.lt k hk).1)⟩
  rw [uq_yes hk, List.length_append, List.map_append]; exact hown
set_option maxRecDepth 100000 in
set_option maxHeartbeats 16000000 in
theorem specUniq (a : Option Addr) (n c : Nat) (xs : List Nat) (w : World) (hs : Src w a n xs) (h1 : 1 ≤ n) (hn : n ≤ 256) :
    Calls Try.prog 20 #[.slice a n c] w (UniqP w xs) := by
  have hn0 : decide ((256 : Int) < (n : Int)) = false := decide_eq_false (by omega)
  have HK := Lib.hid (l02SortOk a n c xs w hs hn)
  obtain ⟨i0, i1, i2, i3, i4⟩ := info_parts info32
  have II := Lib.hid (And.intro i1 (And.intro i2 (And.intro i3 i4)))
  have HS := Lib.hid (And.intro hs.1 (And.intro hs.2.1 (And.intro h1 hn)))
  clear hs h1 hn i1 i2 i3 i4
  go_enter Try.func20, Try.ntmps20
  go_wp2_with fail
  refine HK.out.mono ?_
  rintro _ w1 ⟨v, rfl, h⟩
  obtain ⟨g, cap, ys, rfl, hZ, hR, hcap, hp, ho, hb⟩ := h.row (by have := HS.out; omega) HS.out.2.1
  rw [HS.out.1] at hR ⊢
  have R := Lib.hid hR
  have U := Lib.hid (And.intro (uniq_of hp ho HS.out.2.1) hb)
  have HL : Hid (ys.length = n) := Lib.hid (by rw [hp.length_eq, HS.out.1])
  have HB := Lib.hid (fun i (hi : i < n) => hR.lt i hi)
  have hn1 : (n : Int) ≤ 256 := by have := HS.out; omega
  have hlt : g < w1.heap.size := by have := hR.2.2.1.lt g rfl; omega
  have HG := Lib.hid hlt
  clear HK h hR hp ho hb hZ hcap hlt
  go_wp2
  have S0 := Lib.hid (UqS.start w w1 ys)
  generalize w1.alloc (.cells #[] 37) = ws at *
  go_loopw [5, 6] (fun vo vi wr => ∃ k : Nat, k ≤ n ∧ vi = .int .i64 (k : Int) ∧ Hid (UqS w w1 ys k vo wr)) (fun _ vi _ => n - (intOf vi).toNat)
  case atStart => exact ⟨0, Nat.zero_le _, rfl, S0⟩
  case round =>
    clear S0
    obtain ⟨k, hk, rfl, H⟩ := hrel
    by_cases hkn : k < n
    · have q0 : (k : Int) < (n : Int) := by omega
      have q1 : (0 : Int) ≤ (k : Int) := by omega
      have c0 := H.out.2.cell (R.out.cell k hkn)
      cases hkp : kp ys k
      · have HKP := Lib.hid hkp
        have k0 : 0 < k := by
          rcases Nat.eq_zero_or_pos k with h | h
          · subst h; rw [kp_zero] at hkp; cases hkp
          · exact h
        have e1 : sameC (va ys k) (va ys (k - 1)) = true := by have := kp_pos ys k0; rw [hkp] at this; simpa using this.symm
        have HC := Lib.hid (l02SameP (va ys k) (va ys (k - 1)))
        rw [e1] at HC
        have q2 : ((k : Int) == 0) = false := beq_eq_false_iff_ne.2 (by omega)
        have q3 : (1 : Int) ≤ (k : Int) := by omega
        have q4 : ((k : Int) - 1).toNat = k - 1 := by omega
        have c1 := H.out.2.cell (R.out.cell (k - 1) (by omega))
        clear hkp e1 k0
        go_wp2
        go_quiet ((go_at_call 39; exact quiet_left (HC.out _)))
        go_wp2
        go_roundw
        case rel => exact ⟨k + 1, by omega, by go_num, Lib.hid ((H.out.skip HKP.out).drewN _)⟩
        case measure => simp [intOf]; omega
      · have HKP := Lib.hid hkp
        by_cases k0 : k = 0
        · have q2 : ((k : Int) == 0) = true := beq_iff_eq.2 (by omega)
          clear hkp k0
          go_wp2
          go_quiet (fail)
          rename_i nq
          have HQ := Lib.hid (H.out.drewN nq)
          have c2 := HQ.out.2.cell (R.out.cell k hkn)
          generalize wr.drewN nq = wq at *
          have HL2 := Lib.hid (uq_len ys k)
          clear c0 H
          go_wp2_with (at_builtin; refine wpList_append_own _ rfl _ _ 35 rfl w1.heap.size 37 i0 (.complex .f32 0 0) 1 8 Try.underlying35 II.out.1 II.out.2.1 II.out.2.2.1 II.out.2.2.2 rfl (by decide) _ _ _ rfl (World.ownsRow.alloc HQ.out.1 _) ⟨wq.heap.size, 0, none⟩ 1 1 [.complex .f32 (reP (va ys k)) (imP (va ys k))] rfl rfl (cell_one_new _ _ _) ?c2 ?c3 ?c4 ?c5 ?_)
          case c2 => simp [Value.oneCell']
          case c3 => have := HL2.out; have := HS.out; unfold maxLen; omega
          case c4 => have := HL2.out; have := HS.out; omega
          case c5 => have := HQ.out.2.size; simp; omega
          intro v' w2 hown hgrow _
          have F := Lib.hid (HQ.out.add HKP.out hown hgrow)
          clear hown hgrow HQ c2
          go_wp2
          go_roundw
          case rel => exact ⟨k + 1, by omega, by go_num, F⟩
          case measure => simp [intOf]; omega
        · have e1 : sameC (va ys k) (va ys (k - 1)) = false := by have := kp_pos ys (Nat.pos_of_ne_zero k0); rw [hkp] at this; simpa using this.symm
          have HC := Lib.hid (l02SameP (va ys k) (va ys (k - 1)))
          rw [e1] at HC
          have q2 : ((k : Int) == 0) = false := beq_eq_false_iff_ne.2 (by omega)
          have q3 : (1 : Int) ≤ (k : Int) := by omega
          have q4 : ((k : Int) - 1).toNat = k - 1 := by omega
          have c1 := H.out.2.cell (R.out.cell (k - 1) (by omega))
          clear hkp e1 k0
          go_wp2
          go_quiet ((go_at_call 39; exact quiet_left (HC.out _)))
          rename_i nq
          have HQ := Lib.hid (H.out.drewN nq)
          have c2 := HQ.out.2.cell (R.out.cell k hkn)
          generalize wr.drewN nq = wq at *
          have HL2 := Lib.hid (uq_len ys k)
          clear c0 c1 H
          go_wp2_with (at_builtin; refine wpList_append_own _ rfl _ _ 35 rfl w1.heap.size 37 i0 (.complex .f32 0 0) 1 8 Try.underlying35 II.out.1 II.out.2.1 II.out.2.2.1 II.out.2.2.2 rfl (by decide) _ _ _ rfl (World.ownsRow.alloc HQ.out.1 _) ⟨wq.heap.size, 0, none⟩ 1 1 [.complex .f32 (reP (va ys k)) (imP (va ys k))] rfl rfl (cell_one_new _ _ _) ?c2 ?c3 ?c4 ?c5 ?_)
          case c2 => simp [Value.oneCell']
          case c3 => have := HL2.out; have := HS.out; unfold maxLen; omega
          case c4 => have := HL2.out; have := HS.out; omega
          case c5 => have := HQ.out.2.size; simp; omega
          intro v' w2 hown hgrow _
          have F := Lib.hid (HQ.out.add HKP.out hown hgrow)
          clear hown hgrow HQ c2
          go_wp2
          go_roundw
          case rel => exact ⟨k + 1, by omega, by go_num, F⟩
          case measure => simp [intOf]; omega
    · have q0 : decide ((k : Int) < (n : Int)) = false := decide_eq_false (by omega)
      obtain rfl : k = n := by omega
      have F : Hid (∀ t, UniqP w xs (.returned (.tuple #[t, .int .i64 0])) wr ↔ ∃ us, (Uniq xs us ∧ us.length ≤ xs.length) ∧ RowV wr t us ∧ Kept w wr) := Lib.hid (fun t => ⟨fun ⟨v, us, ⟨he, hu⟩, h⟩ => by cases he; exact ⟨us, hu, h⟩, fun ⟨us, hu, h⟩ => ⟨t, us, ⟨rfl, hu⟩, h⟩⟩)
      have G : Hid ((Uniq xs (uq ys k) ∧ (uq ys k).length ≤ xs.length) ∧ Kept w wr) := Lib.hid ⟨⟨by have := U.out.1; rwa [HL.out] at this, by rw [HS.out.1]; exact uq_len ys k⟩, Below.trans U.out.2 (Below.mono H.out.2 U.out.2.size)⟩
      have HV := Lib.hid (rowV_of H.out.1)
      go_wp2
      go_ret2
      exact (F.out _).2 ⟨_, G.out.1, HV.out, G.out.2⟩
end Go.Proofs.Ytbceiphiopdegaa.Pt
