/-
  Walk for FnSorted: the implementation's UniquePoints (Go's CompactFunc).
-/
import Derived.Test.YtbceiphiopdegaaPUniS
import Derived.Lib.SliceRun
import Derived.Laws.IdiomCopy
set_option linter.unusedSimpArgs false
set_option linter.unusedVariables false
namespace Go.Proofs.Ytbceiphiopdegaa.Pt
open Go.RowKit

/-- while a row is compacted: the first m places hold the points kept of the first q, from place q - 1 on it is as it was -/
def Cmp (ys : List Nat) (N q m : Nat) (zs : List Nat) : Prop :=
  zs.length = N ∧ m = (uq ys q).length ∧ m < q ∧ q ≤ N ∧ (∀ i, i < m → va zs i = va (uq ys q) i) ∧ (∀ i, q - 1 ≤ i → i < N → va zs i = va ys i)
theorem uq_all {ys : List Nat} : ∀ {k : Nat}, k ≤ ys.length → (∀ i, i < k → kp ys i = true) → uq ys k = ys.take k
  | 0, _, _ => by simp [uq]
  | k + 1, hk, h => by
    rw [uq_yes (h k (by omega)), uq_all (by omega) (fun i hi => h i (by omega)), List.take_add_one, va_get ys k (by omega)]; rfl
theorem va_take {ys : List Nat} {k i : Nat} (h : i < k) : va (ys.take k) i = va ys i := by
  simp only [va, List.getD_eq_getElem?_getD, List.getElem?_take_of_lt h]
theorem kp_lt1 {ys : List Nat} {i : Nat} (h : i < 1) : kp ys i = true := by
  obtain rfl : i = 0 := by omega
  rfl
theorem Cmp.start {ys : List Nat} {N k : Nat} (hl : ys.length = N) (hk : k < N) (hall : ∀ i, i < k → kp ys i = true) (hn : kp ys k = false) : Cmp ys N (k + 1) k ys := by
  have e : uq ys (k + 1) = ys.take k := by rw [uq_no hn, uq_all (by omega) hall]
  refine ⟨hl, by rw [e, List.length_take]; omega, by omega, by omega, fun i hi => ?_, fun i _ _ => rfl⟩
  rw [e, va_take hi]
theorem Cmp.skip {ys zs : List Nat} {N q m : Nat} (h : Cmp ys N q m zs) (hq : q < N) (hn : kp ys q = false) : Cmp ys N (q + 1) m zs := by
  obtain ⟨h1, h2, h3, h4, h5, h6⟩ := h
  refine ⟨h1, by rw [uq_no hn]; exact h2, by omega, by omega, by rw [uq_no hn]; exact h5, fun i hi => h6 i (by omega)⟩
theorem va_append_left {xs ys : List Nat} {i : Nat} (h : i < xs.length) : va (xs ++ ys) i = va xs i := by
  simp only [va, List.getD_eq_getElem?_getD, List.getElem?_append_left h]
theorem va_append_last {xs : List Nat} {y : Nat} : va (xs ++ [y]) xs.length = y := by
  simp [va, List.getD_eq_getElem?_getD]
theorem Cmp.keep {ys zs : List Nat} {N q m : Nat} (h : Cmp ys N q m zs) (hq : q < N) (hn : kp ys q = true) : Cmp ys N (q + 1) (m + 1) (zs.set m (va ys q)) := by
  obtain ⟨h1, h2, h3, h4, h5, h6⟩ := h
  refine ⟨by rw [List.length_set]; exact h1, by rw [uq_yes hn, List.length_append, List.length_singleton, ← h2], by omega, by omega, fun i hi => ?_, fun i hi hiN => ?_⟩
  · rw [uq_yes hn]
    by_cases e : i = m
    · subst e
      rw [va_set_same _ _ _ (by omega), h2, va_append_last]
    · rw [va_set_other _ _ _ _ e, va_append_left (by omega)]; exact h5 i (by omega)
  · rw [va_set_other _ _ _ _ (by omega)]; exact h6 i (by omega) hiN
theorem Cmp.row {ys zs : List Nat} {N m g cap : Nat} {w0 w w' : World} (h : Cmp ys N N m zs) (R : Row g N cap w0 zs w) (hc : ∀ i, i < m → w'.cell? ⟨g, i, none⟩ = w.cell? ⟨g, i, none⟩) : RowV w' (.slice (some ⟨g, 0, none⟩) m cap) (uq ys N) := by
  obtain ⟨h1, h2, h3, h4, h5, h6⟩ := h
  refine ⟨some ⟨g, 0, none⟩, cap, by rw [← h2], .inr ⟨g, rfl, fun i hi => ?_⟩⟩
  rw [Nat.zero_add, hc i (by omega), R.cell i (by omega), h5 i (by omega)]; rfl
theorem below_setCells {B b : Nat} {a : World} (hb : B ≤ b) : ∀ (vs : List Value) (o : Nat) (w : World), Below B a w → Below B a (w.setCells b o vs)
  | [], _, _, h => h
  | v :: vs, o, w, h => below_setCells hb vs (o + 1) _ (Below.setCell (p := ⟨b, o, none⟩) h hb v)
set_option maxRecDepth 100000 in
set_option maxHeartbeats 16000000 in
theorem compactOk (g N cap : Nat) (h0 : 1 ≤ N) (hN : N ≤ 1000) (hcap : N ≤ cap) (w0 : World) (ys : List Nat) (w : World) (R : Row g N cap w0 ys w) :
    Calls Try.prog 37 #[.slice (some ⟨g, 0, none⟩) N cap, .func (.func 38) #[] #[]] w fun e w' => ∃ v, e = .returned v ∧ RowV w' v (uq ys N) ∧ Below g w0 w' := by
  have R0 := Lib.hid R
  have hB := Lib.hid (And.intro h0 (And.intro hN hcap))
  have HC := Lib.hid implSameP
  by_cases h2 : N < 2
  · obtain rfl : N = 1 := by omega
    have hF : RowV w (.slice (some ⟨g, 0, none⟩) 1 cap) (uq ys 1) := by
      refine ⟨some ⟨g, 0, none⟩, cap, rfl, .inr ⟨g, rfl, fun i hi => ?_⟩⟩
      have hi' : i < 1 := hi
      obtain rfl : i = 0 := by omega
      exact R.cell 0 (by omega)
    have F := Lib.hid (And.intro hF R.2.2.2)
    clear R hF h0 hN hcap h2
    go_enter Try.func37, Try.ntmps37
    go_wp2
    go_ret
    exact ⟨_, rfl, F.out⟩
  · have hd : decide ((N : Int) < 2) = false := decide_eq_false (by omega)
    have hNi : (N : Int) ≤ 1000 := by omega
    clear R h0 hN hcap h2
    go_enter Try.func37, Try.ntmps37
    go_wp2
    go_loopw [5] (fun vk wr => ∃ k : Nat, 1 ≤ k ∧ k ≤ N ∧ vk = .int .i64 (k : Int) ∧ Hid (Row g N cap w0 ys wr ∧ ∀ i, i < k → kp ys i = true)) (fun vk _ => N - (intOf vk).toNat)
    case atStart => exact ⟨1, Nat.le_refl _, hB.out.1, rfl, Lib.hid ⟨R0.out, fun i hi => kp_lt1 hi⟩⟩
    case round =>
      obtain ⟨k, hk1, hk, rfl, H⟩ := hrel
      by_cases hkn : k < N
      · have q0 : (k : Int) < (N : Int) := by omega
        have q1 : (1 : Int) ≤ (k : Int) := by omega
        have q2 : ((k : Int) - 1).toNat = k - 1 := by omega
        have c0 := H.out.1.cell k hkn
        have c1 := H.out.1.cell (k - 1) (by omega)
        have HCC := Lib.hid (HC.out _ _ (H.out.1.lt k hkn) (H.out.1.lt (k - 1) (by omega)))
        cases hs : sameC (va ys k) (va ys (k - 1))
        · rw [hs] at HCC
          have HK : Hid (kp ys k = true) := Lib.hid (by rw [kp_pos ys (by omega), hs]; rfl)
          clear hs
          go_wp2
          go_quiet ((go_at_call 38; exact quiet_left (HCC.out _)))
          go_wp2
          go_roundw
          case rel => exact ⟨k + 1, by omega, by omega, by go_num, Lib.hid ⟨H.out.1.drewN _, fun i hi => by
            by_cases e : i = k
            · rw [e]; exact HK.out
            · exact H.out.2 i (by omega)⟩⟩
          case measure => simp [intOf]; omega
        · rw [hs] at HCC
          have HK : Hid (Cmp ys N (k + 1) k ys) := Lib.hid (Cmp.start H.out.1.1 hkn H.out.2 (by rw [kp_pos ys (by omega), hs]; rfl))
          have hA : (if cap = k then some (⟨g, 0, none⟩ : Addr) else some ⟨g, k, none⟩) = some ⟨g, k, none⟩ := if_neg (by have := hB.out; omega)
          have q3 : (k : Int) ≤ (N : Int) := by omega
          have q4 : (N : Int) ≤ (cap : Int) := by have := hB.out; omega
          clear hs
          go_wp2
          go_quiet ((go_at_call 38; exact quiet_left (HCC.out _)))
          rename_i nq
          have HQ := Lib.hid (H.out.1.drewN nq)
          generalize wr.drewN nq = wq at *
          clear c0 c1 HCC H
          go_wp2
          obtain ⟨L, hL⟩ : ∃ L, L = N - k := ⟨_, rfl⟩
          obtain ⟨C, hC⟩ : ∃ C, C = cap - k := ⟨_, rfl⟩
          rw [← hL, ← hC]
          have HL := Lib.hid hL
          have hLi : (L : Int) ≤ 1000 := by omega
          clear hL hC hA q0 q1 q2 q3
          go_loopw [5, 7] (fun vk vi wr => ∃ (m j : Nat) (zs : List Nat), 1 ≤ j ∧ j ≤ L ∧ vk = .int .i64 (m : Int) ∧ vi = .int .i64 (j : Int) ∧ Hid (Row g N cap w0 zs wr ∧ Cmp ys N (k + j) m zs)) (fun _ vi _ => L - (intOf vi).toNat)
          case atStart => exact ⟨k, 1, ys, Nat.le_refl _, by have := HL.out; omega, rfl, rfl, Lib.hid ⟨HQ.out, HK.out⟩⟩
          case round =>
            clear HQ
            obtain ⟨m, j, zs, hj1, hj, rfl, rfl, H⟩ := hrel
            have hm0 : m < N := by have := H.out.2.2.2.1; have := H.out.2.2.2.2.1; omega
            by_cases hjL : j < L
            · have q0 : (j : Int) < (L : Int) := by omega
              have q1 : (1 : Int) ≤ (j : Int) := by omega
              have q2 : ((j : Int) - 1).toNat = j - 1 := by omega
              have q3 : (m : Int) < (N : Int) := by omega
              have hq : k + j < N := by have := HL.out; omega
              have e0 : va zs (k + j) = va ys (k + j) := H.out.2.2.2.2.2.2 _ (by omega) hq
              have e1 : va zs (k + (j - 1)) = va ys (k + j - 1) := by rw [show k + (j - 1) = k + j - 1 by omega]; exact H.out.2.2.2.2.2.2 _ (by omega) (by omega)
              have c0 := H.out.1.cell (k + j) hq
              have c1 := H.out.1.cell (k + (j - 1)) (by omega)
              rw [e0] at c0
              rw [e1] at c1
              have l0 : va ys (k + j) < B64 := by rw [← e0]; exact H.out.1.lt _ hq
              have l1 : va ys (k + j - 1) < B64 := by rw [← e1]; exact H.out.1.lt _ (by omega)
              have HCC := Lib.hid (HC.out _ _ l0 l1)
              have HLT := Lib.hid l0
              have HQQ := Lib.hid hq
              clear e0 e1 l0 l1 hq
              cases hs : sameC (va ys (k + j)) (va ys (k + j - 1))
              · rw [hs] at HCC
                have HP : Hid (kp ys (k + j) = true) := Lib.hid (by rw [kp_pos ys (by omega), hs]; rfl)
                clear hs
                go_wp2
                go_quiet ((go_at_call 38; exact quiet_left (HCC.out _)))
                rename_i nq
                have HQ := Lib.hid (H.out.1.drewN nq)
                have c2 := HQ.out.cell (k + j) HQQ.out
                have e2 : va zs (k + j) = va ys (k + j) := H.out.2.2.2.2.2.2 _ (by omega) HQQ.out
                rw [e2] at c2
                have c3 := HQ.out.cell m hm0
                have f3 := HQ.out.frozen m
                clear e2 c0 c1
                generalize wr.drewN nq = wq2 at *
                have HN := Lib.hid (And.intro (HQ.out.set m _ HLT.out) (H.out.2.keep HQQ.out HP.out))
                clear HQ
                go_wp2
                go_roundw
                case rel => exact ⟨m + 1, j + 1, _, by omega, by omega, by go_num, by go_num, HN⟩
                case measure => simp [intOf]; omega
              · rw [hs] at HCC
                have HP : Hid (kp ys (k + j) = false) := Lib.hid (by rw [kp_pos ys (by omega), hs]; rfl)
                clear hs
                go_wp2
                go_quiet ((go_at_call 38; exact quiet_left (HCC.out _)))
                go_wp2
                go_roundw
                case rel => exact ⟨m, j + 1, zs, by omega, by omega, rfl, by go_num, Lib.hid ⟨H.out.1.drewN _, H.out.2.skip HQQ.out HP.out⟩⟩
                case measure => simp [intOf]; omega
            · have q0 : decide ((j : Int) < (L : Int)) = false := decide_eq_false (by omega)
              have q3 : (m : Int) < (N : Int) := by omega
              have hA : (if cap = m then some (⟨g, 0, none⟩ : Addr) else some ⟨g, m, none⟩) = some ⟨g, m, none⟩ := if_neg (by have := hB.out; omega)
              have hcl : ∀ ty, (Builtin.clear_ #[35] ty #[.slice (some ⟨g, m, none⟩) (N - m) (cap - m)]).run Try.prog wr = .ok (.tuple #[]) (wr.setCells g m (List.replicate (N - m) (.complex .f32 0 0))) :=
                fun ty => Lib.run_clear_slice wr _ 37 ty (.complex .f32 0 0) Try.underlying35 (fun w => by kernel_rfl) rfl rfl g m _ _ (by omega) (fun i hi => by rw [H.out.1.cell (m + i) (by omega)]; rfl) (fun i hi => H.out.1.frozen (m + i))
              have hkj : k + j = N := by have := HL.out; omega
              have hF : RowV (wr.setCells g m (List.replicate (N - m) (.complex .f32 0 0))) (.slice (some ⟨g, 0, none⟩) m cap) (uq ys N) ∧ Below g w0 (wr.setCells g m (List.replicate (N - m) (.complex .f32 0 0))) :=
                ⟨Cmp.row (by have := H.out.2; rwa [hkj] at this) H.out.1 (fun i hi => World.cell?_setCells_out g _ m wr ⟨g, i, none⟩ (fun _ _ => .inl hi)), below_setCells (Nat.le_refl _) _ _ _ H.out.1.2.2.2⟩
              have F := Lib.hid hF
              have q5 : (m : Int) ≤ (N : Int) := by omega
              clear hF hkj H
              generalize wr.setCells g m (List.replicate (N - m) (.complex .f32 0 0)) = wz at *
              go_wp2
              go_ret
              exact ⟨_, rfl, F.out⟩
      · have q0 : decide ((k : Int) < (N : Int)) = false := decide_eq_false (by omega)
        obtain rfl : k = N := by omega
        have F : Hid (RowV wr (.slice (some ⟨g, 0, none⟩) k cap) (uq ys k) ∧ Below g w0 wr) := by
          have e : uq ys k = ys := by rw [uq_all (by rw [H.out.1.1]; exact Nat.le_refl _) H.out.2, List.take_of_length_le (by rw [H.out.1.1]; exact Nat.le_refl _)]
          rw [e]
          refine Lib.hid ⟨⟨_, cap, by rw [H.out.1.1], .inr ⟨g, rfl, fun i hi => ?_⟩⟩, H.out.1.2.2.2⟩
          rw [Nat.zero_add, H.out.1.cell i (by have := H.out.1.1; omega)]; rfl
        go_wp2
        go_ret
        exact ⟨_, rfl, F.out⟩
set_option maxHeartbeats 4000000 in
theorem implUniq (a : Option Addr) (n c : Nat) (xs : List Nat) (w : World) (hs : Src w a n xs) (h1 : 1 ≤ n) (hn : n ≤ 19) :
    Calls Try.prog 19 #[.slice a n c] w (UniqP w xs) := by
  have hn0 : decide ((256 : Int) < (n : Int)) = false := decide_eq_false (by omega)
  have HK := Lib.hid (sortedOk a n c xs w hs hn)
  have HS := Lib.hid (And.intro hs.1 (And.intro hs.2.1 (And.intro h1 hn)))
  clear hs h1 hn
  go_enter Try.func19, Try.ntmps19
  go_wp2_with fail
  refine HK.out.mono ?_
  rintro _ w1 ⟨v, rfl, h⟩
  obtain ⟨g, cap, ys, rfl, hZ, hR, hcap, hp, ho, hb⟩ := h.row (by have := HS.out; omega) HS.out.2.1
  rw [HS.out.1] at hR hcap ⊢
  have HL : ys.length = n := by rw [hp.length_eq, HS.out.1]
  have HC := Lib.hid (compactOk g n cap HS.out.2.2.1 (by have := HS.out; omega) hcap.1 w1 ys w1 hR)
  have U : Hid (Uniq xs (uq ys n) ∧ (uq ys n).length ≤ xs.length) := Lib.hid ⟨by have := uniq_of hp ho HS.out.2.1; rwa [HL] at this, by rw [HS.out.1]; exact uq_len ys n⟩
  have B := Lib.hid (And.intro hZ hb)
  clear HK h hR hp ho hb hZ hcap HL
  go_wp2_with fail
  refine HC.out.mono ?_
  rintro _ w2 ⟨v, rfl, h1, h2⟩
  have F : Hid (UniqP w xs (.returned (.tuple #[v, .int .i64 0])) w2) := Lib.hid ⟨v, _, ⟨rfl, U.out⟩, h1, Below.trans B.out.2 (Below.mono h2 B.out.1)⟩
  clear h1 h2 HC
  go_wp2
  go_ret2
  exact F.out
end Go.Proofs.Ytbceiphiopdegaa.Pt
