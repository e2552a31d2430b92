/-
  The law FnSorted: the walk.
-/
import Derived.Test.YtbceiphiopdegaaSame
import Derived.Test.YtbceiphiopdegaaDraw3
import Derived.Test.YtbceiphiopdegaaOpen8
set_option linter.unusedSimpArgs false
set_option linter.unusedVariables false
namespace Go.Proofs.Ytbceiphiopdegaa
open Go.RowKit

theorem src_own {w : World} {Z : Nat} {v : Value} {xs : List Nat} (h : w.ownsRow Z 34 1 v xs.length (xs.map (Value.float .f32))) (hB : ∀ x ∈ xs, x < 4294967296) :
    ∃ a c, v = .slice a xs.length c ∧ Src w a xs.length xs := by
  obtain ⟨a, c, e, h⟩ := rowV_of h
  refine ⟨a, c, e, rfl, hB, ?_⟩
  rcases h with rfl | ⟨g, e2, h⟩
  · exact .inl rfl
  · exact .inr ⟨g, 0, e2, h⟩
theorem RowV.kept {w w' : World} {v : Value} {ys : List Nat} (h : RowV w v ys) (hk : Kept w w') : RowV w' v ys := by
  obtain ⟨a, c, rfl, h | ⟨g, rfl, h⟩⟩ := h
  · exact ⟨a, c, rfl, .inl h⟩
  · exact ⟨_, c, rfl, .inr ⟨g, rfl, h.kept hk⟩⟩
theorem row_under {w w' : World} {Z n : Nat} {v : Value} {e : TypeId} {xs : List Value} (h : w.ownsRow Z e 1 v n xs) (hb : Below w.heap.size w w') : w'.ownsRow Z e 1 v n xs := World.ownsRow.kept h (grown_of_below hb) (Classical.em _)
/-- two neighbours in order: what the law asks of their places -/
theorem neighbours {ys : List Nat} (ho : Ordd ys) (hB : ∀ x ∈ ys, x < 4294967296) {i : Nat} (h1 : 1 ≤ i) (h2 : i < ys.length) :
    (nanB (va ys (i - 1)) = true ∧ nanB (va ys i) = true) ∨ (nanB (va ys (i - 1)) = false ∧ nanB (va ys i) = true) ∨ (nanB (va ys (i - 1)) = false ∧ nanB (va ys i) = false ∧ decide (keyB (va ys i) < keyB (va ys (i - 1))) = false) := by
  have hk := ho (i - 1) i (Nat.zero_le _) (by omega) h2
  have hm : va ys i < 4294967296 := by
    have e : va ys i = ys[i] := by simp [va, List.getD, h2]
    rw [e]; exact hB _ (List.getElem_mem _)
  have hl := keyB_lt (va ys i) hm
  cases na : nanB (va ys (i - 1)) <;> cases nb : nanB (va ys i)
  · rw [keyR_num na, keyR_num nb] at hk
    exact .inr (.inr ⟨rfl, rfl, decide_eq_false (by omega)⟩)
  · exact .inr (.inl ⟨rfl, rfl⟩)
  · rw [keyR_nan na, keyR_num nb] at hk; unfold kNaN at hk; omega
  · exact .inl ⟨rfl, rfl⟩
theorem same_of_ord {xs us vs : List Nat} (h1 : us.Perm xs) (h2 : vs.Perm xs) (o1 : Ordd us) (o2 : Ordd vs) (hB : ∀ x ∈ xs, x < 4294967296) :
    vs.length = us.length ∧ ∀ i, i < us.length → sameB (va us i) (va vs i) = true := by
  refine ⟨by rw [h1.length_eq, h2.length_eq], fun i hi => ?_⟩
  rcases ord_eqn h1 h2 o1 o2 hB i hi with h | ⟨h, h'⟩
  · have e : va us i = va vs i := h
    rw [e]
    cases hn : nanB (va vs i)
    · rw [same_num _ _ hn]; simp
    · rw [same_nan _ _ hn]; exact hn
  · have g : nanB (va us i) = true := h
    have g' : nanB (va vs i) = true := h'
    rw [same_nan _ _ g]; exact g'
namespace Pt
theorem own_open {w : World} {Z n : Nat} {v : Value} {ys : List Nat} (h : w.ownsRow Z 37 1 v n (ys.map cxv)) (hn : 1 ≤ n) : ∃ g c, v = .slice (some ⟨g, 0, none⟩) n c ∧ Holds32 w g 0 n ys ∧ ys.length = n := by
  have hl : ys.length = n := by have := h.1; rw [List.length_map] at this; omega
  have h0 := h
  rcases h.2 with ⟨_, e⟩ | ⟨g, cap, cur, rfl, _⟩
  · omega
  · refine ⟨g, cap, rfl, fun i hi => ?_, hl⟩
    rw [Nat.zero_add, World.ownsRow.cellAt h0 i (by omega), List.getElem?_map, va_get ys i (by omega)]; rfl
theorem src_holds {w : World} {g n : Nat} {ys : List Nat} (h : Holds32 w g 0 n ys) (hl : ys.length = n) (hB : ∀ x ∈ ys, x < B64) : Src w (some ⟨g, 0, none⟩) n ys := ⟨hl, hB, .inr ⟨g, 0, rfl, h⟩⟩
theorem snoc_cxv (ps : List Nat) (z : Nat) : ps.map cxv ++ [.complex .f32 (reP z) (imP z)] = (ps ++ [z]).map cxv := by rw [List.map_append]; rfl
theorem snoc_lt {ps : List Nat} {z : Nat} (h : ∀ x ∈ ps, x < B64) (hz : z < B64) : ∀ x ∈ ps ++ [z], x < B64 := fun x hx => by
  rcases List.mem_append.1 hx with e | e
  · exact h x e
  · rw [List.mem_singleton.1 e]; exact hz
/-- a row that is read, as an append's source -/
theorem news {w : World} {g n : Nat} {ys : List Nat} (h : Holds32 w g 0 n ys) (hl : ys.length = n) : ∀ j u, (ys.map cxv)[j]? = some u → w.cell? ((⟨g, 0, none⟩ : Addr).add j) = some u := fun j u hu => by
  have hj : j < (ys.map cxv).length := (List.getElem?_eq_some_iff.1 hu).1
  rw [List.length_map] at hj
  rw [List.getElem?_map, va_get ys j hj] at hu
  obtain rfl : u = cxv (va ys j) := by simpa using hu.symm
  rw [add_cell]; exact h j (by omega)
theorem one_cells (ys : List Nat) : ∀ u ∈ ys.map cxv, u.oneCell' = true := fun u hu => by obtain ⟨y, _, rfl⟩ := List.mem_map.1 hu; rfl
theorem uniq_ne {xs us : List Nat} (h : Uniq xs us) (hx : 1 ≤ xs.length) : 1 ≤ us.length := by
  obtain ⟨x, hx'⟩ := List.exists_mem_of_length_pos hx
  obtain ⟨u, hu, _⟩ := (h.2.1 (keyC x)).2 ⟨x, hx', rfl⟩
  exact List.length_pos_of_mem hu
theorem RowV.open {w : World} {v : Value} {ys : List Nat} (h : RowV w v ys) (hn : 1 ≤ ys.length) : ∃ g c, v = .slice (some ⟨g, 0, none⟩) ys.length c ∧ Holds32 w g 0 ys.length ys := by
  obtain ⟨a, c, rfl, h | ⟨g, rfl, h⟩⟩ := h
  · rw [h] at hn; simp at hn
  · exact ⟨g, c, rfl, h⟩
end Pt
set_option maxRecDepth 100000 in
set_option maxHeartbeats 16000000 in
theorem law_FnSorted (a b : Option Addr) (n c m d : Nat) (hn : n ≤ 9223372036854775807) (hm : m ≤ 9223372036854775807) (w : World) (ha : Bytes a n w) (hb : Bytes b m w) :
    Calls Try.prog 4 #[.slice a n c, .slice b m d] w fun e w' => e = .returned (.bool true) ∧ Below w.heap.size w w' := by
  have HA := Lib.hid ha
  have HB := Lib.hid hb
  clear ha hb
  by_cases hn4 : 4096 < n
  · have BA := Lib.hid (bigOk a n c true (decide_eq_true (by omega)))
    clear hn hm hn4
    go_enter Try.func4, Try.ntmps4
    go_wp2_with fail
    refine (BA.out _).mono ?_
    rintro _ _ ⟨rfl, rfl⟩
    go_wp2
    go_ret
    exact ⟨rfl, Below.refl _ _⟩
  have BA := Lib.hid (bigOk a n c false (decide_eq_false (by omega)))
  by_cases hm4 : 4096 < m
  · have BB := Lib.hid (bigOk b m d true (decide_eq_true (by omega)))
    clear hn hm hn4 hm4
    go_enter Try.func4, Try.ntmps4
    go_wp2_with fail
    refine (BA.out _).mono ?_
    rintro _ _ ⟨rfl, rfl⟩
    go_wp2_with fail
    refine (BB.out _).mono ?_
    rintro _ _ ⟨rfl, rfl⟩
    go_wp2
    go_ret
    exact ⟨rfl, Below.refl _ _⟩
  have BB := Lib.hid (bigOk b m d false (decide_eq_false (by omega)))
  have HN := Lib.hid (And.intro hn hm)
  clear hn hm hn4 hm4
  go_enter Try.func4, Try.ntmps4
  go_wp2_with fail
  refine (BA.out _).mono ?_
  rintro _ _ ⟨rfl, rfl⟩
  go_wp2_with fail
  refine (BB.out _).mono ?_
  rintro _ _ ⟨rfl, rfl⟩
  clear BA BB
  -- the numbers
  go_wp2_with fail
  refine (Pt.realsOk a n c HN.out.1 _ HA.out).mono ?_
  rintro _ w1 hx
  obtain ⟨v0, xs, ⟨rfl, hx9, hxB⟩, hrow, hk⟩ := hx
  obtain ⟨ax, cx, rfl, hsrc⟩ := src_own hrow hxB
  have K1 := Lib.hid hk
  have S1 := Lib.hid hsrc
  have X := Lib.hid (And.intro hx9 hxB)
  obtain ⟨N, hNx⟩ : ∃ N, N = xs.length := ⟨_, rfl⟩
  rw [← hNx]
  have HNX := Lib.hid hNx
  have q9 : (N : Int) ≤ 9 := by omega
  clear hrow hk hsrc hx9 hxB hNx
  go_wp2_with fail
  refine (implOk ax N cx xs _ (by rw [HNX.out]; exact S1.out) (by omega)).mono ?_
  rintro _ w2 ⟨v1, rfl, hs⟩
  obtain ⟨us, ho1, hp1, hr1, hk1⟩ := hs
  have RV1 := Lib.hid (rowV_of ho1)
  have P1 := Lib.hid (And.intro hp1 hr1)
  have K2 : Hid (Kept w w2) := Lib.hid (Kept.trans K1.out hk1)
  have S2 : Hid (Src w2 ax xs.length xs) := Lib.hid (S1.out.kept hk1)
  clear ho1 hp1 hr1 hk1 K1 S1
  go_wp2_with fail
  refine (specOk ax N cx xs _ (by rw [HNX.out]; exact S2.out) (by omega)).mono ?_
  rintro _ w3 ⟨v2, rfl, hs⟩
  obtain ⟨ys, ho2, hp2, hr2, hk2⟩ := hs
  have hyl : ys.length = N := by rw [hp2.length_eq, HNX.out]
  obtain ⟨a2, c2', rfl, hrv⟩ := rowV_of ho2
  have RV2 : Hid (RowV w3 (.slice a2 ys.length c2') ys) := Lib.hid ⟨a2, c2', rfl, hrv⟩
  rw [hyl] at RV2 ⊢
  have E : Hid (ys.length = us.length ∧ us.length ≤ 1000 ∧ ∀ i, i < us.length → sameB (va us i) (va ys i) = true) := by
    obtain ⟨e1, e2⟩ := same_of_ord P1.out.1 hp2 P1.out.2 hr2 X.out.2
    exact Lib.hid ⟨e1, by have := X.out.1; have := hp2.length_eq; omega, e2⟩
  have O2 : Hid (Ordd ys ∧ (∀ x ∈ ys, x < 4294967296) ∧ ys.length = N) := Lib.hid ⟨hr2, fun x hx => X.out.2 x (hp2.mem_iff.1 hx), hyl⟩
  have RV1' := Lib.hid (RV1.out.kept hk2)
  have K3 : Hid (Kept w w3) := Lib.hid (Kept.trans K2.out hk2)
  clear ho2 hp2 hr2 hk2 hyl hrv P1 K2 S2 RV1
  go_wp2_with fail
  refine (sameReals v1 _ us ys _ E.out.2.1 E.out.1 RV1'.out RV2.out E.out.2.2).mono ?_
  rintro _ w4 ⟨rfl, hd⟩
  have RV3 := Lib.hid (RV2.out.kept ((Kept.refl _).drawn hd))
  have K4 : Hid (Kept w w4) := Lib.hid (K3.out.drawn hd)
  clear hd K3 RV1' RV2 E
  go_wp2
  go_loopw [10] (fun vi wr => ∃ i : Nat, 1 ≤ i ∧ vi = .int .i64 (i : Int) ∧ Hid (wr = w4)) (fun vi _ => N - (intOf vi).toNat)
  case atStart => exact ⟨1, Nat.le_refl _, rfl, Lib.hid rfl⟩
  case round =>
    obtain ⟨i, hi, rfl, HW⟩ := hrel
    obtain rfl := HW.out
    clear HW
    by_cases hiN : i < N
    · have q0 : (i : Int) < (N : Int) := by omega
      have q1 : (1 : Int) ≤ (i : Int) := by omega
      have q2 : ((i : Int) - 1).toNat = i - 1 := by omega
      have NB := neighbours O2.out.1 O2.out.2.1 hi (by rw [O2.out.2.2]; exact hiN)
      obtain ⟨g2, rfl, hcells⟩ : ∃ g2, a2 = some ⟨g2, 0, none⟩ ∧ Holds32 wr g2 0 N ys := by
        obtain ⟨a', c', e, h⟩ := RV3.out
        cases e
        rcases h with h | ⟨g2, e2, h⟩
        · have e3 := O2.out.2.2
          have e4 : ys.length = 0 := by rw [h]; rfl
          omega
        · refine ⟨g2, e2, ?_⟩
          have := O2.out.2.2
          rwa [this] at h
      have c0 := hcells i hiN
      have c1 := hcells (i - 1) (by omega)
      rw [Nat.zero_add] at c0 c1
      have hOB : ∀ j, j < N → va ys j < 4294967296 := fun j hj => by
        have hl : j < ys.length := by rw [O2.out.2.2]; exact hj
        have e : va ys j = ys[j] := by simp [va, List.getD, hl]
        rw [e]; exact O2.out.2.1 _ (List.getElem_mem _)
      have C0 := Lib.hid (specOrderKey (ys.getD i 0) (hOB i hiN))
      have C1 := Lib.hid (specOrderKey (ys.getD (i - 1) 0) (hOB (i - 1) (by omega)))
      have NB : (nanB (ys.getD (i - 1) 0) = true ∧ nanB (ys.getD i 0) = true) ∨ (nanB (ys.getD (i - 1) 0) = false ∧ nanB (ys.getD i 0) = true) ∨ (nanB (ys.getD (i - 1) 0) = false ∧ nanB (ys.getD i 0) = false ∧ decide (keyB (ys.getD i 0) < keyB (ys.getD (i - 1) 0)) = false) := NB
      generalize ys.getD i 0 = x at *
      generalize ys.getD (i - 1) 0 = y at *
      clear hOB hcells
      rcases NB with ⟨ny, nx⟩ | ⟨ny, nx⟩ | ⟨ny, nx, nk⟩
      all_goals
        rw [nx] at C0
        rw [ny] at C1
        simp only [if_true, if_false, Bool.false_eq_true] at C0 C1
        clear nx ny
        go_wp2_with fail
        refine (C1.out _).mono ?_
        rintro _ _ ⟨rfl, rfl⟩
        go_wp2_with fail
        refine (C0.out _).mono ?_
        rintro _ _ ⟨rfl, rfl⟩
        go_wp2
        go_roundw
        case rel => exact ⟨i + 1, by omega, by go_num, by first | exact Lib.hid rfl | exact Lib.hid trivial⟩
        case measure => simp [intOf]; omega
    · have q0 : decide ((i : Int) < (N : Int)) = false := decide_eq_false (by omega)
      clear RV3 O2 q9 HNX X
      go_wp2_with fail
      refine (Pt.pointsOk b m d HN.out.2 _ (HB.out.kept K4.out)).mono ?_
      rintro _ w5 hx
      obtain ⟨vp, ps, ⟨rfl, hp8, hpB⟩, hrow, hk⟩ := hx
      have K5 : Hid (Kept w w5) := Lib.hid (Kept.trans K4.out hk)
      have R5 := Lib.hid hrow
      have P5 := Lib.hid (And.intro hp8 hpB)
      have Z5 : Hid (w.heap.size ≤ wr.heap.size ∧ wr.heap.size ≤ w5.heap.size) := Lib.hid ⟨K4.out.size, hk.size⟩
      clear hrow hk hp8 hpB K4
      go_wp2_with fail
      refine (Pt.wildOk a n c HN.out.1 _ (HA.out.kept K5.out)).mono ?_
      rintro _ w6 hx
      obtain ⟨z, ⟨rfl, hz⟩, hk⟩ := hx
      have K6 : Hid (Kept w w6) := Lib.hid (Kept.trans K5.out hk)
      have R6 := Lib.hid (row_under R5.out hk)
      have L6 : Hid (w5.heap.size ≤ w6.heap.size) := Lib.hid hk.size
      have PZ := Lib.hid hz
      obtain ⟨i0, i1, i2, i3, i4⟩ := info_parts Pt.info32
      have II := Lib.hid (And.intro i1 (And.intro i2 (And.intro i3 i4)))
      clear hz hk K5 R5 i1 i2 i3 i4
      go_wp2_with (at_builtin; refine wpList_append_own _ rfl _ _ 35 rfl wr.heap.size 37 i0 (.complex .f32 0 0) 1 8 Try.underlying35 II.out.1 II.out.2.1 II.out.2.2.1 II.out.2.2.2 rfl (by decide) _ _ _ rfl (World.ownsRow.alloc R6.out _) ⟨w6.heap.size, 0, none⟩ 1 1 [.complex .f32 (Pt.reP z) (Pt.imP z)] rfl rfl (cell_one_new _ _ _) ?c2 ?c3 ?c4 ?c5 ?_)
      case c2 => simp [Value.oneCell']
      case c3 => have := P5.out.1; unfold maxLen; omega
      case c4 => have := P5.out.1; omega
      case c5 => have := Z5.out.2; have := L6.out; simp; omega
      intro v' w7 hown hgrow _
      have hK7 : Kept w w7 := Below.grown (K6.out.alloc _) hgrow (by have := K6.out.size; simp; omega) (fun k hk => by have := (R6.out.lt k hk).1; have := Z5.out.1; omega)
      rw [Pt.snoc_cxv] at hown
      obtain ⟨g, cl, rfl, hh, hl⟩ := Pt.own_open hown (by omega)
      have K7 := Lib.hid hK7
      have B7 := Lib.hid (Pt.snoc_lt P5.out.2 PZ.out)
      have hM9 : ps.length + 1 ≤ 9 := by have := P5.out.1; omega
      have H7 := Lib.hid hh
      have M1 : 1 ≤ ps.length + 1 := by omega
      generalize ps ++ [z] = L at *
      generalize ps.length + 1 = M at *
      have HM := Lib.hid (And.intro hl (And.intro M1 hM9))
      clear hown hgrow hh hl hK7 K6 R6 L6 Z5 P5 PZ hM9 M1
      go_wp2_with fail
      refine (Pt.implOk (some ⟨g, 0, none⟩) M cl L _ (Pt.src_holds H7.out HM.out.1 B7.out) (by have := HM.out; omega)).mono ?_
      rintro _ w8 ⟨v3, rfl, hs⟩
      obtain ⟨us, ho, hp, hr, hk⟩ := hs
      have RB := Lib.hid (Pt.rowV_of ho)
      have PB := Lib.hid (And.intro hp hr)
      have K8 : Hid (Kept w w8) := Lib.hid (Kept.trans K7.out hk)
      have H8 : Hid (Pt.Holds32 w8 g 0 M L) := Lib.hid (H7.out.kept hk)
      clear ho hp hr hk K7 H7
      go_wp2_with fail
      refine (Pt.specOk (some ⟨g, 0, none⟩) M cl L _ (Pt.src_holds H8.out HM.out.1 B7.out) (by have := HM.out; omega)).mono ?_
      rintro _ w9 ⟨v4, rfl, hs⟩
      obtain ⟨ys, ho, hp, hr, hk⟩ := hs
      have hyl : ys.length = M := by rw [hp.length_eq, HM.out.1]
      obtain ⟨a4, c4, rfl, hrv⟩ := Pt.rowV_of ho
      have RM : Hid (Pt.RowV w9 (.slice a4 ys.length c4) ys) := Lib.hid ⟨a4, c4, rfl, hrv⟩
      rw [hyl] at RM ⊢
      have E1 : Hid (ys.length = us.length ∧ us.length ≤ 1000 ∧ ∀ i, i < us.length → Pt.sameC (va us i) (va ys i) = true) := by
        obtain ⟨e1, e2⟩ := Pt.ord_same PB.out.1 hp PB.out.2 hr B7.out
        exact Lib.hid ⟨e1, by have := HM.out; omega, e2⟩
      have RB9 := Lib.hid (RB.out.kept hk)
      have K9 : Hid (Kept w w9) := Lib.hid (Kept.trans K8.out hk)
      have H9 : Hid (Pt.Holds32 w9 g 0 M L) := Lib.hid (H8.out.kept hk)
      clear ho hp hr hk hyl hrv PB K8 H8 RB
      go_wp2_with fail
      refine (Pt.implUniq (some ⟨g, 0, none⟩) M cl L _ (Pt.src_holds H9.out HM.out.1 B7.out) HM.out.2.1 (by have := HM.out; omega)).mono ?_
      rintro _ w10 hs
      obtain ⟨v5, cs, ⟨rfl, hu, hul⟩, hrv, hk⟩ := hs
      have UC := Lib.hid (And.intro hu hul)
      have RC := Lib.hid hrv
      have RB10 := Lib.hid (RB9.out.kept hk)
      have RM10 := Lib.hid (RM.out.kept hk)
      have K10 : Hid (Kept w w10) := Lib.hid (Kept.trans K9.out hk)
      have H10 : Hid (Pt.Holds32 w10 g 0 M L) := Lib.hid (H9.out.kept hk)
      clear hu hul hrv hk RB9 RM K9 H9
      go_wp2_with fail
      refine (Pt.specUniq (some ⟨g, 0, none⟩) M cl L _ (Pt.src_holds H10.out HM.out.1 B7.out) HM.out.2.1 (by have := HM.out; omega)).mono ?_
      rintro _ w11 hs
      obtain ⟨v6, os, ⟨rfl, hu, hul⟩, hrv, hk⟩ := hs
      obtain ⟨go, co, rfl, hho⟩ := hrv.open (Pt.uniq_ne hu (by have := HM.out; omega))
      have UO := Lib.hid (And.intro hu (And.intro hul (Pt.uniq_ne hu (by have := HM.out; omega))))
      have HO := Lib.hid hho
      have RC11 := Lib.hid (RC.out.kept hk)
      have RB11 := Lib.hid (RB10.out.kept hk)
      have RM11 := Lib.hid (RM10.out.kept hk)
      have K11 : Hid (Kept w w11) := Lib.hid (Kept.trans K10.out hk)
      have H11 : Hid (Pt.Holds32 w11 g 0 M L) := Lib.hid (H10.out.kept hk)
      obtain ⟨Q, hQ⟩ : ∃ Q, Q = os.length := ⟨_, rfl⟩
      rw [← hQ] at HO ⊢
      have HQ := Lib.hid hQ
      clear hu hul hrv hk hho hQ RC RB10 RM10 K10 H10
      have HE : Hid ((w11.alloc (.cells #[] 37)).ownsRow w11.heap.size 37 1 (.slice (some ⟨w11.heap.size, 0, none⟩) 0 0) 0 []) := Lib.hid (World.ownsRow_made w11 #[] 0 (Nat.le_refl _) (by decide) rfl)
      have KE : Hid (Kept w11 (w11.alloc (.cells #[] 37))) := Lib.hid ((Kept.refl w11).alloc _)
      have HOE := Lib.hid (Pt.news (HO.out.kept KE.out) HQ.out.symm)
      have HOL : Hid ((os.map Pt.cxv).length = Q * 1) := Lib.hid (by rw [List.length_map, Nat.mul_one]; exact HQ.out.symm)
      have HO1 := Lib.hid (Pt.one_cells os)
      have HL1 := Lib.hid (Pt.one_cells L)
      have HLL : Hid ((L.map Pt.cxv).length = M * 1) := Lib.hid (by rw [List.length_map, Nat.mul_one]; exact HM.out.1)
      have HQ9 : Hid (Q ≤ 9) := Lib.hid (by have := UO.out.2.1; have := HM.out; have := HQ.out; omega)
      go_wp2_with (at_builtin; refine wpList_append_own _ rfl _ _ 35 rfl w11.heap.size 37 i0 (.complex .f32 0 0) 1 8 Try.underlying35 II.out.1 II.out.2.1 II.out.2.2.1 II.out.2.2.2 rfl (by decide) (.slice (some ⟨w11.heap.size, 0, none⟩) 0 0) 0 [] rfl HE.out ⟨go, 0, none⟩ Q co (os.map Pt.cxv) rfl HOL.out HOE.out HO1.out (by have := HQ9.out; unfold maxLen; omega) (by have := HQ9.out; omega) KE.out.size ?_)
      intro v8 w12 hown hgrow _
      have K12 : Hid (Kept w11 w12) := Lib.hid (Below.grown KE.out hgrow KE.out.size (fun k hk => by simp [Value.ownBlock] at hk; omega))
      have O12 : Hid (w12.ownsRow w11.heap.size 37 1 v8 (0 + Q) ([] ++ os.map Pt.cxv)) := Lib.hid (by first | exact hown | simpa using hown)
      have HLN := Lib.hid (Pt.news (H11.out.kept K12.out) HM.out.1)
      clear hown hgrow HE KE HOE HOL HO1
      go_wp2_with (at_builtin; refine wpList_append_own _ rfl _ _ 35 rfl w11.heap.size 37 i0 (.complex .f32 0 0) 1 8 Try.underlying35 II.out.1 II.out.2.1 II.out.2.2.1 II.out.2.2.2 rfl (by decide) v8 (0 + Q) ([] ++ os.map Pt.cxv) rfl O12.out ⟨g, 0, none⟩ M cl (L.map Pt.cxv) rfl HLL.out HLN.out HL1.out (by have := HQ9.out; have := HM.out; unfold maxLen; omega) (by have := HQ9.out; have := HM.out; omega) K12.out.size ?_)
      intro v9 w13 hown hgrow _
      have K13 : Hid (Kept w11 w13) := Lib.hid (Below.grown K12.out hgrow K12.out.size (fun k hk => (O12.out.lt k hk).1))
      have hown2 : w13.ownsRow w11.heap.size 37 1 v9 (0 + Q + M) ((os ++ L).map Pt.cxv) := by
        rw [List.map_append]
        first | exact hown | simpa using hown
      obtain ⟨gB, cB, rfl, hhB, hlB⟩ := Pt.own_open hown2 (by have := HM.out; omega)
      have HB13 := Lib.hid hhB
      have hBB : ∀ x ∈ os ++ L, x < Pt.B64 := fun x hx => by
        rcases List.mem_append.1 hx with e | e
        · exact UO.out.1.2.2 x e
        · exact B7.out x e
      have BB := Lib.hid hBB
      obtain ⟨R, hR⟩ : ∃ R, R = 0 + Q + M := ⟨_, rfl⟩
      rw [← hR] at HB13 hlB ⊢
      have HR := Lib.hid (And.intro hR hlB)
      have RC13 := Lib.hid (RC11.out.kept K13.out)
      have RB13 := Lib.hid (RB11.out.kept K13.out)
      have RM13 := Lib.hid (RM11.out.kept K13.out)
      have RO13 : Hid (Pt.Holds32 w13 go 0 Q os) := Lib.hid (HO.out.kept K13.out)
      have H13 : Hid (Pt.Holds32 w13 g 0 M L) := Lib.hid (H11.out.kept K13.out)
      have KW : Hid (Kept w w13) := Lib.hid (Kept.trans K11.out K13.out)
      clear hown hgrow hown2 hhB hlB hBB hR O12 HLN HLL HL1 K12 K13 RC11 RB11 RM11 HO H11 K11
      go_wp2_with fail
      refine (Pt.implUniq (some ⟨gB, 0, none⟩) R cB (os ++ L) _ (Pt.src_holds HB13.out HR.out.2 BB.out) (by have := HR.out.1; have := HM.out; omega) (by have := HR.out.1; have := HM.out; have := HQ9.out; omega)).mono ?_
      rintro _ w14 hs
      obtain ⟨v7, gs, ⟨rfl, hu, hul⟩, hrv, hk⟩ := hs
      have UG := Lib.hid (And.intro (Pt.uniq_more UO.out.1 hu) hul)
      have RG := Lib.hid hrv
      have RC14 := Lib.hid (RC13.out.kept hk)
      have RB14 := Lib.hid (RB13.out.kept hk)
      have RM14 := Lib.hid (RM13.out.kept hk)
      have RO14 : Hid (Pt.Holds32 w14 go 0 Q os) := Lib.hid (RO13.out.kept hk)
      have H14 : Hid (Pt.Holds32 w14 g 0 M L) := Lib.hid (H13.out.kept hk)
      have K14 : Hid (Kept w w14) := Lib.hid (Kept.trans KW.out hk)
      clear hu hul hrv hk RC13 RB13 RM13 RO13 H13 KW HB13 BB
      have E2 := Lib.hid (Pt.keys_same (Pt.uniq_keys UC.out.1 UO.out.1) UC.out.1.2.2 UO.out.1.2.2)
      have E3 := Lib.hid (Pt.keys_same (Pt.uniq_keys UG.out.1 UO.out.1) UG.out.1.2.2 UO.out.1.2.2)
      have HQ2 : Hid (os.length ≤ 9) := Lib.hid (by have := HQ9.out; have := HQ.out; omega)
      go_wp2_with fail
      refine (Pt.samePoints v3 _ us ys _ E1.out.2.1 E1.out.1 RB14.out RM14.out E1.out.2.2).mono ?_
      rintro _ w15 ⟨rfl, hd⟩
      have D15 := (Kept.refl w14).drawn hd
      have RC15 := Lib.hid (RC14.out.kept D15)
      have RG15 := Lib.hid (RG.out.kept D15)
      have RO15 : Hid (Pt.Holds32 w15 go 0 Q os) := Lib.hid (RO14.out.kept D15)
      have H15 : Hid (Pt.Holds32 w15 g 0 M L) := Lib.hid (H14.out.kept D15)
      have K15 : Hid (Kept w w15) := Lib.hid (Kept.trans K14.out D15)
      clear hd D15 RC14 RB14 RM14 RO14 H14 K14 RG E1
      go_wp2_with fail
      refine (Pt.samePoints v5 _ cs os _ (by have := E2.out.1; have := HQ2.out; omega) E2.out.1 RC15.out ⟨_, co, by rw [HQ.out], .inr ⟨go, rfl, by rw [← HQ.out]; exact RO15.out⟩⟩ E2.out.2).mono ?_
      rintro _ w16 ⟨rfl, hd⟩
      have D16 := (Kept.refl w15).drawn hd
      have RG16 := Lib.hid (RG15.out.kept D16)
      have RO16 : Hid (Pt.Holds32 w16 go 0 Q os) := Lib.hid (RO15.out.kept D16)
      have H16 : Hid (Pt.Holds32 w16 g 0 M L) := Lib.hid (H15.out.kept D16)
      have K16 : Hid (Kept w w16) := Lib.hid (Kept.trans K15.out D16)
      clear hd D16 RC15 RG15 RO15 H15 K15 E2
      go_wp2_with fail
      refine (Pt.samePoints v7 _ gs os _ (by have := E3.out.1; have := HQ2.out; omega) E3.out.1 RG16.out ⟨_, co, by rw [HQ.out], .inr ⟨go, rfl, by rw [← HQ.out]; exact RO16.out⟩⟩ E3.out.2).mono ?_
      rintro _ w17 ⟨rfl, hd⟩
      have D17 := (Kept.refl w16).drawn hd
      have RO17 : Hid (Pt.Holds32 w17 go 0 Q os) := Lib.hid (RO16.out.kept D17)
      have H17 : Hid (Pt.Holds32 w17 g 0 M L) := Lib.hid (H16.out.kept D17)
      have K17 : Hid (Kept w w17) := Lib.hid (Kept.trans K16.out D17)
      clear hd D17 RG16 RO16 H16 K16 E3
      obtain ⟨wo, rfl⟩ : ∃ wo : World, wo = wr := ⟨_, rfl⟩
      clear q0 hiN hi
      have hQ9 : (Q : Int) ≤ 9 := by have := HQ9.out; omega
      have hM9 : (M : Int) ≤ 9 := by have := HM.out; omega
      go_wp2
      go_loopw [26] (fun vj wr => ∃ j : Nat, j ≤ M ∧ vj = .int .i64 (j : Int) ∧ Hid (Drawn w17 wr)) (fun vj _ => M - (intOf vj).toNat)
      case atStart => exact ⟨0, Nat.zero_le _, rfl, Lib.hid (Drawn.refl _)⟩
      case round =>
        obtain ⟨j, hj, rfl, HD⟩ := hrel
        by_cases hjM : j < M
        · have q0 : (j : Int) < (M : Int) := by omega
          have q1 : (0 : Int) ≤ (j : Int) := by omega
          have hxB : va L j < Pt.B64 := B7.out _ (Pt.va_mem (by rw [HM.out.1]; exact hjM))
          have HX : Hid (Pt.met os (va L j) Q = 1) := Lib.hid (by rw [HQ.out]; exact Pt.met_one UO.out.1 (Pt.va_mem (by rw [HM.out.1]; exact hjM)) hxB)
          clear hxB
          obtain ⟨wi, rfl⟩ : ∃ wi : World, wi = wr := ⟨_, rfl⟩
          go_wp2
          go_loopw [27, 28] (fun vf vk wr => ∃ k t : Nat, k ≤ Q ∧ t ≤ k ∧ vf = .int .i64 (t : Int) ∧ vk = .int .i64 (k : Int) ∧ Hid (t = Pt.met os (va L j) k ∧ Drawn w17 wr)) (fun _ vk _ => Q - (intOf vk).toNat)
          case atStart => exact ⟨0, 0, Nat.zero_le _, Nat.le_refl _, rfl, rfl, Lib.hid ⟨rfl, HD.out⟩⟩
          case round =>
            clear HD
            obtain ⟨k, t, hk, ht, rfl, rfl, H⟩ := hrel
            by_cases hkQ : k < Q
            · have q2 : (k : Int) < (Q : Int) := by omega
              have q3 : (0 : Int) ≤ (k : Int) := by omega
              have q4 : (t : Int) ≤ 9 := by omega
              have q5 : (0 : Int) ≤ (t : Int) := by omega
              have KD : Kept w17 wr := (Kept.refl w17).drawn H.out.2
              have c0 := KD.cell (RO17.out k hkQ)
              have c1 := KD.cell (H17.out j hjM)
              rw [Nat.zero_add] at c0 c1
              have e0 : os.getD k 0 = va os k := rfl
              have e1 : L.getD j 0 = va L j := rfl
              rw [e0] at c0
              rw [e1] at c1
              have HC := Lib.hid (Pt.specSameP (va os k) (va L j))
              clear KD e0 e1
              cases hs : Pt.sameC (va os k) (va L j)
              · rw [hs] at HC
                have HS := Lib.hid hs
                clear hs
                go_wp2
                go_quiet ((go_at_call 22; exact quiet_left (HC.out _)))
                go_wp2
                go_roundw
                case rel => exact ⟨k + 1, t, by omega, by omega, rfl, by go_num, Lib.hid ⟨by rw [H.out.1]; show _ = Pt.met os (va L j) k + _; rw [HS.out]; rfl, H.out.2.drewN _⟩⟩
                case measure => simp [intOf]; omega
              · rw [hs] at HC
                have HS := Lib.hid hs
                clear hs
                go_wp2
                go_quiet ((go_at_call 22; exact quiet_left (HC.out _)))
                go_wp2
                go_roundw
                case rel => exact ⟨k + 1, t + 1, by omega, by omega, by go_num, by go_num, Lib.hid ⟨by rw [H.out.1]; show _ = Pt.met os (va L j) k + _; rw [HS.out]; rfl, H.out.2.drewN _⟩⟩
                case measure => simp [intOf]; omega
            · have hkk : k = Q := by omega
              have ht1 : t = 1 := by have := H.out.1; rw [hkk, HX.out] at this; exact this
              have q4 : ((t : Int) != 1) = false := by rw [ht1]; rfl
              have q6 : ((t : Int) == 1) = true := by rw [ht1]; rfl
              clear hkk ht1
              go_wp2
              go_roundw
              case rel => exact ⟨j + 1, by omega, by go_num, Lib.hid H.out.2⟩
              case measure => simp [intOf]; omega
        · have K18 : Hid (Kept w wr) := Lib.hid (K17.out.drawn HD.out)
          go_wp2
          go_ret
          exact ⟨rfl, K18.out⟩
end Go.Proofs.Ytbceiphiopdegaa
