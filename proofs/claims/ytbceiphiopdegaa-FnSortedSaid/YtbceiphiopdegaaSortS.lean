/-
  Walk for SortReals: the reference model.
-/
import Derived.Test.YtbceiphiopdegaaSortI
import Derived.Deep.RegionLaw
import Derived.Deep.RegionLawGrows
set_option linter.unusedSimpArgs false
set_option linter.unusedVariables false
namespace Go.Proofs.Ytbceiphiopdegaa
open Go.RowKit

/-- a number put into its place -/
def put (ys : List Nat) (at_ x : Nat) : List Nat := ys.take at_ ++ x :: ys.drop at_
theorem put_va (ys : List Nat) (p x k : Nat) (hp : p ≤ ys.length) : va (put ys p x) k = if k < p then va ys k else if k = p then x else va ys (k - 1) := by
  have hl : (ys.take p).length = p := by rw [List.length_take]; omega
  unfold va put
  simp only [List.getD_eq_getElem?_getD]
  by_cases h1 : k < p
  · rw [if_pos h1, List.getElem?_append_left (by omega), List.getElem?_take_of_lt h1]
  · rw [if_neg h1, List.getElem?_append_right (by omega), hl]
    by_cases h2 : k = p
    · rw [if_pos h2, h2, Nat.sub_self]; rfl
    · rw [if_neg h2]
      obtain ⟨d, rfl⟩ : ∃ d, k = p + 1 + d := ⟨k - p - 1, by omega⟩
      rw [show p + 1 + d - p = d + 1 by omega, List.getElem?_cons_succ, List.getElem?_drop, show p + 1 + d - 1 = p + d by omega]
theorem put_len (ys : List Nat) (p x : Nat) (hp : p ≤ ys.length) : (put ys p x).length = ys.length + 1 := by
  unfold put; rw [List.length_append, List.length_take, List.length_cons, List.length_drop]; omega
theorem put_perm (ys : List Nat) (p x : Nat) : (put ys p x).Perm (x :: ys) := by
  unfold put
  exact (List.perm_middle).trans (List.Perm.cons x (by rw [List.take_append_drop]))
/-- x goes before what lies from p on -/
def Bef (x p : Nat) (ys : List Nat) : Prop := ∀ k, p ≤ k → k < ys.length → keyR x < keyR (va ys k)
theorem put_ord {ys : List Nat} {p x : Nat} (hp : p ≤ ys.length) (h : Ordd ys) (hb : Bef x p ys) (hs : p = 0 ∨ ¬ keyR x < keyR (va ys (p - 1))) : Ordd (put ys p x) := by
  intro u v h1 h2 h3
  rw [put_len _ _ _ hp] at h3
  rw [put_va _ _ _ _ hp, put_va _ _ _ _ hp]
  by_cases u1 : u < p
  · rw [if_pos u1]
    by_cases v1 : v < p
    · rw [if_pos v1]; exact h u v h1 h2 (by omega)
    · rw [if_neg v1]
      by_cases v2 : v = p
      · rw [if_pos v2]
        rcases hs with e | e
        · omega
        · by_cases e2 : u = p - 1
          · rw [e2]; omega
          · have := h u (p - 1) h1 (by omega) (by omega); omega
      · rw [if_neg v2]; exact h u (v - 1) h1 (by omega) (by omega)
  · rw [if_neg u1]
    have v1 : ¬ v < p := by omega
    have v2 : ¬ v = p := by omega
    rw [if_neg v1, if_neg v2]
    by_cases u2 : u = p
    · rw [if_pos u2]; exact Int.le_of_lt (hb (v - 1) (by omega) (by omega))
    · rw [if_neg u2]; exact h (u - 1) (v - 1) (by omega) (by omega) (by omega)
/-- the model's list after i numbers -/
def SpS (w0 : World) (xs : List Nat) (i g cap : Nat) (ys : List Nat) (wr : World) : Prop :=
  ys.length = i ∧ ys.Perm (xs.take i) ∧ Ordd ys ∧ (∀ y ∈ ys, y < 4294967296) ∧ w0.heap.size ≤ g ∧ wr.ownsRow w0.heap.size 34 1 (.slice (some ⟨g, 0, none⟩) i cap) i (ys.map (Value.float .f32)) ∧ Kept w0 wr ∧ i ≤ cap ∧ cap ≤ maxLen
theorem SpS.cell {w0 wr : World} {xs ys : List Nat} {i g cap : Nat} (h : SpS w0 xs i g cap ys wr) (k : Nat) (hk : k < i) : wr.cell? ⟨g, k, none⟩ = some (.float .f32 (va ys k)) := by
  rw [World.ownsRow.cellAt h.2.2.2.2.2.1 k (by omega), List.getElem?_map, va_get ys k (by rw [h.1]; exact hk)]; rfl
theorem SpS.lt {w0 wr : World} {xs ys : List Nat} {i g cap : Nat} (h : SpS w0 xs i g cap ys wr) (k : Nat) (hk : k < i) : va ys k < 4294967296 := by
  have hl : k < ys.length := by rw [h.1]; exact hk
  have e : va ys k = ys[k] := by simp [va, List.getD, hl]
  rw [e]; exact h.2.2.2.1 _ (List.getElem_mem _)
theorem SpS.drewN {w0 wr : World} {xs ys : List Nat} {i g cap : Nat} (h : SpS w0 xs i g cap ys wr) (m : Nat) : SpS w0 xs i g cap ys (wr.drewN m) :=
  ⟨h.1, h.2.1, h.2.2.1, h.2.2.2.1, h.2.2.2.2.1, h.2.2.2.2.2.1, ⟨h.2.2.2.2.2.2.1.os, h.2.2.2.2.2.2.1.tape, h.2.2.2.2.2.2.1.output, h.2.2.2.2.2.2.1.size, h.2.2.2.2.2.2.1.block⟩, h.2.2.2.2.2.2.2⟩
theorem SpS.start (w0 : World) (xs : List Nat) : SpS w0 xs 0 w0.heap.size 0 [] (w0.alloc (.cells #[] 34)) :=
  ⟨rfl, List.Perm.refl _, fun u v h1 h2 h3 => by simp at h3, fun y hy => by simp at hy, Nat.le_refl _, World.ownsRow_made w0 #[] 0 (Nat.le_refl _) (by decide) rfl, (Kept.refl w0).alloc _, Nat.le_refl _, by decide⟩
section
variable {P : Program}
theorem step_append_own {w : World} {ops : Array Oper} {o : Oper} {a : Act} {K : Act → World → Prop} {Q : Exit → Act → World → Prop} {E : Prop} (hgd : o.guard = none) (s x : Operand) (t : TypeId)
    (ho : o.op = .call { callee := .builtin .append, args := #[s, x], argTypes := #[t, t] })
    (base : Nat) (e : TypeId) (i : TypeInfo) (z : Value) (size bytes : Nat) (ht : P.underlying t = some (.slice e)) (hi : P.info? e = some i) (hz : i.zero = some z)
    (hsize : i.size = size) (hby : i.bytes = bytes) (hzs : z.cells.size = size) (hsz : 0 < size)
    (v : Value) (n : Nat) (xs : List Value) (hs : a.eval s = v) (hown : w.ownsRow base e size v n xs)
    (ad : Addr) (m c : Nat) (news : List Value) (hx : a.eval x = .slice (some ad) m c) (hl : news.length = m * size) (hnews : ∀ j u, news[j]? = some u → w.cell? (ad.add j) = some u) (h1 : ∀ u ∈ news, u.oneCell' = true)
    (h63 : n + m ≤ maxLen) (hbytes : (n + m) * bytes ≤ 140737488355328) (hbase : base ≤ w.heap.size)
    (h : ∀ v' w', w'.ownsRow base e size v' (n + m) (xs ++ news) → w.grownBy w' v.ownBlock → (v' = .slice none 0 0 ↔ v = .slice none 0 0 ∧ m = 0) → K (a.put o.dst v') w') :
    if Region.wanted o (yielded ops a.tmps) = true then Oper.wp P o a w K Q else E := by
  have hw : Region.wanted o (yielded ops a.tmps) = true := by simp [Region.wanted, hgd]
  rw [if_pos hw]
  exact wp_append_own w s x t ho base e i z size bytes ht hi hz hsize hby hzs hsz v n xs hs hown ad m c news hx hl hnews h1 h63 hbytes hbase h
end
theorem add_cell (g o j : Nat) : (⟨g, o, none⟩ : Addr).add j = ⟨g, o + j, none⟩ := by
  unfold Addr.add
  by_cases h : j = 0
  · rw [if_pos h, h]; rfl
  · rw [if_neg h]
theorem grown_of_below {w w' : World} (h : Below w.heap.size w w') : w.grownBy w' none := ⟨h.os, h.tape, h.output, h.size, fun k hk _ => h.block k hk⟩
theorem SpS.below {w0 wr w' : World} {xs ys : List Nat} {i g cap : Nat} (h : SpS w0 xs i g cap ys wr) (hb : Below wr.heap.size wr w') : SpS w0 xs i g cap ys w' :=
  ⟨h.1, h.2.1, h.2.2.1, h.2.2.2.1, h.2.2.2.2.1, World.ownsRow.kept h.2.2.2.2.2.1 (grown_of_below hb) (.inr (by simp [Value.ownBlock])), Below.trans h.2.2.2.2.2.2.1 (hb.mono h.2.2.2.2.2.2.1.size), h.2.2.2.2.2.2.2⟩
theorem SpS.tail {w0 wr : World} {xs ys : List Nat} {i g cap : Nat} (h : SpS w0 xs i g cap ys wr) (p : Nat) (hp : p ≤ i) : ∃ A, (if cap = p then some (⟨g, 0, none⟩ : Addr) else some ⟨g, p, none⟩) = some A ∧ ∀ j u, ((ys.drop p).map (Value.float .f32))[j]? = some u → wr.cell? (A.add j) = some u := by
  by_cases hc : cap = p
  · rw [if_pos hc]
    refine ⟨_, rfl, fun j u hu => ?_⟩
    have h1 := h.1
    have h2 := h.2.2.2.2.2.2.2.1
    rw [List.drop_eq_nil_of_le (by omega)] at hu
    simp at hu
  · rw [if_neg hc]
    refine ⟨_, rfl, fun j u hu => ?_⟩
    have h1 := h.1
    have hj : p + j < ys.length := by
      have : j < ((ys.drop p).map (Value.float .f32)).length := (List.getElem?_eq_some_iff.1 hu).1
      rw [List.length_map, List.length_drop] at this; omega
    rw [List.getElem?_map, List.getElem?_drop, va_get ys _ hj] at hu
    obtain rfl : u = .float .f32 (va ys (p + j)) := by simpa using hu.symm
    rw [add_cell]; exact h.cell (p + j) (by omega)
theorem SpS.head {w0 wr : World} {xs ys : List Nat} {i g cap : Nat} (h : SpS w0 xs i g cap ys wr) (p : Nat) : ∀ j u, ((ys.take p).map (Value.float .f32))[j]? = some u → wr.cell? ((⟨g, 0, none⟩ : Addr).add j) = some u := fun j u hu => by
  have hj : j < ((ys.take p).map (Value.float .f32)).length := (List.getElem?_eq_some_iff.1 hu).1
  rw [List.length_map, List.length_take] at hj
  have h1 := h.1
  rw [List.getElem?_map, List.getElem?_take_of_lt (by omega), va_get ys _ (by omega)] at hu
  obtain rfl : u = .float .f32 (va ys j) := by simpa using hu.symm
  rw [add_cell, Nat.zero_add]; exact h.cell j (by omega)
theorem SpS.next {w0 wr w3 : World} {xs ys : List Nat} {i g cap p x : Nat} {v3 : Value} (h : SpS w0 xs i g cap ys wr) (hx : x = va xs i) (hxl : x < 4294967296) (hi : i < xs.length) (hp : p ≤ i) (ho : Ordd (put ys p x))
    (hown : w3.ownsRow w0.heap.size 34 1 v3 (0 + p + (1 + (i - p))) (([] ++ (ys.take p).map (Value.float .f32)) ++ ([Value.float .f32 x] ++ (ys.drop p).map (Value.float .f32)))) (K : Kept w0 w3) :
    ∃ g3 cap3, v3 = .slice (some ⟨g3, 0, none⟩) (i + 1) cap3 ∧ SpS w0 xs (i + 1) g3 cap3 (put ys p x) w3 := by
  have h1 := h.1
  have e : 0 + p + (1 + (i - p)) = i + 1 := by omega
  have e2 : ([] ++ (ys.take p).map (Value.float .f32)) ++ ([Value.float .f32 x] ++ (ys.drop p).map (Value.float .f32)) = (put ys p x).map (Value.float .f32) := by
    unfold put; rw [List.map_append, List.map_cons]; rfl
  rw [e, e2] at hown
  rcases hown.2 with hh | ⟨g3, cap3, cur, rfl, hg, h4, h5, h6, h7⟩
  · omega
  · refine ⟨g3, cap3, rfl, by rw [put_len _ _ _ (by omega)]; omega, ?_, ho, fun y hy => ?_, hg, hown, K, h5, h6⟩
    · have e3 : xs.take (i + 1) = xs.take i ++ [x] := by rw [List.take_add_one, va_get xs i hi, hx]; rfl
      rw [e3]
      exact ((put_perm ys p x).trans (List.Perm.cons x h.2.1)).trans (List.perm_append_comm (l₁ := [x]) (l₂ := xs.take i))
    · rcases List.mem_cons.1 ((put_perm ys p x).mem_iff.1 hy) with e4 | e4
      · omega
      · exact h.2.2.2.1 y e4
set_option maxRecDepth 100000 in
set_option maxHeartbeats 16000000 in
theorem specOk (a0 : Option Addr) (n c : Nat) (xs : List Nat) (w : World) (hs : Src w a0 n xs) (hn : n ≤ 256) :
    Calls Try.prog 5 #[.slice a0 n c] w fun e w' => ∃ v, e = .returned (.tuple #[v, .int .i64 0]) ∧ Sorted w.heap.size w xs v w' := by
  have hn0 : decide ((256 : Int) < (n : Int)) = false := decide_eq_false (by omega)
  have HS := Lib.hid hs
  have hn1 : (n : Int) ≤ 256 := by omega
  have hB := Lib.hid hn
  have HC := Lib.hid beforeOk
  obtain ⟨i0, i1, i2, i3, i4⟩ := info_parts info32
  have II := Lib.hid (And.intro i1 (And.intro i2 (And.intro i3 i4)))
  clear i1 i2 i3 i4 hs hn
  have S0 := Lib.hid (SpS.start w xs)
  go_enter Try.func5, Try.ntmps5
  go_wp2
  generalize w.alloc (.cells #[] 34) = ws at *
  go_loopw [4, 5] (fun vo vi wr => ∃ (i g cap : Nat) (ys : List Nat), i ≤ n ∧ vo = .slice (some ⟨g, 0, none⟩) i cap ∧ vi = .int .i64 (i : Int) ∧ Hid (SpS w xs i g cap ys wr)) (fun _ vi _ => n - (intOf vi).toNat)
  case atStart => exact ⟨0, w.heap.size, 0, [], Nat.zero_le _, rfl, rfl, S0⟩
  case round =>
    clear S0
    obtain ⟨i, g, cap, ys, hi, rfl, rfl, H⟩ := hrel
    by_cases hin : i < n
    · obtain ⟨gs, o, rfl, hcells⟩ : ∃ gs o, a0 = some ⟨gs, o, none⟩ ∧ Holds32 w gs o n xs := by
        rcases HS.out.2.2 with h | h
        · omega
        · exact h
      have q0 : (i : Int) < (n : Int) := by omega
      have q1 : (0 : Int) ≤ (i : Int) := by omega
      obtain ⟨x, hx⟩ : ∃ x, x = va xs i := ⟨_, rfl⟩
      have hxl : x < 4294967296 := by
        have hl : i < xs.length := by rw [HS.out.1]; exact hin
        have e : va xs i = xs[i] := by simp [va, List.getD, hl]
        rw [hx, e]; exact HS.out.2.1 _ (List.getElem_mem _)
      have hxc : w.cell? ⟨gs, o + i, none⟩ = some (.float .f32 x) := by rw [hcells i hin, hx]; rfl
      have HX := Lib.hid (And.intro hx hxl)
      have HXC := Lib.hid hxc
      clear hx hxl hxc hcells
      obtain ⟨wo, rfl⟩ : ∃ wo : World, wo = wr := ⟨_, rfl⟩
      go_wp2
      go_loopw [6] (fun vj wr => ∃ p : Nat, p ≤ i ∧ vj = .int .i64 (p : Int) ∧ Hid (SpS w xs i g cap ys wr ∧ Bef x p ys)) (fun vj _ => (intOf vj).toNat)
      case atStart => exact ⟨i, Nat.le_refl _, rfl, Lib.hid ⟨H.out, fun k h1 h2 => by have := H.out.1; omega⟩⟩
      case round =>
        clear H
        obtain ⟨p, hp, rfl, H⟩ := hrel
        have c0 := H.out.1.2.2.2.2.2.2.1.cell HXC.out
        by_cases hp0 : 0 < p
        · have q2 : (0 : Int) < (p : Int) := by omega
          have q3 : (p : Int) ≤ (i : Int) := by omega
          have c1 := H.out.1.cell (p - 1) (by omega)
          have q4 : ((p : Int) - 1).toNat = p - 1 := by omega
          have HCC := Lib.hid (HC.out x (va ys (p - 1)) HX.out.2 (H.out.1.lt (p - 1) (by omega)))
          by_cases hl : keyR x < keyR (va ys (p - 1))
          · have hcn : ltR x (va ys (p - 1)) = true := decide_eq_true hl
            have HL := Lib.hid hl
            clear hl
            go_wp2
            go_quiet ((go_at_call 23; exact quiet_left (HCC.out _)))
            go_wp2
            go_roundw
            case rel => exact ⟨p - 1, by omega, by go_num, Lib.hid ⟨H.out.1.drewN _, fun k h1 h2 => by
              by_cases e : k = p - 1
              · rw [e]; exact HL.out
              · exact H.out.2 k (by omega) h2⟩⟩
            case measure => simp [intOf]; omega
          · have hcn : ltR x (va ys (p - 1)) = false := decide_eq_false hl
            have HP := Lib.hid (put_ord (by have := H.out.1.1; omega : p ≤ ys.length) H.out.1.2.2.1 H.out.2 (.inr hl))
            clear hl
            go_wp2
            go_quiet ((go_at_call 23; exact quiet_left (HCC.out _)))
            rename_i nq
            go_wp2
            have HQ := Lib.hid (H.out.1.drewN nq)
            generalize wr.drewN nq = wq at *
            have c3 := HQ.out.2.2.2.2.2.2.1.cell HXC.out
            have q7 : (p : Int) ≤ (i : Int) := by omega
            have q8 : (i : Int) ≤ (cap : Int) := by have := HQ.out.2.2.2.2.2.2.2.1; omega
            clear c0 H
            obtain ⟨A, hA, hnews⟩ := HQ.out.tail p hp
            have HN := Lib.hid hnews
            have hlen : Hid (ys.length = i) := Lib.hid HQ.out.1
            have HO : Hid (((wq.alloc (.cells #[.float .f32 x] 34)).drew).ownsRow wq.heap.size 34 1 (.slice (some ⟨wq.heap.size, 0, none⟩) 1 1) 1 [.float .f32 x]) := Lib.hid (World.ownsRow_lit wq #[.float .f32 x] 1 (Nat.le_refl _) (by decide) rfl)
            have HW : Hid (Below wq.heap.size wq ((wq.alloc (.cells #[.float .f32 x] 34)).drew)) := Lib.hid (((Below.refl _ wq).alloc (Nat.le_refl _) _).drew)
            have hD : ((ys.drop p).map (Value.float .f32)).length = (i - p) * 1 := by rw [List.length_map, List.length_drop, hlen.out]; omega
            have HD := Lib.hid hD
            have H1 : Hid (∀ u ∈ (ys.drop p).map (Value.float .f32), u.oneCell' = true) := Lib.hid (fun u hu => by obtain ⟨y, _, rfl⟩ := List.mem_map.1 hu; rfl)
            have HNN : Hid (∀ j u, ((ys.drop p).map (Value.float .f32))[j]? = some u → ((wq.alloc (.cells #[.float .f32 x] 34)).drew).cell? (A.add j) = some u) := Lib.hid (fun j u hu => (HW.out.cell (block_lt (HN.out j u hu))).trans (HN.out j u hu))
            clear hnews hD
            go_region_law (refine step_append_own rfl (.tmp 41) (.tmp 44) 22 rfl wq.heap.size 34 i0 (.float .f32 0) 1 4 Try.underlying22 II.out.1 II.out.2.1 II.out.2.2.1 II.out.2.2.2 rfl (by decide) (.slice (some ⟨wq.heap.size, 0, none⟩) 1 1) 1 [.float .f32 x] (by simp [Act.eval, Act.put]) HO.out A (i - p) (cap - p) ((ys.drop p).map (Value.float .f32)) (by simp [Act.eval, Act.put, hA]) HD.out HNN.out H1.out (by have := hB.out; unfold maxLen; omega) (by have := hB.out; omega) HW.out.size ?_; intro v1 w1 hown1 hgrow1 _)
            have W1 : Hid (Below wq.heap.size wq w1) := Lib.hid (HW.out.grown hgrow1 HW.out.size (fun k hk => by simp [Value.ownBlock] at hk; omega))
            obtain ⟨g1, cap1, rfl, hg1⟩ : ∃ g1 cap1, v1 = .slice (some ⟨g1, 0, none⟩) (1 + (i - p)) cap1 ∧ wq.heap.size ≤ g1 := by
              rcases hown1.2 with hh | ⟨g1, cap1, _, e1, e2, _⟩
              · omega
              · exact ⟨g1, cap1, e1, e2⟩
            have R1 := Lib.hid hown1
            have HQ1 := Lib.hid (HQ.out.below W1.out)
            clear hown1 hgrow1 HO HW HNN HN HD H1 hlen hA
            have hz : w.heap.size ≤ w1.heap.size := HQ1.out.2.2.2.2.2.2.1.size
            have HZ := Lib.hid hz
            have HE : Hid ((w1.alloc (.cells #[] 34)).ownsRow w.heap.size 34 1 (.slice (some ⟨w1.heap.size, 0, none⟩) 0 0) 0 []) := Lib.hid (World.ownsRow_made w1 #[] 0 hz (by decide) rfl)
            have HQ2 := Lib.hid (HQ1.out.below ((Below.refl _ w1).alloc (Nat.le_refl _) (.cells #[] 34)))
            have HH := Lib.hid (HQ2.out.head p)
            have HT : Hid (((ys.take p).map (Value.float .f32)).length = p * 1) := Lib.hid (by have := HQ.out.1; rw [List.length_map, List.length_take]; omega)
            have H2 : Hid (∀ u ∈ (ys.take p).map (Value.float .f32), u.oneCell' = true) := Lib.hid (fun u hu => by obtain ⟨y, _, rfl⟩ := List.mem_map.1 hu; rfl)
            clear hz
            go_wp2_with (at_builtin; refine wpList_append_own _ rfl _ _ 22 rfl w.heap.size 34 i0 (.float .f32 0) 1 4 Try.underlying22 II.out.1 II.out.2.1 II.out.2.2.1 II.out.2.2.2 rfl (by decide) (.slice (some ⟨w1.heap.size, 0, none⟩) 0 0) 0 [] rfl HE.out ⟨g, 0, none⟩ p cap ((ys.take p).map (Value.float .f32)) rfl HT.out HH.out H2.out (by have := hB.out; unfold maxLen; omega) (by have := hB.out; omega) HQ2.out.2.2.2.2.2.2.1.size ?_)
            intro v2 w2 hown2 hgrow2 _
            have K2 : Hid (Kept w w2) := Lib.hid (Below.grown HQ2.out.2.2.2.2.2.2.1 hgrow2 HQ2.out.2.2.2.2.2.2.1.size (fun k hk => by simp [Value.ownBlock] at hk; have := HZ.out; omega))
            have R2 : Hid (∀ j u, ([Value.float .f32 x] ++ (ys.drop p).map (Value.float .f32))[j]? = some u → w2.cell? ((⟨g1, 0, none⟩ : Addr).add j) = some u) := by
              have hb := (R1.out.lt g1 rfl).2
              have h2 := World.ownsRow.kept (R1.out.alloc (.cells #[] 34)) hgrow2 (.inr (by simp [Value.ownBlock]; omega))
              refine Lib.hid (fun j u hu => ?_)
              have hj := (List.getElem?_eq_some_iff.1 hu).1
              rw [add_cell, Nat.zero_add, World.ownsRow.cellAt h2 j (by have := h2.1; omega)]
              exact hu
            have H3 : Hid (∀ u ∈ [Value.float .f32 x] ++ (ys.drop p).map (Value.float .f32), u.oneCell' = true) := Lib.hid (fun u hu => by
              rcases List.mem_append.1 hu with e | e
              · obtain rfl := List.mem_singleton.1 e; rfl
              · obtain ⟨y, _, rfl⟩ := List.mem_map.1 e; rfl)
            have O2 : Hid (w2.ownsRow w.heap.size 34 1 v2 (0 + p) ([] ++ (ys.take p).map (Value.float .f32))) := Lib.hid (by first | exact hown2 | simpa using hown2)
            clear hown2 hgrow2
            go_wp2_with (at_builtin; refine wpList_append_own _ rfl _ _ 22 rfl w.heap.size 34 i0 (.float .f32 0) 1 4 Try.underlying22 II.out.1 II.out.2.1 II.out.2.2.1 II.out.2.2.2 rfl (by decide) v2 (0 + p) ([] ++ (ys.take p).map (Value.float .f32)) rfl O2.out ⟨g1, 0, none⟩ (1 + (i - p)) cap1 ([Value.float .f32 x] ++ (ys.drop p).map (Value.float .f32)) rfl R1.out.1 R2.out H3.out (by have := hB.out; unfold maxLen; omega) (by have := hB.out; omega) K2.out.size ?_)
            intro v3 w3 hown3 hgrow3 _
            have K3 : Kept w w3 := Below.grown K2.out hgrow3 K2.out.size (fun k hk => (O2.out.lt k hk).1)
            obtain ⟨g3, cap3, rfl, hF⟩ := SpS.next HQ.out HX.out.1 HX.out.2 (by rw [HS.out.1]; exact hin) hp HP.out (by first | exact hown3 | simpa using hown3) K3
            have F := Lib.hid hF
            clear hown3 hgrow3 K3 hF
            go_wp2
            go_roundw
            case rel => exact ⟨i + 1, g3, cap3, put ys p x, by omega, rfl, by go_num, F⟩
            case measure => simp [intOf]; omega
        · have hd : decide ((0 : Int) < (p : Int)) = false := decide_eq_false (by omega)
          have HP := Lib.hid (put_ord (by have := H.out.1.1; omega : p ≤ ys.length) H.out.1.2.2.1 H.out.2 (.inl (by omega)))
          go_wp2
          go_quiet (fail)
          rename_i nq
          go_wp2
          have HQ := Lib.hid (H.out.1.drewN nq)
          generalize wr.drewN nq = wq at *
          have c3 := HQ.out.2.2.2.2.2.2.1.cell HXC.out
          have q7 : (p : Int) ≤ (i : Int) := by omega
          have q8 : (i : Int) ≤ (cap : Int) := by have := HQ.out.2.2.2.2.2.2.2.1; omega
          clear c0 H
          obtain ⟨A, hA, hnews⟩ := HQ.out.tail p hp
          have HN := Lib.hid hnews
          have hlen : Hid (ys.length = i) := Lib.hid HQ.out.1
          have HO : Hid (((wq.alloc (.cells #[.float .f32 x] 34)).drew).ownsRow wq.heap.size 34 1 (.slice (some ⟨wq.heap.size, 0, none⟩) 1 1) 1 [.float .f32 x]) := Lib.hid (World.ownsRow_lit wq #[.float .f32 x] 1 (Nat.le_refl _) (by decide) rfl)
          have HW : Hid (Below wq.heap.size wq ((wq.alloc (.cells #[.float .f32 x] 34)).drew)) := Lib.hid (((Below.refl _ wq).alloc (Nat.le_refl _) _).drew)
          have hD : ((ys.drop p).map (Value.float .f32)).length = (i - p) * 1 := by rw [List.length_map, List.length_drop, hlen.out]; omega
          have HD := Lib.hid hD
          have H1 : Hid (∀ u ∈ (ys.drop p).map (Value.float .f32), u.oneCell' = true) := Lib.hid (fun u hu => by obtain ⟨y, _, rfl⟩ := List.mem_map.1 hu; rfl)
          have HNN : Hid (∀ j u, ((ys.drop p).map (Value.float .f32))[j]? = some u → ((wq.alloc (.cells #[.float .f32 x] 34)).drew).cell? (A.add j) = some u) := Lib.hid (fun j u hu => (HW.out.cell (block_lt (HN.out j u hu))).trans (HN.out j u hu))
          clear hnews hD
          go_region_law (refine step_append_own rfl (.tmp 41) (.tmp 44) 22 rfl wq.heap.size 34 i0 (.float .f32 0) 1 4 Try.underlying22 II.out.1 II.out.2.1 II.out.2.2.1 II.out.2.2.2 rfl (by decide) (.slice (some ⟨wq.heap.size, 0, none⟩) 1 1) 1 [.float .f32 x] (by simp [Act.eval, Act.put]) HO.out A (i - p) (cap - p) ((ys.drop p).map (Value.float .f32)) (by simp [Act.eval, Act.put, hA]) HD.out HNN.out H1.out (by have := hB.out; unfold maxLen; omega) (by have := hB.out; omega) HW.out.size ?_; intro v1 w1 hown1 hgrow1 _)
          have W1 : Hid (Below wq.heap.size wq w1) := Lib.hid (HW.out.grown hgrow1 HW.out.size (fun k hk => by simp [Value.ownBlock] at hk; omega))
          obtain ⟨g1, cap1, rfl, hg1⟩ : ∃ g1 cap1, v1 = .slice (some ⟨g1, 0, none⟩) (1 + (i - p)) cap1 ∧ wq.heap.size ≤ g1 := by
            rcases hown1.2 with hh | ⟨g1, cap1, _, e1, e2, _⟩
            · omega
            · exact ⟨g1, cap1, e1, e2⟩
          have R1 := Lib.hid hown1
          have HQ1 := Lib.hid (HQ.out.below W1.out)
          clear hown1 hgrow1 HO HW HNN HN HD H1 hlen hA
          have hz : w.heap.size ≤ w1.heap.size := HQ1.out.2.2.2.2.2.2.1.size
          have HZ := Lib.hid hz
          have HE : Hid ((w1.alloc (.cells #[] 34)).ownsRow w.heap.size 34 1 (.slice (some ⟨w1.heap.size, 0, none⟩) 0 0) 0 []) := Lib.hid (World.ownsRow_made w1 #[] 0 hz (by decide) rfl)
          have HQ2 := Lib.hid (HQ1.out.below ((Below.refl _ w1).alloc (Nat.le_refl _) (.cells #[] 34)))
          have HH := Lib.hid (HQ2.out.head p)
          have HT : Hid (((ys.take p).map (Value.float .f32)).length = p * 1) := Lib.hid (by have := HQ.out.1; rw [List.length_map, List.length_take]; omega)
          have H2 : Hid (∀ u ∈ (ys.take p).map (Value.float .f32), u.oneCell' = true) := Lib.hid (fun u hu => by obtain ⟨y, _, rfl⟩ := List.mem_map.1 hu; rfl)
          clear hz
          go_wp2_with (at_builtin; refine wpList_append_own _ rfl _ _ 22 rfl w.heap.size 34 i0 (.float .f32 0) 1 4 Try.underlying22 II.out.1 II.out.2.1 II.out.2.2.1 II.out.2.2.2 rfl (by decide) (.slice (some ⟨w1.heap.size, 0, none⟩) 0 0) 0 [] rfl HE.out ⟨g, 0, none⟩ p cap ((ys.take p).map (Value.float .f32)) rfl HT.out HH.out H2.out (by have := hB.out; unfold maxLen; omega) (by have := hB.out; omega) HQ2.out.2.2.2.2.2.2.1.size ?_)
          intro v2 w2 hown2 hgrow2 _
          have K2 : Hid (Kept w w2) := Lib.hid (Below.grown HQ2.out.2.2.2.2.2.2.1 hgrow2 HQ2.out.2.2.2.2.2.2.1.size (fun k hk => by simp [Value.ownBlock] at hk; have := HZ.out; omega))
          have R2 : Hid (∀ j u, ([Value.float .f32 x] ++ (ys.drop p).map (Value.float .f32))[j]? = some u → w2.cell? ((⟨g1, 0, none⟩ : Addr).add j) = some u) := by
            have hb := (R1.out.lt g1 rfl).2
            have h2 := World.ownsRow.kept (R1.out.alloc (.cells #[] 34)) hgrow2 (.inr (by simp [Value.ownBlock]; omega))
            refine Lib.hid (fun j u hu => ?_)
            have hj := (List.getElem?_eq_some_iff.1 hu).1
            rw [add_cell, Nat.zero_add, World.ownsRow.cellAt h2 j (by have := h2.1; omega)]
            exact hu
          have H3 : Hid (∀ u ∈ [Value.float .f32 x] ++ (ys.drop p).map (Value.float .f32), u.oneCell' = true) := Lib.hid (fun u hu => by
            rcases List.mem_append.1 hu with e | e
            · obtain rfl := List.mem_singleton.1 e; rfl
            · obtain ⟨y, _, rfl⟩ := List.mem_map.1 e; rfl)
          have O2 : Hid (w2.ownsRow w.heap.size 34 1 v2 (0 + p) ([] ++ (ys.take p).map (Value.float .f32))) := Lib.hid (by first | exact hown2 | simpa using hown2)
          clear hown2 hgrow2
          go_wp2_with (at_builtin; refine wpList_append_own _ rfl _ _ 22 rfl w.heap.size 34 i0 (.float .f32 0) 1 4 Try.underlying22 II.out.1 II.out.2.1 II.out.2.2.1 II.out.2.2.2 rfl (by decide) v2 (0 + p) ([] ++ (ys.take p).map (Value.float .f32)) rfl O2.out ⟨g1, 0, none⟩ (1 + (i - p)) cap1 ([Value.float .f32 x] ++ (ys.drop p).map (Value.float .f32)) rfl R1.out.1 R2.out H3.out (by have := hB.out; unfold maxLen; omega) (by have := hB.out; omega) K2.out.size ?_)
          intro v3 w3 hown3 hgrow3 _
          have K3 : Kept w w3 := Below.grown K2.out hgrow3 K2.out.size (fun k hk => (O2.out.lt k hk).1)
          obtain ⟨g3, cap3, rfl, hF⟩ := SpS.next HQ.out HX.out.1 HX.out.2 (by rw [HS.out.1]; exact hin) hp HP.out (by first | exact hown3 | simpa using hown3) K3
          have F := Lib.hid hF
          clear hown3 hgrow3 K3 hF
          go_wp2
          go_roundw
          case rel => exact ⟨i + 1, g3, cap3, put ys p x, by omega, rfl, by go_num, F⟩
          case measure => simp [intOf]; omega
    · have q0 : decide ((i : Int) < (n : Int)) = false := decide_eq_false (by omega)
      have F : Hid (Sorted w.heap.size w xs (.slice (some ⟨g, 0, none⟩) i cap) wr) := by
        have h := H.out
        refine Lib.hid ⟨ys, by rw [h.1]; exact h.2.2.2.2.2.1, ?_, h.2.2.1, h.2.2.2.2.2.2.1⟩
        have e : xs.take i = xs := List.take_of_length_le (by rw [HS.out.1]; omega)
        rw [← e]; exact h.2.1
      go_wp2
      go_ret2
      exact ⟨_, rfl, F.out⟩
set_option maxHeartbeats 4000000 in
theorem specBig (a : Option Addr) (n c : Nat) (w : World) (hn : 256 < n) (hn2 : n ≤ 9223372036854775807) :
    Calls Try.prog 5 #[.slice a n c] w fun e w' => e = .returned (.tuple #[.slice (some ⟨w.heap.size, 0, none⟩) 0 0, .int .i64 3]) ∧ w' = w.alloc (.cells #[] 34) := by
  have hn0 : (256 : Int) < (n : Int) := by omega
  go_enter Try.func5, Try.ntmps5
  go_wp2
  go_ret2
  exact ⟨rfl, rfl⟩
end Go.Proofs.Ytbceiphiopdegaa
