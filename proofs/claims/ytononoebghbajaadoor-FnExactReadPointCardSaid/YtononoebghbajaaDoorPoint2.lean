/-
  Walks for ReadPoint: the reference's words.
-/
import Derived.Test.YtononoebghbajaaDoorPoint
set_option linter.unusedSimpArgs false
set_option linter.unusedVariables false
namespace Go.Proofs.YtononoebghbajaaDoor
open Go.RowKit

theorem infoStr : (Tryd.prog.info? 9).map (fun i => (i.zero, i.size, i.bytes)) = some (some (.string ⟨#[]⟩), 1, 16) := by kernel_rfl
def toL (ws : List ByteArray) : List (List UInt8) := ws.map fun s => s.data.toList
/-- the words so far, the one begun at b, read up to k -/
def SplitS (t : ByteArray) (w : World) (v : Value) (b k : Nat) (wr : World) : Prop :=
  ∃ ws : List ByteArray, sp [] t.data.toList = toL ws ++ sp ((t.data.toList.take k).drop b) (t.data.toList.drop k) ∧ ws.length ≤ k ∧ wr.ownsRow w.heap.size 9 1 v ws.length (ws.map Value.string) ∧ Kept w wr
def SplitOut (t : ByteArray) (w : World) (e : Ending) (w' : World) : Prop :=
  ∃ (v : Value) (ws : List ByteArray), e = .returned v ∧ toL ws = sp [] t.data.toList ∧ w'.ownsRow w.heap.size 9 1 v ws.length (ws.map Value.string) ∧ Kept w w'
theorem ext_mid (t : ByteArray) (b k : Nat) : (t.extract b k).data.toList = (t.data.toList.take k).drop b := by
  rw [ByteArray.data_extract, Array.toList_extract]
  simp only [List.extract, List.drop_take]
theorem SplitS.start (t : ByteArray) (w : World) : SplitS t w (.slice (some ⟨w.heap.size, 0, none⟩) 0 0) 0 0 (w.alloc (.cells #[] 9)) :=
  ⟨[], by simp [toL], by simp, World.ownsRow_made w #[] 0 (Nat.le_refl _) (by decide) rfl, (Kept.refl w).alloc _⟩
theorem drop_at (t : ByteArray) (k : Nat) (hk : k < t.size) : t.data.toList.drop k = t[k] :: t.data.toList.drop (k + 1) := by
  rw [List.drop_eq_getElem_cons (by rw [size_list]; exact hk)]
  congr 1
theorem take_at (t : ByteArray) (b k : Nat) (hb : b ≤ k) (hk : k < t.size) : (t.data.toList.take (k + 1)).drop b = (t.data.toList.take k).drop b ++ [t[k]] := by
  rw [List.take_succ_eq_append_getElem (by rw [size_list]; exact hk), List.drop_append_of_le_length (by rw [List.length_take, size_list]; omega)]
  congr 1
theorem SplitS.letter {t : ByteArray} {w wr : World} {v : Value} {b k : Nat} (h : SplitS t w v b k wr) (hb : b ≤ k) (hk : k < t.size) (hc : t[k] ≠ 32) : SplitS t w v b (k + 1) wr := by
  obtain ⟨ws, h1, h2, h3⟩ := h
  refine ⟨ws, ?_, by omega, h3⟩
  rw [h1, drop_at t k hk, take_at t b k hb hk]
  simp only [sp]
  rw [if_neg hc]
theorem SplitS.word {t : ByteArray} {w w' : World} {v' : Value} {b k : Nat} {ws : List ByteArray} (h1 : sp [] t.data.toList = toL ws ++ sp ((t.data.toList.take k).drop b) (t.data.toList.drop k)) (h2 : ws.length ≤ k) (hk : k < t.size) (hc : t[k] = 32)
    (hown : w'.ownsRow w.heap.size 9 1 v' (ws.length + 1) (ws.map Value.string ++ [.string (t.extract b k)])) (hw : Kept w w') : SplitS t w v' (k + 1) (k + 1) w' := by
  refine ⟨ws ++ [t.extract b k], ?_, by simp; omega, ?_, hw⟩
  · rw [h1, drop_at t k hk]
    simp only [sp]
    rw [if_pos hc, toL, toL, List.map_append, List.append_assoc]
    congr 1
    simp only [List.map_cons, List.map_nil, List.cons_append, List.nil_append]
    rw [ext_mid]
    congr 2
    rw [List.drop_eq_nil_of_le (by rw [List.length_take]; omega)]
  · rw [List.length_append, List.map_append]
    exact hown
set_option maxRecDepth 100000 in
set_option maxHeartbeats 8000000 in
theorem splitOk (t : ByteArray) (ht : t.size ≤ 1048576) (w : World) :
    Calls Tryd.prog 33 #[.string t, .int .u8 32] w (SplitOut t w) := by
  have HQ : Hid (∀ v ws w', toL ws = sp [] t.data.toList → w'.ownsRow w.heap.size 9 1 v ws.length (ws.map Value.string) → Kept w w' → SplitOut t w (.returned v) w') := fun v ws w' a b c => ⟨v, ws, rfl, a, b, c⟩
  generalize SplitOut t w = Q at *
  obtain ⟨i0, hi, hz0, hz1, hz2⟩ := info_parts infoStr
  have II := Lib.hid (And.intro hi (And.intro hz0 (And.intro hz1 hz2)))
  clear hi hz0 hz1 hz2
  have S0 := Lib.hid (SplitS.start t w)
  have HT := Lib.hid ht
  have hs : (t.size : Int) ≤ 1048576 := by omega
  clear ht
  go_enter Tryd.func33, Tryd.ntmps33
  go_wp2
  go_loopw [5, 6, 7] (fun v vb vi wr => ∃ b k : Nat, b ≤ k ∧ k ≤ t.size ∧ vb = .int .i64 (b : Int) ∧ vi = .int .i64 (k : Int) ∧ Hid (SplitS t w v b k wr)) (fun _ _ vi _ => t.size - (intOf vi).toNat)
  case atStart => exact ⟨0, 0, by omega, by omega, rfl, rfl, S0⟩
  case round =>
    obtain ⟨b, k, hb, hk, rfl, rfl, H⟩ := hrel
    by_cases hlt : k < t.size
    · by_cases hc : t[k] = 32
      · obtain ⟨ws, h1, h2, h3, h4⟩ := H.out
        have G := Lib.hid (And.intro h1 (And.intro h2 (And.intro h3 h4)))
        have HC := Lib.hid hc
        have hc' : (((t[k]).toNat : Int) == 32) = true := by rw [hc]; rfl
        clear h1 h2 h3 h4 hc H
        go_wp2_with (at_builtin; refine wpList_append_own _ rfl _ _ 53 rfl w.heap.size 9 i0 (.string ⟨#[]⟩) 1 16 Tryd.underlying53 II.out.1 II.out.2.1 II.out.2.2.1 II.out.2.2.2 rfl (by decide) _ ws.length _ rfl (World.ownsRow.alloc G.out.2.2.1 _) ⟨wr.heap.size, 0, none⟩ 1 1 [.string (t.extract b k)] rfl rfl ?c1 ?c2 ?c3 ?c4 ?c5 ?_)
        case c1 => exact news_one _ _ rfl _ _
        case c2 => simp [Value.oneCell']
        case c3 => have := G.out.2.1; have := HT.out; unfold maxLen; omega
        case c4 => have := G.out.2.1; have := HT.out; omega
        case c5 => have := G.out.2.2.2.size; simp; omega
        intro v' w1 hown hgrow _
        have HN := Lib.hid (SplitS.word G.out.1 G.out.2.1 hlt HC.out hown (Below.grown (G.out.2.2.2.alloc _) hgrow (by have := G.out.2.2.2.size; simp; omega) (fun k hk => (G.out.2.2.1.lt k hk).1)))
        clear hown hgrow
        go_wp2
        go_roundw
        case rel => exact ⟨k + 1, k + 1, by omega, by omega, by go_num, by go_num, HN⟩
        case measure => simp [intOf]; omega
      · have hc' : (((t[k]).toNat : Int) == 32) = false := by
          rw [beq_eq_false_iff_ne]
          intro h
          refine hc ?_
          apply UInt8.toNat_inj.1
          show (t[k]).toNat = 32
          omega
        have HN := Lib.hid (H.out.letter hb hlt hc)
        clear hc H
        go_wp2
        go_roundw
        case rel => exact ⟨b, k + 1, by omega, by omega, by go_num, by go_num, HN⟩
        case measure => simp [intOf]; omega
    · obtain rfl : k = t.size := by omega
      obtain ⟨ws, h1, h2, h3, h4⟩ := H.out
      have G := Lib.hid (And.intro h1 (And.intro h2 (And.intro h3 h4)))
      clear h1 h2 h3 h4 H
      go_wp2_with (at_builtin; refine wpList_append_own _ rfl _ _ 53 rfl w.heap.size 9 i0 (.string ⟨#[]⟩) 1 16 Tryd.underlying53 II.out.1 II.out.2.1 II.out.2.2.1 II.out.2.2.2 rfl (by decide) _ ws.length _ rfl (World.ownsRow.alloc G.out.2.2.1 _) ⟨wr.heap.size, 0, none⟩ 1 1 [.string (t.extract b t.size)] rfl rfl ?c1 ?c2 ?c3 ?c4 ?c5 ?_)
      case c1 => exact news_one _ _ rfl _ _
      case c2 => simp [Value.oneCell']
      case c3 => have := G.out.2.1; have := HT.out; unfold maxLen; omega
      case c4 => have := G.out.2.1; have := HT.out; omega
      case c5 => have := G.out.2.2.2.size; simp; omega
      intro v' w1 hown hgrow _
      have HN : Hid (Q (.returned v') w1) := by
        refine HQ.out v' (ws ++ [t.extract b t.size]) w1 ?_ ?_ (Below.grown (G.out.2.2.2.alloc _) hgrow (by have := G.out.2.2.2.size; simp; omega) (fun k hk => (G.out.2.2.1.lt k hk).1))
        · rw [G.out.1, show t.data.toList.drop t.size = [] from List.drop_eq_nil_of_le (by rw [size_list]; exact Nat.le_refl _), toL, toL, List.map_append]
          simp only [sp, List.map_cons, List.map_nil]
          rw [ext_mid]
        · rw [List.length_append, List.map_append]
          exact hown
      clear hown hgrow
      go_wp2
      exact HN.out
end Go.Proofs.YtononoebghbajaaDoor
