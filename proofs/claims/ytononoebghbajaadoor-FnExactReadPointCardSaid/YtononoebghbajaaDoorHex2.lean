/-
  Walks for RealText: the program's side, and the reference's.
-/
import Derived.Test.YtononoebghbajaaDoorHex
import Derived.Deep.AppendLies
import Derived.Laws.OwnMore
set_option linter.unusedSimpArgs false
set_option linter.unusedVariables false
namespace Go.Proofs.YtononoebghbajaaDoor
open Go.RowKit

set_option maxHeartbeats 4000000 in
theorem fmtIn (U : Nat) (h1 : 4294967296 ≤ U) (h2 : U < 8589934592) (w : World) (hT : Tab16 w) :
    Calls Tryd.prog 35 #[.int .u64 (U : Int), .int .i64 16] w fun e w' => e = .returned (.string (strOfNums (hexL U 9))) ∧ Kept w w' := by
  have HF := Lib.hid (formatHex U h1 h2 w hT)
  clear h1 h2 hT
  go_enter Tryd.func35, Tryd.ntmps35
  go_wp2_with (go_at_call 46; refine HF.out.mono ?_; rintro e w' ⟨rfl, hk⟩)
  have K := Lib.hid hk; clear hk
  go_wp2
  go_ret
  exact ⟨rfl, K.out⟩
set_option maxHeartbeats 4000000 in
theorem fmtPub (U : Nat) (h1 : 4294967296 ≤ U) (h2 : U < 8589934592) (w : World) (hT : Tab16 w) :
    Calls Tryd.prog 29 #[.int .u64 (U : Int), .int .i64 16] w fun e w' => e = .returned (.string (strOfNums (hexL U 9))) ∧ Kept w w' := by
  have HF := Lib.hid (fmtIn U h1 h2 w hT)
  clear h1 h2 hT
  go_enter Tryd.func29, Tryd.ntmps29
  go_wp2_with (go_at_call 35; refine HF.out.mono ?_; rintro e w' ⟨rfl, hk⟩)
  have K := Lib.hid hk; clear hk
  go_wp2
  go_ret
  exact ⟨rfl, K.out⟩
theorem or_u64_32 (n : Nat) (h : n < 4294967296) : bits .or .u64 (n : Int) 4294967296 = ((4294967296 + n : Nat) : Int) := by
  rw [show (4294967296 : Int) = ((4294967296 : Nat) : Int) from rfl, bits_or_u64_nat n 4294967296 (by omega) (by decide), Nat.or_comm, show (4294967296 : Nat) = 2 ^ 32 from rfl, ← Nat.two_pow_add_eq_or_of_lt (i := 32) h 1]
theorem hexL_low (n : Nat) : ∀ k, k ≤ 8 → hexL (4294967296 + n) k = hexL n k
  | 0, _ => rfl
  | k + 1, h => by
    have e : (4294967296 + n) / 16 ^ k % 16 = n / 16 ^ k % 16 := by
      have hk : k = 0 ∨ k = 1 ∨ k = 2 ∨ k = 3 ∨ k = 4 ∨ k = 5 ∨ k = 6 ∨ k = 7 := by omega
      rcases hk with rfl | rfl | rfl | rfl | rfl | rfl | rfl | rfl <;> omega
    simp only [hexL, e, hexL_low n k (by omega)]
theorem cut_first (x : Int) (l : List Int) : (strOfNums (x :: l)).extract 1 (strOfNums (x :: l)).size = strOfNums l := by
  apply ByteArray.ext
  rw [ByteArray.data_extract]
  have e : (strOfNums (x :: l)).size = l.length + 1 := by rw [strOfNums_size]; rfl
  rw [e]
  apply Array.toList_inj.1
  rw [Array.toList_extract, strOfNums_data, strOfNums_data]
  simp only [List.extract, List.map_cons, List.drop_succ_cons, List.drop_zero, Nat.add_sub_cancel]
  rw [List.take_of_length_le (by simp)]
theorem hex9 (n : Nat) : (strOfNums (hexL (4294967296 + n) 9)).extract 1 (strOfNums (hexL (4294967296 + n) 9)).size = strOfNums (hexL n 8) := by
  rw [show hexL (4294967296 + n) 9 = _ :: hexL (4294967296 + n) 8 from rfl, cut_first, hexL_low n 8 (Nat.le_refl _)]
set_option maxHeartbeats 4000000 in
theorem hexText (n : Nat) (h : n < 4294967296) (w : World) (hT : Tab16 w) :
    Calls Tryd.prog 19 #[.int .u32 (n : Int)] w fun e w' => e = .returned (.string (strOfNums (hexL n 8))) ∧ Kept w w' := by
  have HF := Lib.hid (fmtPub (4294967296 + n) (by omega) (by omega) w hT)
  have ho := or_u64_32 n h
  have HX := Lib.hid (hex9 n)
  have hs : (strOfNums (hexL (4294967296 + n) 9)).size = 9 := by rw [strOfNums_size, hexL_len]
  generalize strOfNums (hexL (4294967296 + n) 9) = s at *
  rw [hs] at HX
  generalize 4294967296 + n = U at *
  clear hT
  go_enter Tryd.func19, Tryd.ntmps19
  go_wp2_with (go_at_call 29; refine HF.out.mono ?_; rintro e w' ⟨rfl, hk⟩)
  have K := Lib.hid hk; clear hk
  go_wp2
  go_ret
  exact ⟨by rw [← HX.out]; rfl, K.out⟩
def nanS : ByteArray := ⟨#[110, 97, 110]⟩
def textB (n : Nat) : ByteArray := if nanB n then nanS else strOfNums (hexL n 8)
set_option maxHeartbeats 4000000 in
theorem implText (n : Nat) (h : n < 4294967296) (w : World) (hT : Tab16 w) :
    Calls Tryd.prog 8 #[.float .f32 n] w fun e w' => e = .returned (.string (textB n)) ∧ Kept w w' := by
  have HF := Lib.hid (hexText n h w hT)
  have hb := bits32
  have HN := Lib.hid (implIsNaN n w)
  clear h hT
  unfold textB
  cases hn : nanB n
  · rw [hn] at HN
    clear hn
    go_enter Tryd.func8, Tryd.ntmps8
    go_wp2_with (first | (go_at_call 18; refine HN.out.mono ?_; rintro e w' ⟨rfl, rfl⟩) | (go_at_call 19; refine HF.out.mono ?_; rintro e w' ⟨rfl, hk⟩))
    have K := Lib.hid hk; clear hk
    go_wp2
    go_ret
    exact ⟨rfl, K.out⟩
  · rw [hn] at HN
    clear hn
    go_enter Tryd.func8, Tryd.ntmps8
    go_wp2_with (first | (go_at_call 18; refine HN.out.mono ?_; rintro e w' ⟨rfl, rfl⟩))
    go_ret
    exact ⟨rfl, Kept.refl _⟩
theorem infoU8 : (Tryd.prog.info? 5).map (fun i => (i.zero, i.size, i.bytes)) = some (some (.int .u8 0), 1, 1) := by kernel_rfl
set_option maxRecDepth 100000 in
theorem digit16 (d : Nat) (h : d < 16) (h' : d < (⟨#[48, 49, 50, 51, 52, 53, 54, 55, 56, 57, 97, 98, 99, 100, 101, 102]⟩ : ByteArray).size) : (((⟨#[48, 49, 50, 51, 52, 53, 54, 55, 56, 57, 97, 98, 99, 100, 101, 102]⟩ : ByteArray)[d]'h').toNat) = hexB d := by
  have hd : d = 0 ∨ d = 1 ∨ d = 2 ∨ d = 3 ∨ d = 4 ∨ d = 5 ∨ d = 6 ∨ d = 7 ∨ d = 8 ∨ d = 9 ∨ d = 10 ∨ d = 11 ∨ d = 12 ∨ d = 13 ∨ d = 14 ∨ d = 15 := by omega
  clear h
  rcases hd with rfl | rfl | rfl | rfl | rfl | rfl | rfl | rfl | rfl | rfl | rfl | rfl | rfl | rfl | rfl | rfl <;> rfl
theorem and_u32_15 (n k : Nat) (h : n < 4294967296) : bits .and .u32 ((n : Int) / 2 ^ k) 15 = ((n / 2 ^ k % 16 : Nat) : Int) := by
  have e : ((n : Int) / 2 ^ k) = ((n / 2 ^ k : Nat) : Int) := by simp
  have hl : n / 2 ^ k < 4294967296 := Nat.lt_of_le_of_lt (Nat.div_le_self _ _) h
  rw [e, show (15 : Int) = ((15 : Nat) : Int) from rfl, u32_and_nat _ 15 hl (by decide), show (15 : Nat) = 2 ^ 4 - 1 from rfl, Nat.and_two_pow_sub_one_eq_mod]
/-- the first t digits of the eight of n, the greatest first -/
def hexUp (n t : Nat) : List Int := (hexL n 8).take t
theorem hexUp_len (n t : Nat) (h : t ≤ 8) : (hexUp n t).length = t := by simp [hexUp, hexL_len, h]
theorem hexUp_succ (n t : Nat) (h : t < 8) : hexUp n (t + 1) = hexUp n t ++ [((hexB (n / 16 ^ (7 - t) % 16) : Nat) : Int)] := by
  unfold hexUp
  rw [List.take_succ_eq_append_getElem (by rw [hexL_len]; exact h)]
  have := hexL_get n 8 t h
  rw [List.getD_eq_getElem?_getD, List.getElem?_eq_getElem (by rw [hexL_len]; exact h)] at this
  simp only [Option.getD_some] at this
  rw [this]
theorem news_one (W : World) (n : Nat) (hn : n = W.heap.size) (u : Value) (t : TypeId) : ∀ (j : Nat) (z : Value), [u][j]? = some z → (W.alloc (.cells #[u] t)).cell? ((⟨n, 0, none⟩ : Addr).add j) = some z := by
  intro j z hj
  match j, hj with
  | 0, hj =>
    simp at hj; subst hj
    show (W.alloc (.cells #[u] t)).cell? ⟨n, 0, none⟩ = _
    rw [World.cell?_alloc_at _ _ _ _ hn]; rfl
  | k + 1, hj => simp at hj
set_option maxRecDepth 100000 in
set_option maxHeartbeats 4000000 in
theorem specText (n : Nat) (h : n < 4294967296) (w : World) :
    Calls Tryd.prog 17 #[.float .f32 n] w fun e w' => e = .returned (.string (textB n)) ∧ Kept w w' := by
  have hb := bits32
  have HN := Lib.hid (specIsNaN n w)
  unfold textB
  cases hn : nanB n
  · rw [hn] at HN
    clear hn
    obtain ⟨i0, hi, hz0, hz1, hz2⟩ := info_parts infoU8
    have II := Lib.hid (And.intro hi (And.intro hz0 (And.intro hz1 hz2)))
    clear hi hz0 hz1 hz2
    have H0 := Lib.hid h
    clear h
    go_enter Tryd.func17, Tryd.ntmps17
    go_wp2_with (first | (go_at_call 28; refine HN.out.mono ?_; rintro e w' ⟨rfl, rfl⟩))
    go_loopw [5, 6] (fun v k wr => ∃ t : Nat, t ≤ 8 ∧ k = .int .i64 (28 - 4 * (t : Int)) ∧ Hid (wr.ownsRow w.heap.size 5 1 v t ((hexUp n t).map (Value.int .u8)) ∧ Kept w wr)) (fun _ k _ => (intOf k + 4).toNat)
    case atStart => exact ⟨0, by omega, rfl, Lib.hid ⟨World.ownsRow_made w #[] 0 (Nat.le_refl _) (by decide) rfl, (Kept.refl w).alloc _⟩⟩
    case round =>
      obtain ⟨t, ht, rfl, H⟩ := hrel
      by_cases hlt : t < 8
      · obtain ⟨k, hk⟩ : ∃ k : Nat, (28 - 4 * (t : Int)) = (k : Int) := ⟨28 - 4 * t, by omega⟩
        rw [hk]
        have hk2 : (k : Int) ≤ 28 := by omega
        have ha := and_u32_15 n k H0.out
        have HD : Hid (n / 2 ^ k % 16 = n / 16 ^ (7 - t) % 16) := by
          rw [show (16 : Nat) = 2 ^ 4 from rfl, ← Nat.pow_mul, show 4 * (7 - t) = k by omega]
          exact Lib.hid rfl
        have hd : n / 2 ^ k % 16 < 16 := Nat.mod_lt _ (by decide)
        have HK := Lib.hid (And.intro hk (And.intro ht hlt))
        clear hk ht hlt
        generalize n / 2 ^ k % 16 = d at *
        go_wp2_with (at_builtin; refine wpList_append_own _ rfl _ _ 56 rfl w.heap.size 5 i0 (.int .u8 0) 1 1 Tryd.underlying56 II.out.1 II.out.2.1 II.out.2.2.1 II.out.2.2.2 rfl (by decide) _ t _ rfl (World.ownsRow.alloc H.out.1 _) ⟨wr.heap.size, 0, none⟩ 1 1 [.int .u8 ((hexB d : Nat) : Int)] rfl rfl ?c1 ?c2 ?c3 ?c4 ?c5 ?_)
        case c1 => rw [digit16 d hd]; exact news_one _ _ rfl _ _
        case c2 => simp [Value.oneCell']
        case c3 => have := HK.out.2.1; unfold maxLen; omega
        case c4 => have := HK.out.2.1; omega
        case c5 => have := H.out.2.size; simp; omega
        intro v' w1 hown hgrow _
        have HN : Hid (w1.ownsRow w.heap.size 5 1 v' (t + 1) ((hexUp n (t + 1)).map (Value.int .u8)) ∧ Kept w w1) := by
          rw [hexUp_succ n t HK.out.2.2, ← HD.out, List.map_append]
          exact Lib.hid ⟨hown, Below.grown (H.out.2.alloc _) hgrow (by have := H.out.2.size; simp; omega) (fun k hk => (H.out.1.lt k hk).1)⟩
        clear hown hgrow
        have hkk : (k : Int) - 4 = 28 - 4 * ((t + 1 : Nat) : Int) := by have := HK.out.1; omega
        have HKK := Lib.hid hkk
        clear hkk
        go_wp2
        go_roundw
        case rel => exact ⟨t + 1, by have := HK.out; omega, by rw [HKK.out], HN⟩
        case measure => have := HK.out; simp [intOf]; omega
      · obtain rfl : t = 8 := by omega
        obtain ⟨g, cap, rfl, -, -⟩ := World.ownsRow.form H.out.1 (by decide)
        have hcv := run_convert_bytes_arg (P := Tryd.prog) wr 56 5 Tryd.underlying56 Tryd.underlying5 g 0 8 cap (hexL n 8) (hexL_len n 8) (fun i hi => by
          rw [Nat.zero_add, World.ownsRow.cellAt H.out.1 i (by omega)]
          simp [hexUp, List.getD, hexL_len, hi]) 9 Tryd.underlying9
        go_wp2
        go_ret
        exact ⟨rfl, H.out.2⟩
  · rw [hn] at HN
    clear hn
    go_enter Tryd.func17, Tryd.ntmps17
    go_wp2_with (first | (go_at_call 28; refine HN.out.mono ?_; rintro e w' ⟨rfl, rfl⟩))
    go_ret
    exact ⟨rfl, Kept.refl _⟩
end Go.Proofs.YtononoebghbajaaDoor
