/-
  Walks for ReadReal: strconv.ParseUint, and the program's side.
-/
import Derived.Test.YtononoebghbajaaDoorRead2
import Derived.Outline
set_option linter.unusedSimpArgs false
set_option linter.unusedVariables false
namespace Go.Proofs.YtononoebghbajaaDoor
open Go.RowKit

/-- the library's two variables of errors hold errors -/
def Errs (w : World) : Prop := (∃ ev, w.cell? ⟨2, 0, none⟩ = some ev ∧ (ev = .nilIface ∨ ∃ te pe, ev = .iface te pe)) ∧ (∃ ev, w.cell? ⟨3, 0, none⟩ = some ev ∧ (ev = .nilIface ∨ ∃ te pe, ev = .iface te pe))
theorem Errs.kept {w w' : World} (h : Errs w) (hk : Kept w w') : Errs w' := by
  obtain ⟨⟨e1, h1, h2⟩, ⟨e2, h3, h4⟩⟩ := h
  exact ⟨⟨e1, hk.cell h1, h2⟩, ⟨e2, hk.cell h3, h4⟩⟩
def Parsed2 (l : List UInt8) (w : World) (e : Ending) (w' : World) : Prop :=
  ((∃ v : Nat, okNum l = some v ∧ v < 4294967296 ∧ e = .returned (.tuple #[.int .u64 (v : Int), .nilIface])) ∨ (okNum l = none ∧ ∃ (x : Int) (N : Nat), e = .returned (.tuple #[.int .u64 x, .iface 64 (.pointer (some ⟨N, 0, none⟩))]))) ∧ Kept w w'
theorem Parsed2.ok {l : List UInt8} {w w' : World} {v : Nat} (h : okNum l = some v) (hv : v < 4294967296) (hk : Kept w w') : Parsed2 l w (.returned (.tuple #[.int .u64 (v : Int), .nilIface])) w' := ⟨.inl ⟨v, h, hv, rfl⟩, hk⟩
theorem Parsed2.bad {l : List UInt8} {w w' : World} {x : Int} {N : Nat} (h : okNum l = none) (hk : Kept w w') : Parsed2 l w (.returned (.tuple #[.int .u64 x, .iface 64 (.pointer (some ⟨N, 0, none⟩))])) w' := ⟨.inr ⟨h, x, N, rfl⟩, hk⟩
/-- the inner ParseUint, at every text -/
def Parsed1 (l : List UInt8) (w : World) (e : Ending) (w' : World) : Prop :=
  ((∃ v : Nat, okNum l = some v ∧ v < 4294967296 ∧ e = .returned (.tuple #[.int .u64 (v : Int), .nilIface])) ∨ (okNum l = none ∧ ∃ x c : Int, (c = 1 ∨ c = 2) ∧ e = .returned (.tuple #[.int .u64 x, .iface 62 (.int .i64 c)]))) ∧ Kept w w'
theorem parseAny (t : ByteArray) (hmax : t.size ≤ 9223372036854775806) (w : World) :
    Calls Tryd.prog 31 #[.string t, .int .i64 16, .int .i64 32] w (Parsed1 t.data.toList w) := by
  by_cases h0 : t.size = 0
  · have ht : t = ⟨#[]⟩ := by
      apply ByteArray.ext
      exact Array.eq_empty_of_size_eq_zero h0
    subst ht
    refine (Tryd.internal_strconv_ParseUint_empty 16 32 w).mono ?_
    rintro e w' ⟨rfl, rfl⟩
    exact ⟨.inr ⟨rfl, 0, 2, .inr rfl, rfl⟩, Kept.refl _⟩
  · refine (parseIn t h0 hmax w).mono ?_
    have e : okNum t.data.toList = P16 0 t.data.toList := by
      unfold okNum
      rw [if_neg (fun h => h0 (by rw [← size_list, h]; rfl))]
    rintro x w' ⟨h, hk⟩
    unfold Parsed1
    rw [e]
    exact ⟨h, hk⟩
set_option maxHeartbeats 4000000 in
theorem parsePub (t : ByteArray) (hmax : t.size ≤ 281474976710656) (w : World) (hE : Errs w) :
    Calls Tryd.prog 23 #[.string t, .int .i64 16, .int .i64 32] w (Parsed2 t.data.toList w) := by
  have HP := Lib.hid (parseAny t (by omega) w)
  have HE := Lib.hid hE
  have HS := fun ev w => Lib.hid (Tryd.strconv_toError_syntax ⟨#[80, 97, 114, 115, 101, 85, 105, 110, 116]⟩ t 16 32 ev w hmax)
  have HR := fun ev w => Lib.hid (Tryd.strconv_toError_range ⟨#[80, 97, 114, 115, 101, 85, 105, 110, 116]⟩ t 16 32 ev w hmax)
  clear hE hmax
  generalize t.data.toList = l at *
  go_enter Tryd.func23, Tryd.ntmps23
  go_wp2_with fail
  refine HP.out.mono ?_
  rintro _ w1 ⟨⟨v, h1, h2, rfl⟩ | ⟨h1, x, c, hc, rfl⟩, hk⟩
  · have H := Lib.hid (And.intro h1 (And.intro h2 hk))
    clear h1 h2 hk HP
    go_wp2
    go_ret2
    exact Parsed2.ok H.out.1 H.out.2.1 H.out.2.2
  · have H := Lib.hid (And.intro h1 hk)
    clear h1 hk HP
    obtain ⟨⟨e1, g1, g2⟩, ⟨e2, g3, g4⟩⟩ := HE.out.kept H.out.2
    have G := Lib.hid (And.intro g1 (And.intro g2 (And.intro g3 g4)))
    clear g1 g2 g3 g4
    rcases hc with rfl | rfl
    · go_wp2_with fail
      refine ((HR e2 _).out G.out.2.2.1 G.out.2.2.2).mono ?_
      rintro _ w2 ⟨N, rfl, -, -, h3⟩
      have H3 := Lib.hid (Kept.trans H.out.2 h3)
      clear h3
      go_wp2
      go_ret2
      exact Parsed2.bad H.out.1 H3.out
    · go_wp2_with fail
      refine ((HS e1 _).out G.out.1 G.out.2.1).mono ?_
      rintro _ w2 ⟨N, rfl, -, -, h3⟩
      have H3 := Lib.hid (Kept.trans H.out.2 h3)
      clear h3
      go_wp2
      go_ret2
      exact Parsed2.bad H.out.1 H3.out
/-- what both sides hand back -/
def readB (t : ByteArray) : Nat := match specNum t with | some v => if nanB v then 0 else v | none => 0
def readC (t : ByteArray) : Int := match specNum t with | some v => if nanB v then 5 else 0 | none => 5
theorem read_yes {t : ByteArray} {v : Nat} (h : specNum t = some v) (hn : nanB v = false) : readB t = v ∧ readC t = 0 := by
  unfold readB readC; rw [h]; simp [hn]
theorem read_no {t : ByteArray} (h : ¬ ∃ v, specNum t = some v ∧ nanB v = false) : readB t = 0 ∧ readC t = 5 := by
  unfold readB readC
  cases hs : specNum t with
  | none => exact ⟨rfl, rfl⟩
  | some v =>
    cases hn : nanB v with
    | true => simp [hn]
    | false => exact absurd ⟨v, hs, hn⟩ h
theorem eq_list (s t : ByteArray) : s = t ↔ s.toList = t.toList := by
  rw [ByteArray.toList_eq, ByteArray.toList_eq]
  exact ⟨fun h => by rw [h], fun h => bytes_inj h⟩
theorem ne_nan {t : ByteArray} (ht : t ≠ nanS) : (t.toList == [110, 97, 110]) = false := by
  rw [beq_eq_false_iff_ne]
  intro h
  exact ht ((eq_list t nanS).2 (by rw [h, ByteArray.toList_eq]; rfl))
set_option maxHeartbeats 4000000 in
theorem implRead (t : ByteArray) (hmax : t.size ≤ 281474976710656) (ht : t ≠ nanS) (w : World) (hE : Errs w) (hT : Tab16 w) :
    Calls Tryd.prog 10 #[.string t] w fun e w' => e = .returned (.tuple #[.float .f32 (readB t), .int .i64 (readC t)]) ∧ Kept w w' := by
  have HP := Lib.hid (parsePub t hmax w hE)
  have HT := Lib.hid hT
  have hf := from32
  have HX := Lib.hid implText
  have h0 := ne_nan ht
  have HN := Lib.hid ht
  clear hE hT hmax ht
  go_enter Tryd.func10, Tryd.ntmps10
  go_wp2_with fail
  refine HP.out.mono ?_
  rintro _ w1 ⟨⟨v, h1, h2, rfl⟩ | ⟨h1, x, N, rfl⟩, hk⟩
  · have hw : IntKind.u32.wrap (v : Int) = v := by rw [IntKind.wrap_u32]; omega
    have H := Lib.hid (And.intro h1 (And.intro h2 hk))
    clear h1 h2 hk HP
    have T1 : Hid (Tab16 w1) := H.out.2.2.cell HT.out
    have HXv := Lib.hid (HX.out v H.out.2.1 w1 T1.out)
    by_cases hq : textB v = t
    · obtain ⟨q1, q2⟩ := impl_spec H.out.2.1 HN.out hq
      obtain ⟨r1, r2⟩ := read_yes q1 q2
      have R := Lib.hid (And.intro r1 r2)
      rw [hq] at HXv
      clear q1 q2 r1 r2 hq
      go_wp2_with fail
      refine HXv.out.mono ?_
      rintro _ w2 ⟨rfl, hk2⟩
      have K := Lib.hid (Kept.trans H.out.2.2 hk2); clear hk2
      go_wp2
      go_ret2
      exact ⟨by rw [R.out.1, R.out.2]; rfl, K.out⟩
    · obtain ⟨r1, r2⟩ := read_no (t := t) (fun ⟨v', a, b⟩ => by
        obtain ⟨c, d⟩ := spec_impl a b
        rw [H.out.1] at c
        obtain rfl := Option.some.inj c
        exact hq d)
      have R := Lib.hid (And.intro r1 r2)
      have hq1 : ((textB v).toList == t.toList) = false := by
        rw [beq_eq_false_iff_ne]; exact fun h => hq ((eq_list _ _).2 h)
      clear r1 r2 hq
      generalize textB v = s at *
      go_wp2_with fail
      refine HXv.out.mono ?_
      rintro _ w2 ⟨rfl, hk2⟩
      have K := Lib.hid (Kept.trans H.out.2.2 hk2); clear hk2
      go_wp2
      go_ret2
      exact ⟨by rw [R.out.1, R.out.2]; rfl, K.out⟩
  · obtain ⟨r1, r2⟩ := read_no (t := t) (fun ⟨v', a, b⟩ => by
      obtain ⟨c, d⟩ := spec_impl a b
      rw [h1] at c
      cases c)
    have R := Lib.hid (And.intro r1 r2)
    have K := Lib.hid hk
    clear r1 r2 h1 hk HP
    go_wp2
    go_ret2
    exact ⟨by rw [R.out.1, R.out.2]; rfl, K.out⟩
end Go.Proofs.YtononoebghbajaaDoor
