/-
  Walks for ReadPoint: strings.Cut at a space, and the program's side; the plain laws on words.
-/
import Derived.Test.YtononoebghbajaaDoorRead5
import Derived.Lib.IndexLaws
import Derived.Lib.IndexBytes
import Derived.Laws.Strings3
import Derived.Deep.QuietTactic
import Derived.BigQuiet
import Derived.Outline
set_option linter.unusedSimpArgs false
set_option linter.unusedVariables false
namespace Go.Proofs.YtononoebghbajaaDoor
open Go.RowKit

/-- the words of a text between spaces, the first of them begun -/
def sp (cur : List UInt8) : List UInt8 → List (List UInt8)
  | [] => [cur]
  | c :: r => if c = 32 then cur :: sp [] r else sp (cur ++ [c]) r
theorem sp_none : ∀ (l cur : List UInt8), (32 : UInt8) ∉ l → sp cur l = [cur ++ l]
  | [], cur, _ => by simp [sp]
  | c :: r, cur, h => by
    have h1 : c ≠ 32 := fun e => h (by rw [e]; exact List.mem_cons_self)
    have h2 : (32 : UInt8) ∉ r := fun e => h (List.mem_cons_of_mem _ e)
    simp only [sp]
    rw [if_neg h1, sp_none r _ h2]
    simp
theorem sp_pos : ∀ (l cur : List UInt8), 1 ≤ (sp cur l).length
  | [], cur => by simp [sp]
  | c :: r, cur => by
    simp only [sp]
    split
    · simp
    · exact sp_pos r _
theorem sp_some : ∀ (l cur : List UInt8), (32 : UInt8) ∈ l → 2 ≤ (sp cur l).length
  | [], cur, h => by cases h
  | c :: r, cur, h => by
    simp only [sp]
    split
    · have := sp_pos r []
      simp only [List.length_cons]
      omega
    · rename_i h1
      rcases List.mem_cons.1 h with e | e
      · exact absurd e.symm h1
      · exact sp_some r _ e
theorem sp_first : ∀ (p q cur : List UInt8), (32 : UInt8) ∉ p → sp cur (p ++ 32 :: q) = (cur ++ p) :: sp [] q
  | [], q, cur, _ => by simp [sp]
  | c :: p, q, cur, h => by
    have h1 : c ≠ 32 := fun e => h (by rw [e]; exact List.mem_cons_self)
    have h2 : (32 : UInt8) ∉ p := fun e => h (List.mem_cons_of_mem _ e)
    simp only [sp, List.cons_append]
    rw [if_neg h1, sp_first p q _ h2]
    simp
theorem R8_space : ∀ (l : List UInt8) (acc v : Nat), R8 acc l = some v → (32 : UInt8) ∉ l
  | [], acc, v, h => by simp
  | c :: r, acc, v, h => by
    simp only [R8] at h
    cases hc : lowV c with
    | none => rw [hc] at h; cases h
    | some d =>
      rw [hc] at h
      intro hm
      rcases List.mem_cons.1 hm with e | e
      · rw [← e] at hc
        rw [show lowV 32 = none by decide] at hc
        cases hc
      · exact R8_space r _ _ h e
theorem rok_space {t : ByteArray} (h : rok t = true) : (32 : UInt8) ∉ t.data.toList := by
  unfold rok at h
  split at h
  · rename_i e; subst e; decide
  · cases hs : specNum t with
    | none => rw [hs] at h; cases h
    | some v =>
      unfold specNum at hs
      split at hs
      · exact R8_space _ _ _ hs
      · cases hs
/-- what both sides make of a text -/
def pok (t : ByteArray) : Bool := match sp [] t.data.toList with | [p, q] => rok ⟨p.toArray⟩ && rok ⟨q.toArray⟩ | _ => false
def pre (t : ByteArray) : Nat := if pok t then match sp [] t.data.toList with | [p, q] => refB ⟨p.toArray⟩ | _ => 0 else 0
def pim (t : ByteArray) : Nat := if pok t then match sp [] t.data.toList with | [p, q] => refB ⟨q.toArray⟩ | _ => 0 else 0
def pcode (t : ByteArray) : Int := if pok t then 0 else 5
def PointOut (t : ByteArray) (w : World) (e : Ending) (w' : World) : Prop := ∃ u v : Nat, (e = .returned (.tuple #[.complex .f32 u v, .int .i64 (pcode t)]) ∧ eqn u (pre t) ∧ eqn v (pim t)) ∧ Kept w w'
theorem point_two {t : ByteArray} {p q : List UInt8} (h : sp [] t.data.toList = [p, q]) (u v : Nat) (hp : rok ⟨p.toArray⟩ = true) (hq : rok ⟨q.toArray⟩ = true) (hu : eqn u (refB ⟨p.toArray⟩)) (hv : eqn v (refB ⟨q.toArray⟩)) {w w' : World} (hk : Kept w w') :
    PointOut t w (.returned (.tuple #[.complex .f32 u v, .int .i64 0])) w' := by
  have e : pok t = true := by unfold pok; rw [h]; simp [hp, hq]
  refine ⟨u, v, ⟨by unfold pcode; rw [e]; rfl, ?_, ?_⟩, hk⟩
  · unfold pre; rw [e, h]; exact hu
  · unfold pim; rw [e, h]; exact hv
theorem point_bad {t : ByteArray} (h : pok t = false) {w w' : World} (hk : Kept w w') : PointOut t w (.returned (.tuple #[.complex .f32 0 0, .int .i64 5])) w' := by
  refine ⟨0, 0, ⟨by unfold pcode; rw [h]; rfl, .inl ?_, .inl ?_⟩, hk⟩
  · unfold pre; rw [h]; rfl
  · unfold pim; rw [h]; rfl
theorem pok_two {t : ByteArray} {p q : List UInt8} (h : sp [] t.data.toList = [p, q]) : pok t = (rok ⟨p.toArray⟩ && rok ⟨q.toArray⟩) := by unfold pok; rw [h]
theorem pok_len {t : ByteArray} (h : (sp [] t.data.toList).length ≠ 2) : pok t = false := by
  unfold pok
  split
  · rename_i p q e; rw [e] at h; exact absurd rfl h
  · rfl
/-- the first space of a text -/
theorem split_at {t : ByteArray} {o : Nat} (h : Lib.indexByte t.data.toList 32 = o) :
    o < t.size ∧ t.data.toList = (t.data.toList.take o) ++ 32 :: t.data.toList.drop (o + 1) ∧ (32 : UInt8) ∉ t.data.toList.take o := by
  obtain ⟨h1, h2⟩ := Lib.indexByte_some h
  obtain ⟨h3, h4⟩ := List.getElem?_eq_some_iff.1 h1
  refine ⟨h3, ?_, ?_⟩
  · have := List.take_append_drop o t.data.toList
    rw [List.drop_eq_getElem_cons h3, h4] at this
    exact this.symm
  · intro hm
    obtain ⟨k, hk, e⟩ := List.mem_iff_getElem.1 hm
    have hk' : k < o := by simp only [List.length_take] at hk; omega
    refine h2 k hk' ?_
    rw [List.getElem?_eq_getElem (by omega)]
    rw [List.getElem_take] at e
    rw [e]
theorem no_space {t : ByteArray} (h : Lib.indexByte t.data.toList 32 = -1) : (32 : UInt8) ∉ t.data.toList := by
  intro hm
  obtain ⟨k, hk, e⟩ := List.mem_iff_getElem.1 hm
  exact Lib.indexByte_none h k (by rw [List.getElem?_eq_getElem hk, e])
theorem ext_take (t : ByteArray) (o : Nat) : t.extract 0 o = ⟨(t.data.toList.take o).toArray⟩ := by
  apply bytes_inj
  rw [ByteArray.data_extract, Array.toList_extract]
  simp [List.extract]
theorem ext_drop (t : ByteArray) (o : Nat) : t.extract o t.size = ⟨(t.data.toList.drop o).toArray⟩ := by
  apply bytes_inj
  rw [ByteArray.data_extract, Array.toList_extract]
  simp only [List.extract]
  rw [List.take_of_length_le (by rw [List.length_drop, size_list]; exact Nat.le_refl _)]
/-- what Cut hands back -/
def CutOut (t : ByteArray) (w : World) (e : Ending) (w' : World) : Prop :=
  ((∃ o : Nat, Lib.indexByte t.data.toList 32 = o ∧ e = .returned (.tuple #[.string (t.extract 0 o), .string (t.extract (o + 1) t.size), .bool true])) ∨ (Lib.indexByte t.data.toList 32 = -1 ∧ e = .returned (.tuple #[.string t, .string ⟨#[]⟩, .bool false]))) ∧ Kept w w'
set_option maxHeartbeats 4000000 in
theorem cutIn (t : ByteArray) (ht : t.size ≤ 1048576) (w : World) :
    Calls Tryd.prog 34 #[.string t, .string ⟨#[32]⟩] w (CutOut t w) := by
  have HI := Lib.hid (Tryd.stringslite_Index_one t 32)
  have hge := Lib.indexByte_ge t.data.toList 32
  by_cases hn : Lib.indexByte t.data.toList 32 = -1
  · have HQ : Hid (CutOut t w (.returned (.tuple #[.string t, .string ⟨#[]⟩, .bool false])) w) := ⟨.inr ⟨hn, rfl⟩, Kept.refl w⟩
    rw [hn] at HI
    generalize CutOut t w = Q at *
    clear hn hge ht
    go_enter Tryd.func34, Tryd.ntmps34
    go_wp2_with (go_at_call 42; refine (HI.out _).mono ?_; rintro e w' ⟨rfl, rfl⟩)
    go_ret3
    exact HQ.out
  · obtain ⟨o, ho⟩ : ∃ o : Nat, Lib.indexByte t.data.toList 32 = o := ⟨(Lib.indexByte t.data.toList 32).toNat, by omega⟩
    obtain ⟨h3, -, -⟩ := split_at ho
    have HQ : Hid (∀ w', Kept w w' → CutOut t w (.returned (.tuple #[.string (t.extract 0 o), .string (t.extract (o + 1) t.size), .bool true])) w') := fun w' hk => ⟨.inl ⟨o, ho, rfl⟩, hk⟩
    rw [ho] at HI
    generalize CutOut t w = Q at *
    have h3' : (o : Int) + 1 ≤ (t.size : Int) := by omega
    have h4 : (o : Int) ≤ (t.size : Int) := by omega
    have h0 : (0 : Int) ≤ (o : Int) := by omega
    have hw : IntKind.i64.wrap ((o : Int) + 1) = (o : Int) + 1 := by rw [IntKind.wrap_i64]; omega
    clear hn hge ho
    go_enter Tryd.func34, Tryd.ntmps34
    go_wp2_with (go_at_call 42; refine (HI.out _).mono ?_; rintro e w' ⟨rfl, rfl⟩)
    go_quiet (fail)
    go_wp2
    go_ret3
    exact HQ.out _ (Kept.drewN (Kept.refl _) _)
set_option maxHeartbeats 4000000 in
theorem cutPub (t : ByteArray) (ht : t.size ≤ 1048576) (w : World) :
    Calls Tryd.prog 26 #[.string t, .string ⟨#[32]⟩] w (CutOut t w) := by
  have HI := Lib.hid (cutIn t ht w)
  have HQ1 : Hid (∀ o : Nat, Lib.indexByte t.data.toList 32 = o → ∀ w', Kept w w' → CutOut t w (.returned (.tuple #[.string (t.extract 0 o), .string (t.extract (o + 1) t.size), .bool true])) w') := fun o ho w' hk => ⟨.inl ⟨o, ho, rfl⟩, hk⟩
  have HQ2 : Hid (Lib.indexByte t.data.toList 32 = -1 → ∀ w', Kept w w' → CutOut t w (.returned (.tuple #[.string t, .string ⟨#[]⟩, .bool false])) w') := fun hn w' hk => ⟨.inr ⟨hn, rfl⟩, hk⟩
  have HD := Lib.hid (fun e w' (h : CutOut t w e w') => h)
  unfold CutOut at HI
  generalize CutOut t w = Q at *
  clear HD ht
  go_enter Tryd.func26, Tryd.ntmps26
  go_wp2_with fail
  refine HI.out.mono ?_
  rintro _ w1 ⟨⟨o, ho, rfl⟩ | ⟨hn, rfl⟩, hk⟩
  · have H := Lib.hid (HQ1.out o ho _ hk)
    clear ho hk HI
    go_wp2
    go_ret3
    exact H.out
  · have H := Lib.hid (HQ2.out hn _ hk)
    clear hn hk HI
    go_wp2
    go_ret3
    exact H.out
set_option maxHeartbeats 4000000 in
theorem implPoint (t : ByteArray) (ht : t.size ≤ 1048576) (w : World) (hE : Errs w) (hT : Tab16 w) :
    Calls Tryd.prog 13 #[.string t] w (PointOut t w) := by
  have HC := Lib.hid (cutPub t ht w)
  have HI := Lib.hid (fun s (h : s.size ≤ 281474976710656) w1 (hk : Kept w w1) => implReadAll s h w1 (hE.kept hk) (hk.cell hT))
  have HQ1 := Lib.hid (fun p q (h : sp [] t.data.toList = [p, q]) u v a b c d w' (hk : Kept w w') => point_two h u v a b c d hk)
  have HQ2 := Lib.hid (fun (h : pok t = false) w' (hk : Kept w w') => point_bad h hk)
  generalize PointOut t w = Q at *
  have HT := Lib.hid ht
  clear hE hT ht
  go_enter Tryd.func13, Tryd.ntmps13
  go_wp2_with fail
  refine HC.out.mono ?_
  rintro _ w1 ⟨⟨o, ho, rfl⟩ | ⟨hn, rfl⟩, hk⟩
  · have K1 := Lib.hid hk
    clear hk HC
    obtain ⟨p, hp⟩ : ∃ p, p = t.extract 0 o := ⟨_, rfl⟩
    obtain ⟨q, hq⟩ : ∃ q, q = t.extract (o + 1) t.size := ⟨_, rfl⟩
    rw [← hp, ← hq]
    have HS : Hid (p.size ≤ 281474976710656 ∧ q.size ≤ 281474976710656) := by
      have := HT.out
      refine Lib.hid ⟨?_, ?_⟩
      · rw [hp, ByteArray.size_extract]; omega
      · rw [hq, ByteArray.size_extract]; omega
    have HP : Hid (pok t = (rok p && rok q) ∧ (rok p = true → rok q = true → sp [] t.data.toList = [p.data.toList, q.data.toList])) := by
      obtain ⟨h3, h4, h5⟩ := split_at ho
      have e1 : p.data.toList = t.data.toList.take o := by rw [hp, ext_take]
      have e2 : q.data.toList = t.data.toList.drop (o + 1) := by rw [hq, ext_drop]
      have e3 : sp [] t.data.toList = p.data.toList :: sp [] q.data.toList := by
        rw [e1, e2]
        have := sp_first _ (t.data.toList.drop (o + 1)) [] h5
        rw [← h4] at this
        exact this
      have e4 : (32 : UInt8) ∉ q.data.toList → sp [] t.data.toList = [p.data.toList, q.data.toList] := fun h => by
        rw [e3, sp_none _ _ h]; rfl
      refine Lib.hid ⟨?_, fun _ hq => e4 (rok_space hq)⟩
      by_cases hm : (32 : UInt8) ∈ q.data.toList
      · have hq0 : rok q = false := by
          cases h : rok q with
          | false => rfl
          | true => exact absurd hm (rok_space h)
        rw [hq0, Bool.and_false]
        refine pok_len ?_
        rw [e3, List.length_cons]
        have := sp_some q.data.toList [] hm
        omega
      · rw [pok_two (e4 hm)]
    clear hp hq ho
    go_wp2_with fail
    refine (HI.out p HS.out.1 _ K1.out).mono ?_
    rintro _ w2 ⟨u, ⟨rfl, hu⟩, hk⟩
    have U := Lib.hid hu
    have K2 := Lib.hid (Kept.trans K1.out hk)
    clear hu hk K1
    go_wp2_with fail
    refine (HI.out q HS.out.2 _ K2.out).mono ?_
    rintro _ w3 ⟨v, ⟨rfl, hv⟩, hk⟩
    have V := Lib.hid hv
    have K3 := Lib.hid (Kept.trans K2.out hk)
    clear hv hk K2
    cases hrp : rok p
    · have e1 : rcode p = 5 := by unfold rcode; rw [hrp]; rfl
      have HB := Lib.hid (HQ2.out (by rw [HP.out.1, hrp]; rfl) _ K3.out)
      clear hrp
      rw [e1]
      go_wp2
      exact HB.out
    · cases hrq : rok q
      · have e1 : rcode p = 0 := by unfold rcode; rw [hrp]; rfl
        have e2 : rcode q = 5 := by unfold rcode; rw [hrq]; rfl
        have HB := Lib.hid (HQ2.out (by rw [HP.out.1, hrp, hrq]; rfl) _ K3.out)
        clear hrp hrq
        rw [e1, e2]
        go_wp2
        exact HB.out
      · have e1 : rcode p = 0 := by unfold rcode; rw [hrp]; rfl
        have e2 : rcode q = 0 := by unfold rcode; rw [hrq]; rfl
        have HB := Lib.hid (HQ1.out p.data.toList q.data.toList (HP.out.2 hrp hrq) u v hrp hrq U.out V.out _ K3.out)
        clear hrp hrq
        rw [e1, e2]
        go_wp2
        exact HB.out
  · have K1 := Lib.hid hk
    have HB : Hid (pok t = false) := by
      have := sp_none t.data.toList [] (no_space hn)
      exact pok_len (by rw [this]; simp)
    have HS : Hid (t.size ≤ 281474976710656) := by
      have := HT.out
      exact Lib.hid (by omega)
    clear hk HC hn
    go_wp2_with fail
    refine (HI.out t HS.out _ K1.out).mono ?_
    rintro _ w2 ⟨u, ⟨rfl, hu⟩, hk⟩
    have K2 := Lib.hid (Kept.trans K1.out hk)
    clear hu hk K1
    go_wp2_with fail
    refine (HI.out _ (by decide) _ K2.out).mono ?_
    rintro _ w3 ⟨v, ⟨rfl, hv⟩, hk⟩
    have K3 := Lib.hid (Kept.trans K2.out hk)
    clear hv hk K2
    go_wp2
    exact HQ2.out HB.out _ K3.out
end Go.Proofs.YtononoebghbajaaDoor
