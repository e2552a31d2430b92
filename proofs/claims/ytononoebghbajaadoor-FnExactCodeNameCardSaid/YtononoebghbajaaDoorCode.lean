/-
  The law CodeName: for every input the call returns true; the variable codeNames is laid as the program's text lays it (the card ties it); no other condition.
-/
import Derived.Test.YtononoebghbajaaDoorRows
import Derived.Test.YtononoebghbajaaDoorCards
import Derived.Test.YtononoebghbajaaDoorTie
import Derived.Test.YtononoebghbajaaDoorFrame
import Derived.Test.YtononoebghbajaaDoorReal2
import Derived.WalkKit
import Derived.WalkSpells
import Derived.WalkLawsBesides
import Derived.ProofKit
import Derived.LaidMore
import Derived.OpenShut
import Derived.ChangeVars
import Derived.SevenTiedAt
import Derived.Lib.Hide
import Derived.Stop.Joined
set_option linter.unusedSimpArgs false
set_option linter.unusedVariables false
namespace Go.Proofs.YtononoebghbajaaDoor.codeName
open Go.ChangeShapes Go.WideShapes Go.ChangeAt Go.WideMaps Go.WideElems Go.RowKit

def s0 : ByteArray := ⟨#[111, 107]⟩
def s1 : ByteArray := ⟨#[105, 110, 118, 97, 108, 105, 100]⟩
def s2 : ByteArray := ⟨#[114, 97, 110, 103, 101]⟩
def s3 : ByteArray := ⟨#[108, 105, 109, 105, 116]⟩
def s4 : ByteArray := ⟨#[115, 116, 97, 116, 101]⟩
def s5 : ByteArray := ⟨#[115, 121, 110, 116, 97, 120]⟩
def s6 : ByteArray := ⟨#[110, 111, 116, 102, 111, 117, 110, 100]⟩
def s7 : ByteArray := ⟨#[98, 117, 100, 103, 101, 116]⟩
def s8 : ByteArray := ⟨#[112, 114, 111, 111, 102]⟩
def cells9 : Array Value := #[.string s0, .string s1, .string s2, .string s3, .string s4, .string s5, .string s6, .string s7, .string s8]
/-- the variable's name, as the given row has it -/
def gn : String := Rows.fnExactCodeNameSpec.vars.headD ""
theorem own : ownKnob Tryd.prog.godebug = none := by kernel_rfl
theorem gName : Tryd.prog.globalNamed gn = some 0 := by kernel_rfl
theorem gType : (Tryd.prog.globals[0]?).map (·.type) = some 55 := by kernel_rfl
def laid1 : List (String × DataW Unit) := [(gn, Rows.laid_loop_example_g01171_impl_codeNames)]

theorem str_of {H : Type} {enc : TypeId × Value → H} {w : World} {base : Nat} {sp : Nat → Bool} {held : Bool} {fuel : Nat} {c : Value} {y : DataW H × List MemPlace}
    (h : DataW.trod enc Tryd.prog w base sp held fuel 9 [c] = some y) : ∃ s : ByteArray, c = .string s ∧ y = (.lit (.string s.data.toList), []) := by
  obtain ⟨s, h1, h2, _⟩ := DataW.trod_string Tryd.underlying9 h
  exact ⟨s, by simpa using h1, h2⟩
theorem bytes_of {s : ByteArray} {l : List UInt8} (h : s.data.toList = l) : s = ⟨l.toArray⟩ := by
  obtain ⟨a⟩ := s
  simp only at h
  subst h
  simp
theorem cells_of {H : Type} {enc : TypeId × Value → H} {W : World} {sp : Nat → Bool} {held : Bool} {fuel : Nat} {cs : Array Value} {p : List MemPlace}
    (hd : DataW.trod enc Tryd.prog W 0 sp held fuel 55 cs.toList = some (Rows.laid_loop_example_g01171_impl_codeNames, p)) : cs = cells9 := by
  obtain ⟨xs, m1, hx1, hx, hlen, hn3, hel⟩ := DataW.trod_array Tryd.underlying55 hd
  have e1 : Tryd.prog.cellsOf 9 = 1 := by kernel_rfl
  have e9 : Tryd.prog.cellsOf 55 = 9 := by kernel_rfl
  rw [e9] at hlen
  rw [e1] at hel
  obtain ⟨l⟩ := cs
  simp only at hlen hel hd
  match l, hlen, xs, hn3, hel, hx with
  | [c0, c1, c2, c3, c4, c5, c6, c7, c8], _, [y0, y1, y2, y3, y4, y5, y6, y7, y8], _, hel, hx =>
    obtain ⟨t0, rfl, rfl⟩ := str_of (show DataW.trod enc Tryd.prog W 0 sp held m1 9 [c0] = some y0 from hel 0 (by decide))
    obtain ⟨t1, rfl, rfl⟩ := str_of (show DataW.trod enc Tryd.prog W 0 sp held m1 9 [c1] = some y1 from hel 1 (by decide))
    obtain ⟨t2, rfl, rfl⟩ := str_of (show DataW.trod enc Tryd.prog W 0 sp held m1 9 [c2] = some y2 from hel 2 (by decide))
    obtain ⟨t3, rfl, rfl⟩ := str_of (show DataW.trod enc Tryd.prog W 0 sp held m1 9 [c3] = some y3 from hel 3 (by decide))
    obtain ⟨t4, rfl, rfl⟩ := str_of (show DataW.trod enc Tryd.prog W 0 sp held m1 9 [c4] = some y4 from hel 4 (by decide))
    obtain ⟨t5, rfl, rfl⟩ := str_of (show DataW.trod enc Tryd.prog W 0 sp held m1 9 [c5] = some y5 from hel 5 (by decide))
    obtain ⟨t6, rfl, rfl⟩ := str_of (show DataW.trod enc Tryd.prog W 0 sp held m1 9 [c6] = some y6 from hel 6 (by decide))
    obtain ⟨t7, rfl, rfl⟩ := str_of (show DataW.trod enc Tryd.prog W 0 sp held m1 9 [c7] = some y7 from hel 7 (by decide))
    obtain ⟨t8, rfl, rfl⟩ := str_of (show DataW.trod enc Tryd.prog W 0 sp held m1 9 [c8] = some y8 from hel 8 (by decide))
    simp only [Rows.laid_loop_example_g01171_impl_codeNames, List.map_cons, List.map_nil, Prod.mk.injEq, DataW.agg.injEq, List.cons.injEq, DataW.lit.injEq, Lit.string.injEq] at hx
    obtain ⟨⟨q0, q1, q2, q3, q4, q5, q6, q7, q8, _⟩, _⟩ := hx
    have r0 := bytes_of q0.symm
    have r1 := bytes_of q1.symm
    have r2 := bytes_of q2.symm
    have r3 := bytes_of q3.symm
    have r4 := bytes_of q4.symm
    have r5 := bytes_of q5.symm
    have r6 := bytes_of q6.symm
    have r7 := bytes_of q7.symm
    have r8 := bytes_of q8.symm
    subst r0 r1 r2 r3 r4 r5 r6 r7 r8
    rfl

theorem of_laid {W : World} (h : laidMetH Tryd.prog laid1 W) : W.var? Tryd.prog gn = some cells9 := by
  rw [MakeChecks.laidMetH_plain _ _ _ (by kernel_rfl)] at h
  obtain ⟨ps, ⟨g0, t0, cs0, f0, p0, q0, hg0, ht0, hv0, hd0, _, _⟩, _, _⟩ := h
  obtain rfl := Option.some.inj (gName.symm.trans hg0)
  obtain rfl := Option.some.inj (gType.symm.trans ht0)
  rw [hv0, cells_of hd0]

def nameOf (c : Int) : ByteArray := if c = 0 then s0 else if c = 1 then s1 else if c = 2 then s2 else if c = 3 then s3 else if c = 4 then s4 else if c = 5 then s5 else if c = 6 then s6 else if c = 7 then s7 else if c = 8 then s8 else ⟨#[]⟩

/-- the program's side, the cell of a code known -/
theorem codeIn (c : Int) (k : Nat) (s : ByteArray) (hk : c = k) (h9 : k < 9) (w : World) (hc : w.cell? ⟨0, k, none⟩ = some (.string s)) :
    Calls Tryd.prog 16 #[.int .i64 c] w fun e w' => e = .returned (.string s) ∧ w = w' := by
  subst hk
  go_enter Tryd.func16, Tryd.ntmps16
  go_wp2
  go_ret
  exact ⟨rfl, rfl⟩
theorem codeOut (c : Int) (h : c < 0 ∨ 8 < c) (w : World) :
    Calls Tryd.prog 16 #[.int .i64 c] w fun e w' => e = .returned (.string ⟨#[]⟩) ∧ w = w' := by
  by_cases h0 : c < 0
  · go_enter Tryd.func16, Tryd.ntmps16
    go_wp2
    go_ret
    exact ⟨rfl, rfl⟩
  · have h8 : 9 ≤ c := by omega
    have h0' : decide (c < 0) = false := by simpa using h0
    go_enter Tryd.func16, Tryd.ntmps16
    go_wp2
    go_ret
    exact ⟨rfl, rfl⟩
theorem specOut (c : Int) (h : c < 0 ∨ 8 < c) (w : World) :
    Calls Tryd.prog 15 #[.int .i64 c] w fun e w' => e = .returned (.string ⟨#[]⟩) ∧ Kept w w' := by
  by_cases h0 : c < 0
  · have h0' : decide (0 ≤ c) = false := by simpa using h0
    go_enter Tryd.func15, Tryd.ntmps15
    go_wp2
    go_ret
    exact ⟨rfl, (Kept.refl w).alloc _⟩
  · have h8 : decide (c ≤ 8) = false := by rw [decide_eq_false_iff_not]; omega
    have h0' : 0 ≤ c := by omega
    go_enter Tryd.func15, Tryd.ntmps15
    go_wp2
    go_ret
    exact ⟨rfl, (Kept.refl w).alloc _⟩
theorem specIn0 (w : World) :
    Calls Tryd.prog 15 #[.int .i64 0] w fun e w' => e = .returned (.string s0) ∧ Kept w w' := by
  go_enter Tryd.func15, Tryd.ntmps15
  go_wp2
  go_ret
  exact ⟨rfl, (Kept.refl w).alloc _⟩
theorem specIn1 (w : World) :
    Calls Tryd.prog 15 #[.int .i64 1] w fun e w' => e = .returned (.string s1) ∧ Kept w w' := by
  go_enter Tryd.func15, Tryd.ntmps15
  go_wp2
  go_ret
  exact ⟨rfl, (Kept.refl w).alloc _⟩
theorem specIn2 (w : World) :
    Calls Tryd.prog 15 #[.int .i64 2] w fun e w' => e = .returned (.string s2) ∧ Kept w w' := by
  go_enter Tryd.func15, Tryd.ntmps15
  go_wp2
  go_ret
  exact ⟨rfl, (Kept.refl w).alloc _⟩
theorem specIn3 (w : World) :
    Calls Tryd.prog 15 #[.int .i64 3] w fun e w' => e = .returned (.string s3) ∧ Kept w w' := by
  go_enter Tryd.func15, Tryd.ntmps15
  go_wp2
  go_ret
  exact ⟨rfl, (Kept.refl w).alloc _⟩
theorem specIn4 (w : World) :
    Calls Tryd.prog 15 #[.int .i64 4] w fun e w' => e = .returned (.string s4) ∧ Kept w w' := by
  go_enter Tryd.func15, Tryd.ntmps15
  go_wp2
  go_ret
  exact ⟨rfl, (Kept.refl w).alloc _⟩
theorem specIn5 (w : World) :
    Calls Tryd.prog 15 #[.int .i64 5] w fun e w' => e = .returned (.string s5) ∧ Kept w w' := by
  go_enter Tryd.func15, Tryd.ntmps15
  go_wp2
  go_ret
  exact ⟨rfl, (Kept.refl w).alloc _⟩
theorem specIn6 (w : World) :
    Calls Tryd.prog 15 #[.int .i64 6] w fun e w' => e = .returned (.string s6) ∧ Kept w w' := by
  go_enter Tryd.func15, Tryd.ntmps15
  go_wp2
  go_ret
  exact ⟨rfl, (Kept.refl w).alloc _⟩
theorem specIn7 (w : World) :
    Calls Tryd.prog 15 #[.int .i64 7] w fun e w' => e = .returned (.string s7) ∧ Kept w w' := by
  go_enter Tryd.func15, Tryd.ntmps15
  go_wp2
  go_ret
  exact ⟨rfl, (Kept.refl w).alloc _⟩
theorem specIn8 (w : World) :
    Calls Tryd.prog 15 #[.int .i64 8] w fun e w' => e = .returned (.string s8) ∧ Kept w w' := by
  go_enter Tryd.func15, Tryd.ntmps15
  go_wp2
  go_ret
  exact ⟨rfl, (Kept.refl w).alloc _⟩

/-- what both sides answer -/
theorem lawIn (c : Int) (s : ByteArray) (w : World) (h1 : ∀ w, Calls Tryd.prog 15 #[.int .i64 c] w fun e w' => e = .returned (.string s) ∧ Kept w w')
    (h2 : ∀ w', Kept w w' → Calls Tryd.prog 16 #[.int .i64 c] w' fun e w'' => e = .returned (.string s) ∧ w' = w'') :
    Calls Tryd.prog 6 #[.int .i64 c] w fun e w' => e = .returned (.bool true) ∧ Kept w w' := by
  have H1 := Lib.hid h1
  have H2 := Lib.hid h2
  clear h1 h2
  go_enter Tryd.func6, Tryd.ntmps6
  go_wp2_with fail
  refine (H1.out _).mono ?_
  rintro e w1 ⟨rfl, hk⟩
  have K := Lib.hid hk; clear hk
  go_wp2_with fail
  refine (H2.out _ K.out).mono ?_
  rintro e w2 ⟨rfl, rfl⟩
  go_wp2
  go_ret
  exact ⟨rfl, K.out⟩
theorem cell_at {W : World} (h : W.var? Tryd.prog gn = some cells9) (k : Nat) (s : ByteArray) (hs : cells9[k]? = some (.string s)) {w' : World} (hk : Kept W w') : w'.cell? ⟨0, k, none⟩ = some (.string s) :=
  hk.cell (by rw [World.var?_cell gName h k]; exact hs)
theorem law (c : Int) (w : World) (h : w.var? Tryd.prog gn = some cells9) :
    Calls Tryd.prog 6 #[.int .i64 c] w fun e w' => e = .returned (.bool true) ∧ Kept w w' := by
  by_cases h0 : c < 0 ∨ 8 < c
  · exact lawIn c _ w (specOut c h0) (fun w' _ => codeOut c h0 w')
  · have hc : c = 0 ∨ c = 1 ∨ c = 2 ∨ c = 3 ∨ c = 4 ∨ c = 5 ∨ c = 6 ∨ c = 7 ∨ c = 8 := by omega
    rcases hc with rfl | rfl | rfl | rfl | rfl | rfl | rfl | rfl | rfl
    · exact lawIn _ s0 w specIn0 (fun w' hk => codeIn _ 0 s0 rfl (by decide) w' (cell_at h 0 s0 rfl hk))
    · exact lawIn _ s1 w specIn1 (fun w' hk => codeIn _ 1 s1 rfl (by decide) w' (cell_at h 1 s1 rfl hk))
    · exact lawIn _ s2 w specIn2 (fun w' hk => codeIn _ 2 s2 rfl (by decide) w' (cell_at h 2 s2 rfl hk))
    · exact lawIn _ s3 w specIn3 (fun w' hk => codeIn _ 3 s3 rfl (by decide) w' (cell_at h 3 s3 rfl hk))
    · exact lawIn _ s4 w specIn4 (fun w' hk => codeIn _ 4 s4 rfl (by decide) w' (cell_at h 4 s4 rfl hk))
    · exact lawIn _ s5 w specIn5 (fun w' hk => codeIn _ 5 s5 rfl (by decide) w' (cell_at h 5 s5 rfl hk))
    · exact lawIn _ s6 w specIn6 (fun w' hk => codeIn _ 6 s6 rfl (by decide) w' (cell_at h 6 s6 rfl hk))
    · exact lawIn _ s7 w specIn7 (fun w' hk => codeIn _ 7 s7 rfl (by decide) w' (cell_at h 7 s7 rfl hk))
    · exact lawIn _ s8 w specIn8 (fun w' hk => codeIn _ 8 s8 rfl (by decide) w' (cell_at h 8 s8 rfl hk))

abbrev tableH {H : Type} : DataW H := Rows.laid_loop_example_g01171_impl_codeNames
theorem reads_table {H : Type} (enc : TypeId × Value → H) (W : World) (sp : Nat → Bool) : DataW.trod enc Tryd.prog W 0 sp true 3 55 cells9.toList = some (tableH, []) := by kernel_rfl
theorem door_met (os : Os) (args : Array Value) : laidMetH Tryd.prog laid1 ((World.doorLaid Tryd.prog 400 os).forCall (fun _ _ => 0) ⟨#[], args, []⟩).memory :=
  laidMetH_of_parts3 (fuel := 8) (laidMet_of_run' 8 (by kernel_rfl) (by kernel_rfl)) (by kernel_rfl) (by kernel_rfl)
theorem var_kept {W W' : World} (h : W.var? Tryd.prog gn = some cells9) (hk : Kept W W') : W'.var? Tryd.prog gn = some cells9 := by
  unfold World.var? at h ⊢
  rw [gName] at h ⊢
  simp only [Option.bind_some] at h ⊢
  have hg : 0 < W.heap.size := by
    cases hh : W.heap[0]? with
    | none => rw [hh] at h; cases h
    | some o => exact (Array.getElem?_eq_some_iff.1 hh).1
  rw [hk.block _ hg]; exact h

set_option maxRecDepth 100000 in
theorem lifted (os : Os) (started : os.Started) (H : Type) (enc : TypeId × Value → H) :
    ReturnsInHanded {} Tryd.checked os 6 .any (fun w args => (Rows.fnExactCodeNameSpec.pre enc Tryd.prog Tryd.f6 [] false w args ∧ laidMetH Tryd.prog laid1 w) ∧ sizedMet enc Tryd.prog Tryd.f6 (OpenSpec.ofChange Rows.fnExactCodeNameSpec) false w args)
      (Rows.fnExactCodeNameSpec.post enc Tryd.prog Tryd.f6 false true false false) := by
  refine returnsInHanded_of_change_and (C := Tryd.checked) (X := fun w _ => laidMetH Tryd.prog laid1 w) (fun _ _ _ hh h => h.of_heap hh) own started (by kernel_rfl) Tryd.func6
    (ChangeSpec.witness_shaped (enc := enc) (C := Tryd.checked) (os := os) (X := fun w _ => laidMetH Tryd.prog laid1 w) false (World.doorLaid Tryd.prog 400 os) #[.int .i64 0] 8 rfl (World.shaped_of_RefB (by kernel_rfl) (by kernel_rfl)) (by kernel_rfl) (by kernel_rfl) (by kernel_rfl) (door_met os _)) ?_
  intro W base args ds gs before hval0 hW _ _ hL _
  have hval : ∀ (j : Nat) t v, Tryd.f6.params[j]? = some t → args[j]? = some v → Value.okWide Tryd.prog W .any base t v := hval0
  have hW' := hW
  obtain ⟨p, q, hA0, hV0, rfl, hfz, hnd⟩ := hW
  have hA : DataW.TrodAll enc Tryd.prog W 0 (fun _ => true) true Tryd.f6.params.toList args.toList ds p := hA0
  have hV : DataW.TrodVars enc Tryd.prog W (fun _ => true) [gn] gs q := hV0
  rw [Tryd.params6] at hA hval
  obtain ⟨v0, d0, rfl, rfl, h0⟩ := trodAll_one hA
  obtain ⟨c, rfl, rfl, rfl, wc⟩ := open_int Tryd.underlying2 (hval 0 2 v0 rfl rfl) h0
  obtain ⟨g, t, cs, fuel, d, p', rfl, hg, ht, hvar, hd, rfl⟩ := trodVars_one hV
  obtain rfl := Option.some.inj (gName.symm.trans hg)
  obtain rfl := Option.some.inj (gType.symm.trans ht)
  have hc9 := of_laid hL
  obtain rfl : cs = cells9 := Option.some.inj (hvar.symm.trans hc9)
  obtain ⟨rfl, rfl⟩ := DataW.Trod.unique (v := .agg cells9) ⟨fuel, hd⟩ ⟨3, reads_table enc W _⟩
  clear hA0 hV0 hval0
  refine (law c W hc9).mono fun e W' ⟨he, hk⟩ => ?_
  subst he
  have hvars : ∀ sp : Nat → Bool, DataW.TrodVars enc Tryd.prog W' sp [gn] [tableH] (MemPlace.row ⟨0, 0, none⟩ cells9.size ++ [] ++ []) := fun sp =>
    ⟨0, 55, cells9, 3, [], [], hg, ht, var_kept hc9 hk, reads_table enc W' sp, rfl, rfl⟩
  exact ⟨_, rfl, post_of_below (pa := []) (pv := MemPlace.row ⟨0, 0, none⟩ cells9.size ++ [] ++ []) hW' (fun _ _ _ => trodAll_mk1 (shut_bool Tryd.underlying4 _)) (fun sp _ => trodAll_mk1 (shut_int Tryd.underlying2 wc)) (fun sp _ => hvars sp) (by simp)
    hk (ok_one (by kernel_rfl) rfl (okWide_bool_mk Tryd.underlying4 _))⟩

theorem row_holds : Rows.FnExactCodeNameSaid :=
  OpenClaim.holds_of_wide 6 Tryd.f6 rfl rfl rfl rfl rfl rfl rfl ⟨rfl, rfl, rfl, rfl, rfl⟩ rfl rfl rfl rfl rfl (by kernel_rfl) Tryd.func6 (by kernel_rfl)
    (of_decide_eq_true (by kernel_rfl)) (by unfold Func.isWrapper; first | (rw [if_pos (by decide +kernel)]; kernel_rfl) | (rw [if_neg (by decide +kernel)]; exact ⟨rfl, rfl⟩))
    (fun os started H enc _ => lifted os started H enc)

theorem proved : Rows.FnExactCodeNameCardSaid :=
  Claim7.holds_tied_plain_at .later [] [.data] true (true, "8ec89fe8e5d3a6da9896b3aa5ff0364ad7b25c6e4baf702ab2d082ecd2907a87") true
    row_holds (fun _ h => by cases h) (by kernel_rfl) (fun _ h => by cases h) fnExactCodeName_row_tie rfl ⟨rfl, rfl⟩ (by kernel_rfl) rfl
    (fun f fn hf hfn => by
      obtain rfl : f = 6 := Option.some.inj ((show Tryd.prog.funcNamed Rows.fnExactCodeNameRow.func = some 6 by kernel_rfl).symm.trans hf) |>.symm
      obtain rfl : fn = Tryd.f6 := (Option.some.inj (Tryd.func6.symm.trans hfn)).symm
      exact ⟨by kernel_rfl, fun j t ht => by
        rw [Tryd.params6] at ht
        have h3 : t = 2 := by
          rcases j with _ | j
          · simpa using ht.symm
          · simp at ht
        subst h3
        exact (show Tryd.prog.wantsStandIn 2 = false by kernel_rfl)⟩)
    (by kernel_rfl)
#print axioms proved
end Go.Proofs.YtononoebghbajaaDoor.codeName
