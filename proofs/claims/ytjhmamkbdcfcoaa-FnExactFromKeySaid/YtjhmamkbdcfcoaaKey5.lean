/-
  FromKey: an [8]byte that comes in, opened.
-/
import Derived.Test.YtjhmamkbdcfcoaaKey4
import Derived.OpenShut
set_option linter.unusedSimpArgs false
set_option linter.unusedVariables false
namespace Go.Proofs.Ytjhmamkbdcfcoaa
open Go.RowKit Go.ChangeShapes Go.WideShapes Go.ChangeAt
section
variable {H : Type} {enc : TypeId × Value → H} {P : Program}
theorem byte1 {w : World} {base : Nat} {sp : Nat → Bool} {held : Bool} {e : TypeId} {n : Nat} {v : Value} {x : DataW H × List MemPlace} (he : P.underlying e = some (.int .u8)) (h : DataW.trod enc P w base sp held n e [v] = some x) : ∃ b : UInt8, v = .int .u8 (b.toNat : Int) := by
  obtain ⟨m, h1, _, h3⟩ := DataW.trod_int he h
  have hv : v = .int .u8 m := by simpa using h1
  have hb : 0 ≤ m ∧ m < 256 := by
    simp [Lit.wf, IntKind.min, IntKind.max, IntKind.signed, IntKind.bits] at h3
    omega
  refine ⟨UInt8.ofNat m.toNat, ?_⟩
  rw [hv, UInt8.toNat_ofNat', Nat.mod_eq_of_lt (by omega)]
  congr 1
  omega
theorem open_k8 {w : World} {t e : TypeId} {v : Value} {d : DataW H} {ps : List MemPlace} (ht : P.underlying t = some (.array 8 e)) (he : P.underlying e = some (.int .u8)) (hc : P.cellsOf e = 1) (hc8 : P.cellsOf t = 8)
    (hd : DataW.Trod enc P w 0 (fun _ => true) true t v d ps) :
    ∃ b0 b1 b2 b3 b4 b5 b6 b7 : UInt8, v = k8 b0 b1 b2 b3 b4 b5 b6 b7 := by
  obtain ⟨fuel, hf⟩ := hd
  obtain ⟨xs, m, _, _, hlen, hn, hel⟩ := DataW.trod_array ht hf
  rw [hc8] at hlen
  rw [hc] at hel
  have hv : ∃ l : List Value, v = .agg l.toArray ∧ l = v.cells.toList := by
    cases v with
    | agg a => exact ⟨a.toList, by simp, by simp [Value.cells]⟩
    | _ => simp [Value.cells] at hlen
  obtain ⟨l, rfl, hl⟩ := hv
  rw [← hl] at hlen hel
  match l, hlen, xs, hn, hel with
  | [c0, c1, c2, c3, c4, c5, c6, c7], _, [y0, y1, y2, y3, y4, y5, y6, y7], _, hel =>
    obtain ⟨b0, h0⟩ := byte1 he (show DataW.trod enc P w 0 (fun _ => true) true m e [c0] = some y0 from hel 0 (by decide))
    obtain ⟨b1, h1⟩ := byte1 he (show DataW.trod enc P w 0 (fun _ => true) true m e [c1] = some y1 from hel 1 (by decide))
    obtain ⟨b2, h2⟩ := byte1 he (show DataW.trod enc P w 0 (fun _ => true) true m e [c2] = some y2 from hel 2 (by decide))
    obtain ⟨b3, h3⟩ := byte1 he (show DataW.trod enc P w 0 (fun _ => true) true m e [c3] = some y3 from hel 3 (by decide))
    obtain ⟨b4, h4⟩ := byte1 he (show DataW.trod enc P w 0 (fun _ => true) true m e [c4] = some y4 from hel 4 (by decide))
    obtain ⟨b5, h5⟩ := byte1 he (show DataW.trod enc P w 0 (fun _ => true) true m e [c5] = some y5 from hel 5 (by decide))
    obtain ⟨b6, h6⟩ := byte1 he (show DataW.trod enc P w 0 (fun _ => true) true m e [c6] = some y6 from hel 6 (by decide))
    obtain ⟨b7, h7⟩ := byte1 he (show DataW.trod enc P w 0 (fun _ => true) true m e [c7] = some y7 from hel 7 (by decide))
    exact ⟨b0, b1, b2, b3, b4, b5, b6, b7, by subst h0 h1 h2 h3 h4 h5 h6 h7; rfl⟩
end
end Go.Proofs.Ytjhmamkbdcfcoaa
