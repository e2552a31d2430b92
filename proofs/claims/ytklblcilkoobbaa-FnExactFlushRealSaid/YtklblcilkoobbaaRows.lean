/-
  No cell of these rows narrows 'for every input' (looked for: loops, veiled, ifaces, maps, wideKeys, modest, calm, conditions, laid).
  DERIVED. THE GIVEN ROWS OF THIS SEAT. 12 by the template 'for every input the law returns true; each argument reads behind the call as it read before'; 0 by the template 'total and deterministic' (their statements: YtklblcilkoobbaaTotals.lean).
  GIVEN WITH THE SEED: the statements are not yours to turn. If you find one false, say at which input.
  Laid BY PROGRAM, IN A SANDBOX (cutbox-rows.mjs): the forced cells as the released guide's own fill.sh prints them over the translation b93423aa4e23ee21… (all of the seat's roots in one cut). By AI agents, Wed Nov 11 2026. No macro, syntax, notation, axiom, sorry.
-/
import Derived.Test.YtklblcilkoobbaaChecked
import GoSem.Claim
import GoSem.ClaimJoined
import GoSem.ClaimMapViews
import Derived.JoinedTies
import Derived.KernelRfl
namespace Go.Proofs.Ytklblcilkoobbaa
/- THE CELL 'sum', in the pinned program and in every row, IS THE sha256 OF THE DUMP (.gsa) THAT YtklblcilkoobbaaProg.lean LOADS. Nothing in Lean hashes anything: it is a label: what it is worth is what the hold of that sum in a sandbox is worth. -/
noncomputable def Try.pinned : Pinned := { name := "ytklblcilkoobbaa", sum := "b93423aa4e23ee215e2574a7e2faa432060805808ba287fbff72f4237ac272fe", checked := Try.checked }
namespace Rows
def none {H : Type} : Left H := { results := [], args := [] }

/-- 'laws.FnExactConstants': WHATEVER THE INPUT: true; the input reads as it did. -/
def fnExactConstantsSpec : ChangeSpec := { name := "fnExactConstants", fn := fun _ => fun
  | [] => { results := [.lit (.bool true)], args := [] }
  | _ => none }
def fnExactConstantsRow : OpenClaim := { program := "ytklblcilkoobbaa", sum := "b93423aa4e23ee215e2574a7e2faa432060805808ba287fbff72f4237ac272fe", func := "loop.example/g01171/laws.FnExactConstants", spec := "fnExactConstants", apart := false }
def FnExactConstantsSaid : Prop := fnExactConstantsRow.holds Try.pinned (OpenSpec.ofChange fnExactConstantsSpec)

/-- ITS FALSE NEIGHBOUR: 'it returns false'. Refute it at one input. -/
def fnExactConstantsWrong : ChangeSpec := { name := "fnExactConstants", fn := fun _ => fun
  | [] => { results := [.lit (.bool false)], args := [] }
  | _ => none }
def FnExactConstantsWrongFalsely : Prop := fnExactConstantsRow.holds Try.pinned (OpenSpec.ofChange fnExactConstantsWrong)

/-- 'laws.FnExactSameReal': WHATEVER THE INPUT: true; the input reads as it did. -/
def fnExactSameRealSpec : ChangeSpec := { name := "fnExactSameReal", fn := fun _ => fun
  | [d1, d2] => { results := [.lit (.bool true)], args := [d1, d2] }
  | _ => none }
def fnExactSameRealRow : OpenClaim := { program := "ytklblcilkoobbaa", sum := "b93423aa4e23ee215e2574a7e2faa432060805808ba287fbff72f4237ac272fe", func := "loop.example/g01171/laws.FnExactSameReal", spec := "fnExactSameReal", inPlace := ["math.Float32bits"], apart := false }
def FnExactSameRealSaid : Prop := fnExactSameRealRow.holds Try.pinned (OpenSpec.ofChange fnExactSameRealSpec)

/-- ITS FALSE NEIGHBOUR: 'it returns false'. Refute it at one input. -/
def fnExactSameRealWrong : ChangeSpec := { name := "fnExactSameReal", fn := fun _ => fun
  | [d1, d2] => { results := [.lit (.bool false)], args := [d1, d2] }
  | _ => none }
def FnExactSameRealWrongFalsely : Prop := fnExactSameRealRow.holds Try.pinned (OpenSpec.ofChange fnExactSameRealWrong)

/-- 'laws.FnExactKindOf': WHATEVER THE INPUT: true; the input reads as it did. -/
def fnExactKindOfSpec : ChangeSpec := { name := "fnExactKindOf", fn := fun _ => fun
  | [d] => { results := [.lit (.bool true)], args := [d] }
  | _ => none }
def fnExactKindOfRow : OpenClaim := { program := "ytklblcilkoobbaa", sum := "b93423aa4e23ee215e2574a7e2faa432060805808ba287fbff72f4237ac272fe", func := "loop.example/g01171/laws.FnExactKindOf", spec := "fnExactKindOf", inPlace := ["math.Float32bits"], apart := false }
def FnExactKindOfSaid : Prop := fnExactKindOfRow.holds Try.pinned (OpenSpec.ofChange fnExactKindOfSpec)

/-- ITS FALSE NEIGHBOUR: 'it returns false'. Refute it at one input. -/
def fnExactKindOfWrong : ChangeSpec := { name := "fnExactKindOf", fn := fun _ => fun
  | [d] => { results := [.lit (.bool false)], args := [d] }
  | _ => none }
def FnExactKindOfWrongFalsely : Prop := fnExactKindOfRow.holds Try.pinned (OpenSpec.ofChange fnExactKindOfWrong)

/-- 'laws.FnExactOrderKey': WHATEVER THE INPUT: true; the input reads as it did. -/
def fnExactOrderKeySpec : ChangeSpec := { name := "fnExactOrderKey", fn := fun _ => fun
  | [d] => { results := [.lit (.bool true)], args := [d] }
  | _ => none }
def fnExactOrderKeyRow : OpenClaim := { program := "ytklblcilkoobbaa", sum := "b93423aa4e23ee215e2574a7e2faa432060805808ba287fbff72f4237ac272fe", func := "loop.example/g01171/laws.FnExactOrderKey", spec := "fnExactOrderKey", inPlace := ["math.Float32bits"], apart := false }
def FnExactOrderKeySaid : Prop := fnExactOrderKeyRow.holds Try.pinned (OpenSpec.ofChange fnExactOrderKeySpec)

/-- ITS FALSE NEIGHBOUR: 'it returns false'. Refute it at one input. -/
def fnExactOrderKeyWrong : ChangeSpec := { name := "fnExactOrderKey", fn := fun _ => fun
  | [d] => { results := [.lit (.bool false)], args := [d] }
  | _ => none }
def FnExactOrderKeyWrongFalsely : Prop := fnExactOrderKeyRow.holds Try.pinned (OpenSpec.ofChange fnExactOrderKeyWrong)

/-- 'laws.FnExactFromOrderKey': WHATEVER THE INPUT: true; the input reads as it did. -/
def fnExactFromOrderKeySpec : ChangeSpec := { name := "fnExactFromOrderKey", fn := fun _ => fun
  | [d] => { results := [.lit (.bool true)], args := [d] }
  | _ => none }
def fnExactFromOrderKeyRow : OpenClaim := { program := "ytklblcilkoobbaa", sum := "b93423aa4e23ee215e2574a7e2faa432060805808ba287fbff72f4237ac272fe", func := "loop.example/g01171/laws.FnExactFromOrderKey", spec := "fnExactFromOrderKey", inPlace := ["math.Float32frombits"], apart := false }
def FnExactFromOrderKeySaid : Prop := fnExactFromOrderKeyRow.holds Try.pinned (OpenSpec.ofChange fnExactFromOrderKeySpec)

/-- ITS FALSE NEIGHBOUR: 'it returns false'. Refute it at one input. -/
def fnExactFromOrderKeyWrong : ChangeSpec := { name := "fnExactFromOrderKey", fn := fun _ => fun
  | [d] => { results := [.lit (.bool false)], args := [d] }
  | _ => none }
def FnExactFromOrderKeyWrongFalsely : Prop := fnExactFromOrderKeyRow.holds Try.pinned (OpenSpec.ofChange fnExactFromOrderKeyWrong)

/-- 'laws.FnExactSplitReal': WHATEVER THE INPUT: true; the input reads as it did. -/
def fnExactSplitRealSpec : ChangeSpec := { name := "fnExactSplitReal", fn := fun _ => fun
  | [d] => { results := [.lit (.bool true)], args := [d] }
  | _ => none }
def fnExactSplitRealRow : OpenClaim := { program := "ytklblcilkoobbaa", sum := "b93423aa4e23ee215e2574a7e2faa432060805808ba287fbff72f4237ac272fe", func := "loop.example/g01171/laws.FnExactSplitReal", spec := "fnExactSplitReal", inPlace := ["math.Float32bits"], apart := false }
def FnExactSplitRealSaid : Prop := fnExactSplitRealRow.holds Try.pinned (OpenSpec.ofChange fnExactSplitRealSpec)

/-- ITS FALSE NEIGHBOUR: 'it returns false'. Refute it at one input. -/
def fnExactSplitRealWrong : ChangeSpec := { name := "fnExactSplitReal", fn := fun _ => fun
  | [d] => { results := [.lit (.bool false)], args := [d] }
  | _ => none }
def FnExactSplitRealWrongFalsely : Prop := fnExactSplitRealRow.holds Try.pinned (OpenSpec.ofChange fnExactSplitRealWrong)

/-- 'laws.FnExactNextAbove': WHATEVER THE INPUT: true; the input reads as it did. -/
def fnExactNextAboveSpec : ChangeSpec := { name := "fnExactNextAbove", fn := fun _ => fun
  | [d] => { results := [.lit (.bool true)], args := [d] }
  | _ => none }
def fnExactNextAboveRow : OpenClaim := { program := "ytklblcilkoobbaa", sum := "b93423aa4e23ee215e2574a7e2faa432060805808ba287fbff72f4237ac272fe", func := "loop.example/g01171/laws.FnExactNextAbove", spec := "fnExactNextAbove", inPlace := ["math.Float32bits", "math.Float32frombits"], apart := false }
def FnExactNextAboveSaid : Prop := fnExactNextAboveRow.holds Try.pinned (OpenSpec.ofChange fnExactNextAboveSpec)

/-- ITS FALSE NEIGHBOUR: 'it returns false'. Refute it at one input. -/
def fnExactNextAboveWrong : ChangeSpec := { name := "fnExactNextAbove", fn := fun _ => fun
  | [d] => { results := [.lit (.bool false)], args := [d] }
  | _ => none }
def FnExactNextAboveWrongFalsely : Prop := fnExactNextAboveRow.holds Try.pinned (OpenSpec.ofChange fnExactNextAboveWrong)

/-- 'laws.FnExactFlushReal': WHATEVER THE INPUT: true; the input reads as it did. -/
def fnExactFlushRealSpec : ChangeSpec := { name := "fnExactFlushReal", fn := fun _ => fun
  | [d] => { results := [.lit (.bool true)], args := [d] }
  | _ => none }
def fnExactFlushRealRow : OpenClaim := { program := "ytklblcilkoobbaa", sum := "b93423aa4e23ee215e2574a7e2faa432060805808ba287fbff72f4237ac272fe", func := "loop.example/g01171/laws.FnExactFlushReal", spec := "fnExactFlushReal", inPlace := ["math.Float32bits", "math.Float64bits", "math.Float64frombits"], apart := false }
def FnExactFlushRealSaid : Prop := fnExactFlushRealRow.holds Try.pinned (OpenSpec.ofChange fnExactFlushRealSpec)

/-- ITS FALSE NEIGHBOUR: 'it returns false'. Refute it at one input. -/
def fnExactFlushRealWrong : ChangeSpec := { name := "fnExactFlushReal", fn := fun _ => fun
  | [d] => { results := [.lit (.bool false)], args := [d] }
  | _ => none }
def FnExactFlushRealWrongFalsely : Prop := fnExactFlushRealRow.holds Try.pinned (OpenSpec.ofChange fnExactFlushRealWrong)

/-- 'laws.FnExactNextBelow': WHATEVER THE INPUT: true; the input reads as it did. -/
def fnExactNextBelowSpec : ChangeSpec := { name := "fnExactNextBelow", fn := fun _ => fun
  | [d] => { results := [.lit (.bool true)], args := [d] }
  | _ => none }
def fnExactNextBelowRow : OpenClaim := { program := "ytklblcilkoobbaa", sum := "b93423aa4e23ee215e2574a7e2faa432060805808ba287fbff72f4237ac272fe", func := "loop.example/g01171/laws.FnExactNextBelow", spec := "fnExactNextBelow", inPlace := ["math.Float32bits", "math.Float32frombits"], apart := false }
def FnExactNextBelowSaid : Prop := fnExactNextBelowRow.holds Try.pinned (OpenSpec.ofChange fnExactNextBelowSpec)

/-- ITS FALSE NEIGHBOUR: 'it returns false'. Refute it at one input. -/
def fnExactNextBelowWrong : ChangeSpec := { name := "fnExactNextBelow", fn := fun _ => fun
  | [d] => { results := [.lit (.bool false)], args := [d] }
  | _ => none }
def FnExactNextBelowWrongFalsely : Prop := fnExactNextBelowRow.holds Try.pinned (OpenSpec.ofChange fnExactNextBelowWrong)

/-- 'laws.FnExactRoundDown': WHATEVER THE INPUT: true; the input reads as it did. -/
def fnExactRoundDownSpec : ChangeSpec := { name := "fnExactRoundDown", fn := fun _ => fun
  | [d] => { results := [.lit (.bool true)], args := [d] }
  | _ => none }
def fnExactRoundDownRow : OpenClaim := { program := "ytklblcilkoobbaa", sum := "b93423aa4e23ee215e2574a7e2faa432060805808ba287fbff72f4237ac272fe", func := "loop.example/g01171/laws.FnExactRoundDown", spec := "fnExactRoundDown", inPlace := ["math.Float32bits", "math.Float32frombits"], apart := false }
def FnExactRoundDownSaid : Prop := fnExactRoundDownRow.holds Try.pinned (OpenSpec.ofChange fnExactRoundDownSpec)

/-- ITS FALSE NEIGHBOUR: 'it returns false'. Refute it at one input. -/
def fnExactRoundDownWrong : ChangeSpec := { name := "fnExactRoundDown", fn := fun _ => fun
  | [d] => { results := [.lit (.bool false)], args := [d] }
  | _ => none }
def FnExactRoundDownWrongFalsely : Prop := fnExactRoundDownRow.holds Try.pinned (OpenSpec.ofChange fnExactRoundDownWrong)

/-- 'laws.FnExactRoundUp': WHATEVER THE INPUT: true; the input reads as it did. -/
def fnExactRoundUpSpec : ChangeSpec := { name := "fnExactRoundUp", fn := fun _ => fun
  | [d] => { results := [.lit (.bool true)], args := [d] }
  | _ => none }
def fnExactRoundUpRow : OpenClaim := { program := "ytklblcilkoobbaa", sum := "b93423aa4e23ee215e2574a7e2faa432060805808ba287fbff72f4237ac272fe", func := "loop.example/g01171/laws.FnExactRoundUp", spec := "fnExactRoundUp", inPlace := ["math.Float32bits", "math.Float32frombits"], apart := false }
def FnExactRoundUpSaid : Prop := fnExactRoundUpRow.holds Try.pinned (OpenSpec.ofChange fnExactRoundUpSpec)

/-- ITS FALSE NEIGHBOUR: 'it returns false'. Refute it at one input. -/
def fnExactRoundUpWrong : ChangeSpec := { name := "fnExactRoundUp", fn := fun _ => fun
  | [d] => { results := [.lit (.bool false)], args := [d] }
  | _ => none }
def FnExactRoundUpWrongFalsely : Prop := fnExactRoundUpRow.holds Try.pinned (OpenSpec.ofChange fnExactRoundUpWrong)

/-- 'laws.FnExactRootOf': WHATEVER THE INPUT: true; the input reads as it did. -/
def fnExactRootOfSpec : ChangeSpec := { name := "fnExactRootOf", fn := fun _ => fun
  | [d] => { results := [.lit (.bool true)], args := [d] }
  | _ => none }
def fnExactRootOfRow : OpenClaim := { program := "ytklblcilkoobbaa", sum := "b93423aa4e23ee215e2574a7e2faa432060805808ba287fbff72f4237ac272fe", func := "loop.example/g01171/laws.FnExactRootOf", spec := "fnExactRootOf", inPlace := ["math.sqrt"], apart := false }
def FnExactRootOfSaid : Prop := fnExactRootOfRow.holds Try.pinned (OpenSpec.ofChange fnExactRootOfSpec)

/-- ITS FALSE NEIGHBOUR: 'it returns false'. Refute it at one input. -/
def fnExactRootOfWrong : ChangeSpec := { name := "fnExactRootOf", fn := fun _ => fun
  | [d] => { results := [.lit (.bool false)], args := [d] }
  | _ => none }
def FnExactRootOfWrongFalsely : Prop := fnExactRootOfRow.holds Try.pinned (OpenSpec.ofChange fnExactRootOfWrong)

/- THE SECOND FORM. 'bulk': how many values and letters a reading holds, each counted each time it is reached (what is shared counts as often as it is met; a slice's spare places count too). A statement '..UptoSaid' is the law's where the arguments, and the package variables that the reading takes, are together of bulk at most 1048576: NARROWER than '..Said'. Prove '..Said' where nothing that the law and all that it calls make is longer than what came in: it says more and counts as full. Else prove '..UptoSaid'. A law counts once. -/
mutual
def uptoBulk {H : Type} : DataW H → Nat
  | .lit (.string bytes) => bytes.length + 1
  | .lit _ => 1
  | .nil => 1
  | .ptr d => uptoBulk d + 1
  | .slice elems spare => uptoBulkAll elems + uptoBulkAll spare + 1
  | .agg parts => uptoBulkAll parts + 1
  | .iface _ d => uptoBulk d + 1
  | .map entries => uptoBulkEntries entries + 1
  | .held _ => 1
def uptoBulkAll {H : Type} : List (DataW H) → Nat
  | [] => 0
  | d :: r => uptoBulk d + uptoBulkAll r
def uptoBulkEntries {H : Type} : List (Lit × DataW H) → Nat
  | [] => 0
  | x :: r => uptoBulkEntry x + uptoBulkEntries r
def uptoBulkEntry {H : Type} : Lit × DataW H → Nat
  | (.string bytes, d) => bytes.length + uptoBulk d + 1
  | (_, d) => uptoBulk d + 1
 end
def uptoSmall : (H : Type) → List (DataW H) → Bool := fun _ ds => decide (uptoBulkAll ds ≤ 1048576)
def OpenSpec.upto (s : _root_.Go.ChangeSpec) : _root_.Go.OpenSpec := { _root_.Go.OpenSpec.ofChange s with cond := some uptoSmall }

/-- 'laws.FnExactConstants', WHERE WHAT IT READS IS OF BULK AT MOST 1048576: true; the input reads as it did. -/
def fnExactConstantsUptoRow : OpenClaim := { program := "ytklblcilkoobbaa", sum := "b93423aa4e23ee215e2574a7e2faa432060805808ba287fbff72f4237ac272fe", func := "loop.example/g01171/laws.FnExactConstants", spec := "fnExactConstants", apart := false, narrowed := true }
def FnExactConstantsUptoSaid : Prop := fnExactConstantsUptoRow.holds Try.pinned (OpenSpec.upto fnExactConstantsSpec)

/-- 'laws.FnExactSameReal', WHERE WHAT IT READS IS OF BULK AT MOST 1048576: true; the input reads as it did. -/
def fnExactSameRealUptoRow : OpenClaim := { program := "ytklblcilkoobbaa", sum := "b93423aa4e23ee215e2574a7e2faa432060805808ba287fbff72f4237ac272fe", func := "loop.example/g01171/laws.FnExactSameReal", spec := "fnExactSameReal", inPlace := ["math.Float32bits"], apart := false, narrowed := true }
def FnExactSameRealUptoSaid : Prop := fnExactSameRealUptoRow.holds Try.pinned (OpenSpec.upto fnExactSameRealSpec)

/-- 'laws.FnExactKindOf', WHERE WHAT IT READS IS OF BULK AT MOST 1048576: true; the input reads as it did. -/
def fnExactKindOfUptoRow : OpenClaim := { program := "ytklblcilkoobbaa", sum := "b93423aa4e23ee215e2574a7e2faa432060805808ba287fbff72f4237ac272fe", func := "loop.example/g01171/laws.FnExactKindOf", spec := "fnExactKindOf", inPlace := ["math.Float32bits"], apart := false, narrowed := true }
def FnExactKindOfUptoSaid : Prop := fnExactKindOfUptoRow.holds Try.pinned (OpenSpec.upto fnExactKindOfSpec)

/-- 'laws.FnExactOrderKey', WHERE WHAT IT READS IS OF BULK AT MOST 1048576: true; the input reads as it did. -/
def fnExactOrderKeyUptoRow : OpenClaim := { program := "ytklblcilkoobbaa", sum := "b93423aa4e23ee215e2574a7e2faa432060805808ba287fbff72f4237ac272fe", func := "loop.example/g01171/laws.FnExactOrderKey", spec := "fnExactOrderKey", inPlace := ["math.Float32bits"], apart := false, narrowed := true }
def FnExactOrderKeyUptoSaid : Prop := fnExactOrderKeyUptoRow.holds Try.pinned (OpenSpec.upto fnExactOrderKeySpec)

/-- 'laws.FnExactFromOrderKey', WHERE WHAT IT READS IS OF BULK AT MOST 1048576: true; the input reads as it did. -/
def fnExactFromOrderKeyUptoRow : OpenClaim := { program := "ytklblcilkoobbaa", sum := "b93423aa4e23ee215e2574a7e2faa432060805808ba287fbff72f4237ac272fe", func := "loop.example/g01171/laws.FnExactFromOrderKey", spec := "fnExactFromOrderKey", inPlace := ["math.Float32frombits"], apart := false, narrowed := true }
def FnExactFromOrderKeyUptoSaid : Prop := fnExactFromOrderKeyUptoRow.holds Try.pinned (OpenSpec.upto fnExactFromOrderKeySpec)

/-- 'laws.FnExactSplitReal', WHERE WHAT IT READS IS OF BULK AT MOST 1048576: true; the input reads as it did. -/
def fnExactSplitRealUptoRow : OpenClaim := { program := "ytklblcilkoobbaa", sum := "b93423aa4e23ee215e2574a7e2faa432060805808ba287fbff72f4237ac272fe", func := "loop.example/g01171/laws.FnExactSplitReal", spec := "fnExactSplitReal", inPlace := ["math.Float32bits"], apart := false, narrowed := true }
def FnExactSplitRealUptoSaid : Prop := fnExactSplitRealUptoRow.holds Try.pinned (OpenSpec.upto fnExactSplitRealSpec)

/-- 'laws.FnExactNextAbove', WHERE WHAT IT READS IS OF BULK AT MOST 1048576: true; the input reads as it did. -/
def fnExactNextAboveUptoRow : OpenClaim := { program := "ytklblcilkoobbaa", sum := "b93423aa4e23ee215e2574a7e2faa432060805808ba287fbff72f4237ac272fe", func := "loop.example/g01171/laws.FnExactNextAbove", spec := "fnExactNextAbove", inPlace := ["math.Float32bits", "math.Float32frombits"], apart := false, narrowed := true }
def FnExactNextAboveUptoSaid : Prop := fnExactNextAboveUptoRow.holds Try.pinned (OpenSpec.upto fnExactNextAboveSpec)

/-- 'laws.FnExactFlushReal', WHERE WHAT IT READS IS OF BULK AT MOST 1048576: true; the input reads as it did. -/
def fnExactFlushRealUptoRow : OpenClaim := { program := "ytklblcilkoobbaa", sum := "b93423aa4e23ee215e2574a7e2faa432060805808ba287fbff72f4237ac272fe", func := "loop.example/g01171/laws.FnExactFlushReal", spec := "fnExactFlushReal", inPlace := ["math.Float32bits", "math.Float64bits", "math.Float64frombits"], apart := false, narrowed := true }
def FnExactFlushRealUptoSaid : Prop := fnExactFlushRealUptoRow.holds Try.pinned (OpenSpec.upto fnExactFlushRealSpec)

/-- 'laws.FnExactNextBelow', WHERE WHAT IT READS IS OF BULK AT MOST 1048576: true; the input reads as it did. -/
def fnExactNextBelowUptoRow : OpenClaim := { program := "ytklblcilkoobbaa", sum := "b93423aa4e23ee215e2574a7e2faa432060805808ba287fbff72f4237ac272fe", func := "loop.example/g01171/laws.FnExactNextBelow", spec := "fnExactNextBelow", inPlace := ["math.Float32bits", "math.Float32frombits"], apart := false, narrowed := true }
def FnExactNextBelowUptoSaid : Prop := fnExactNextBelowUptoRow.holds Try.pinned (OpenSpec.upto fnExactNextBelowSpec)

/-- 'laws.FnExactRoundDown', WHERE WHAT IT READS IS OF BULK AT MOST 1048576: true; the input reads as it did. -/
def fnExactRoundDownUptoRow : OpenClaim := { program := "ytklblcilkoobbaa", sum := "b93423aa4e23ee215e2574a7e2faa432060805808ba287fbff72f4237ac272fe", func := "loop.example/g01171/laws.FnExactRoundDown", spec := "fnExactRoundDown", inPlace := ["math.Float32bits", "math.Float32frombits"], apart := false, narrowed := true }
def FnExactRoundDownUptoSaid : Prop := fnExactRoundDownUptoRow.holds Try.pinned (OpenSpec.upto fnExactRoundDownSpec)

/-- 'laws.FnExactRoundUp', WHERE WHAT IT READS IS OF BULK AT MOST 1048576: true; the input reads as it did. -/
def fnExactRoundUpUptoRow : OpenClaim := { program := "ytklblcilkoobbaa", sum := "b93423aa4e23ee215e2574a7e2faa432060805808ba287fbff72f4237ac272fe", func := "loop.example/g01171/laws.FnExactRoundUp", spec := "fnExactRoundUp", inPlace := ["math.Float32bits", "math.Float32frombits"], apart := false, narrowed := true }
def FnExactRoundUpUptoSaid : Prop := fnExactRoundUpUptoRow.holds Try.pinned (OpenSpec.upto fnExactRoundUpSpec)

/-- 'laws.FnExactRootOf', WHERE WHAT IT READS IS OF BULK AT MOST 1048576: true; the input reads as it did. -/
def fnExactRootOfUptoRow : OpenClaim := { program := "ytklblcilkoobbaa", sum := "b93423aa4e23ee215e2574a7e2faa432060805808ba287fbff72f4237ac272fe", func := "loop.example/g01171/laws.FnExactRootOf", spec := "fnExactRootOf", inPlace := ["math.sqrt"], apart := false, narrowed := true }
def FnExactRootOfUptoSaid : Prop := fnExactRootOfUptoRow.holds Try.pinned (OpenSpec.upto fnExactRootOfSpec)

end Rows
end Go.Proofs.Ytklblcilkoobbaa
