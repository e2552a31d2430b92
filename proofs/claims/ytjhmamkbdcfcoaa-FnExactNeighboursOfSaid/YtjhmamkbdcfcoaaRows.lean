/-
  No cell of these rows narrows 'for every input' (looked for: loops, veiled, ifaces, maps, wideKeys, modest, calm, conditions, laid).
  DERIVED. THE GIVEN ROWS OF THIS SEAT. 7 by the template 'for every input the law returns true; each argument reads behind the call as it read before'; 0 by the template 'total and deterministic' (their statements: YtjhmamkbdcfcoaaTotals.lean).
  GIVEN WITH THE SEED: the statements are not yours to turn. If you find one false, say at which input.
  Laid BY PROGRAM, IN A SANDBOX (cutbox-rows.mjs): the forced cells as the released guide's own fill.sh prints them over the translation 14577b5a4bc59d84… (all of the seat's roots in one cut). By AI agents, Wed Nov 11 2026. No macro, syntax, notation, axiom, sorry.
-/
import Derived.Test.YtjhmamkbdcfcoaaChecked
import GoSem.Claim
import GoSem.ClaimJoined
import GoSem.ClaimMapViews
import Derived.JoinedTies
import Derived.KernelRfl
namespace Go.Proofs.Ytjhmamkbdcfcoaa
/- THE CELL 'sum', in the pinned program and in every row, IS THE sha256 OF THE DUMP (.gsa) THAT YtjhmamkbdcfcoaaProg.lean LOADS. Nothing in Lean hashes anything: it is a label: what it is worth is what the hold of that sum in a sandbox is worth. -/
noncomputable def Try.pinned : Pinned := { name := "ytjhmamkbdcfcoaa", sum := "14577b5a4bc59d848c435d6217a09376e40911366477d67749f951f47c47b7cf", checked := Try.checked }
namespace Rows
def none {H : Type} : Left H := { results := [], args := [] }

/-- 'laws.FnExactFlipMap': WHATEVER THE INPUT: true; the input reads as it did. -/
def fnExactFlipMapSpec : ChangeSpec := { name := "fnExactFlipMap", fn := fun _ => fun
  | [] => { results := [.lit (.bool true)], args := [] }
  | _ => none }
def fnExactFlipMapRow : OpenClaim := { program := "ytjhmamkbdcfcoaa", sum := "14577b5a4bc59d848c435d6217a09376e40911366477d67749f951f47c47b7cf", func := "loop.example/g01171/laws.FnExactFlipMap", spec := "fnExactFlipMap", apart := false }
def FnExactFlipMapSaid : Prop := fnExactFlipMapRow.holds Try.pinned (OpenSpec.ofChange fnExactFlipMapSpec)

/-- ITS FALSE NEIGHBOUR: 'it returns false'. Refute it at one input. -/
def fnExactFlipMapWrong : ChangeSpec := { name := "fnExactFlipMap", fn := fun _ => fun
  | [] => { results := [.lit (.bool false)], args := [] }
  | _ => none }
def FnExactFlipMapWrongFalsely : Prop := fnExactFlipMapRow.holds Try.pinned (OpenSpec.ofChange fnExactFlipMapWrong)

/-- 'laws.FnExactIdentityMap': WHATEVER THE INPUT: true; the input reads as it did. -/
def fnExactIdentityMapSpec : ChangeSpec := { name := "fnExactIdentityMap", fn := fun _ => fun
  | [] => { results := [.lit (.bool true)], args := [] }
  | _ => none }
def fnExactIdentityMapRow : OpenClaim := { program := "ytjhmamkbdcfcoaa", sum := "14577b5a4bc59d848c435d6217a09376e40911366477d67749f951f47c47b7cf", func := "loop.example/g01171/laws.FnExactIdentityMap", spec := "fnExactIdentityMap", apart := false }
def FnExactIdentityMapSaid : Prop := fnExactIdentityMapRow.holds Try.pinned (OpenSpec.ofChange fnExactIdentityMapSpec)

/-- ITS FALSE NEIGHBOUR: 'it returns false'. Refute it at one input. -/
def fnExactIdentityMapWrong : ChangeSpec := { name := "fnExactIdentityMap", fn := fun _ => fun
  | [] => { results := [.lit (.bool false)], args := [] }
  | _ => none }
def FnExactIdentityMapWrongFalsely : Prop := fnExactIdentityMapRow.holds Try.pinned (OpenSpec.ofChange fnExactIdentityMapWrong)

/-- 'laws.FnExactCornerOf': WHATEVER THE INPUT: true; the input reads as it did. -/
def fnExactCornerOfSpec : ChangeSpec := { name := "fnExactCornerOf", fn := fun _ => fun
  | [d1, d2] => { results := [.lit (.bool true)], args := [d1, d2] }
  | _ => none }
def fnExactCornerOfRow : OpenClaim := { program := "ytjhmamkbdcfcoaa", sum := "14577b5a4bc59d848c435d6217a09376e40911366477d67749f951f47c47b7cf", func := "loop.example/g01171/laws.FnExactCornerOf", spec := "fnExactCornerOf", inPlace := ["math.Float32bits"], apart := false }
def FnExactCornerOfSaid : Prop := fnExactCornerOfRow.holds Try.pinned (OpenSpec.ofChange fnExactCornerOfSpec)

/-- ITS FALSE NEIGHBOUR: 'it returns false'. Refute it at one input. -/
def fnExactCornerOfWrong : ChangeSpec := { name := "fnExactCornerOf", fn := fun _ => fun
  | [d1, d2] => { results := [.lit (.bool false)], args := [d1, d2] }
  | _ => none }
def FnExactCornerOfWrongFalsely : Prop := fnExactCornerOfRow.holds Try.pinned (OpenSpec.ofChange fnExactCornerOfWrong)

/-- 'laws.FnExactFromKey': WHATEVER THE INPUT: true; the input reads as it did. -/
def fnExactFromKeySpec : ChangeSpec := { name := "fnExactFromKey", fn := fun _ => fun
  | [d] => { results := [.lit (.bool true)], args := [d] }
  | _ => none }
def fnExactFromKeyRow : OpenClaim := { program := "ytjhmamkbdcfcoaa", sum := "14577b5a4bc59d848c435d6217a09376e40911366477d67749f951f47c47b7cf", func := "loop.example/g01171/laws.FnExactFromKey", spec := "fnExactFromKey", inPlace := ["math.Float32frombits", "math.Float32bits"], named := ["encoding/binary.BigEndian"], apart := false }
def FnExactFromKeySaid : Prop := fnExactFromKeyRow.holds Try.pinned (OpenSpec.ofChange fnExactFromKeySpec)

/-- ITS FALSE NEIGHBOUR: 'it returns false'. Refute it at one input. -/
def fnExactFromKeyWrong : ChangeSpec := { name := "fnExactFromKey", fn := fun _ => fun
  | [d] => { results := [.lit (.bool false)], args := [d] }
  | _ => none }
def FnExactFromKeyWrongFalsely : Prop := fnExactFromKeyRow.holds Try.pinned (OpenSpec.ofChange fnExactFromKeyWrong)

/-- 'laws.FnExactNeighboursOf': WHATEVER THE INPUT: true; the input reads as it did. -/
def fnExactNeighboursOfSpec : ChangeSpec := { name := "fnExactNeighboursOf", fn := fun _ => fun
  | [d] => { results := [.lit (.bool true)], args := [d] }
  | _ => none }
def fnExactNeighboursOfRow : OpenClaim := { program := "ytjhmamkbdcfcoaa", sum := "14577b5a4bc59d848c435d6217a09376e40911366477d67749f951f47c47b7cf", func := "loop.example/g01171/laws.FnExactNeighboursOf", spec := "fnExactNeighboursOf", apart := false }
def FnExactNeighboursOfSaid : Prop := fnExactNeighboursOfRow.holds Try.pinned (OpenSpec.ofChange fnExactNeighboursOfSpec)

/-- ITS FALSE NEIGHBOUR: 'it returns false'. Refute it at one input. -/
def fnExactNeighboursOfWrong : ChangeSpec := { name := "fnExactNeighboursOf", fn := fun _ => fun
  | [d] => { results := [.lit (.bool false)], args := [d] }
  | _ => none }
def FnExactNeighboursOfWrongFalsely : Prop := fnExactNeighboursOfRow.holds Try.pinned (OpenSpec.ofChange fnExactNeighboursOfWrong)

/-- 'laws.FnExactSumOf': WHATEVER THE INPUT: true; the input reads as it did. -/
def fnExactSumOfSpec : ChangeSpec := { name := "fnExactSumOf", fn := fun _ => fun
  | [d] => { results := [.lit (.bool true)], args := [d] }
  | _ => none }
def fnExactSumOfRow : OpenClaim := { program := "ytjhmamkbdcfcoaa", sum := "14577b5a4bc59d848c435d6217a09376e40911366477d67749f951f47c47b7cf", func := "loop.example/g01171/laws.FnExactSumOf", spec := "fnExactSumOf", apart := false }
def FnExactSumOfSaid : Prop := fnExactSumOfRow.holds Try.pinned (OpenSpec.ofChange fnExactSumOfSpec)

/-- ITS FALSE NEIGHBOUR: 'it returns false'. Refute it at one input. -/
def fnExactSumOfWrong : ChangeSpec := { name := "fnExactSumOf", fn := fun _ => fun
  | [d] => { results := [.lit (.bool false)], args := [d] }
  | _ => none }
def FnExactSumOfWrongFalsely : Prop := fnExactSumOfRow.holds Try.pinned (OpenSpec.ofChange fnExactSumOfWrong)

/-- 'laws.FnExactDotOf': WHATEVER THE INPUT: true; the input reads as it did. -/
def fnExactDotOfSpec : ChangeSpec := { name := "fnExactDotOf", fn := fun _ => fun
  | [d1, d2] => { results := [.lit (.bool true)], args := [d1, d2] }
  | _ => none }
def fnExactDotOfRow : OpenClaim := { program := "ytjhmamkbdcfcoaa", sum := "14577b5a4bc59d848c435d6217a09376e40911366477d67749f951f47c47b7cf", func := "loop.example/g01171/laws.FnExactDotOf", spec := "fnExactDotOf", apart := false }
def FnExactDotOfSaid : Prop := fnExactDotOfRow.holds Try.pinned (OpenSpec.ofChange fnExactDotOfSpec)

/-- ITS FALSE NEIGHBOUR: 'it returns false'. Refute it at one input. -/
def fnExactDotOfWrong : ChangeSpec := { name := "fnExactDotOf", fn := fun _ => fun
  | [d1, d2] => { results := [.lit (.bool false)], args := [d1, d2] }
  | _ => none }
def FnExactDotOfWrongFalsely : Prop := fnExactDotOfRow.holds Try.pinned (OpenSpec.ofChange fnExactDotOfWrong)

/- THE SECOND FORM. 'bulk': how many values and letters a reading holds, each counted each time it is reached (what is shared counts as often as it is met; a slice's spare places count too). A statement '..UptoSaid' is the law's where the arguments, and the package variables that the reading takes, are together of bulk at most 1048576: NARROWER than '..Said'. Prove '..Said' where nothing that the law and all that it calls make is longer than what came in: it says more and counts as full. Else prove '..UptoSaid'. A law counts once. -/
mutual
def uptoBulk {H : Type} : DataW H → Nat
  | .lit (.string bytes) => bytes.length + 1
  | .lit _ => 1
  | .nil => 1
  | .ptr d => uptoBulk d + 1
  | .slice elems spare => uptoBulkAll elems + uptoBulkAll spare + 1
  | .agg parts => uptoBulkAll parts + 1
  | .iface _ d => uptoBulk d + 1
  | .map entries => uptoBulkEntries entries + 1
  | .held _ => 1
def uptoBulkAll {H : Type} : List (DataW H) → Nat
  | [] => 0
  | d :: r => uptoBulk d + uptoBulkAll r
def uptoBulkEntries {H : Type} : List (Lit × DataW H) → Nat
  | [] => 0
  | x :: r => uptoBulkEntry x + uptoBulkEntries r
def uptoBulkEntry {H : Type} : Lit × DataW H → Nat
  | (.string bytes, d) => bytes.length + uptoBulk d + 1
  | (_, d) => uptoBulk d + 1
 end
def uptoSmall : (H : Type) → List (DataW H) → Bool := fun _ ds => decide (uptoBulkAll ds ≤ 1048576)
def OpenSpec.upto (s : _root_.Go.ChangeSpec) : _root_.Go.OpenSpec := { _root_.Go.OpenSpec.ofChange s with cond := some uptoSmall }

/-- 'laws.FnExactFlipMap', WHERE WHAT IT READS IS OF BULK AT MOST 1048576: true; the input reads as it did. -/
def fnExactFlipMapUptoRow : OpenClaim := { program := "ytjhmamkbdcfcoaa", sum := "14577b5a4bc59d848c435d6217a09376e40911366477d67749f951f47c47b7cf", func := "loop.example/g01171/laws.FnExactFlipMap", spec := "fnExactFlipMap", apart := false, narrowed := true }
def FnExactFlipMapUptoSaid : Prop := fnExactFlipMapUptoRow.holds Try.pinned (OpenSpec.upto fnExactFlipMapSpec)

/-- 'laws.FnExactIdentityMap', WHERE WHAT IT READS IS OF BULK AT MOST 1048576: true; the input reads as it did. -/
def fnExactIdentityMapUptoRow : OpenClaim := { program := "ytjhmamkbdcfcoaa", sum := "14577b5a4bc59d848c435d6217a09376e40911366477d67749f951f47c47b7cf", func := "loop.example/g01171/laws.FnExactIdentityMap", spec := "fnExactIdentityMap", apart := false, narrowed := true }
def FnExactIdentityMapUptoSaid : Prop := fnExactIdentityMapUptoRow.holds Try.pinned (OpenSpec.upto fnExactIdentityMapSpec)

/-- 'laws.FnExactCornerOf', WHERE WHAT IT READS IS OF BULK AT MOST 1048576: true; the input reads as it did. -/
def fnExactCornerOfUptoRow : OpenClaim := { program := "ytjhmamkbdcfcoaa", sum := "14577b5a4bc59d848c435d6217a09376e40911366477d67749f951f47c47b7cf", func := "loop.example/g01171/laws.FnExactCornerOf", spec := "fnExactCornerOf", inPlace := ["math.Float32bits"], apart := false, narrowed := true }
def FnExactCornerOfUptoSaid : Prop := fnExactCornerOfUptoRow.holds Try.pinned (OpenSpec.upto fnExactCornerOfSpec)

/-- 'laws.FnExactFromKey', WHERE WHAT IT READS IS OF BULK AT MOST 1048576: true; the input reads as it did. -/
def fnExactFromKeyUptoRow : OpenClaim := { program := "ytjhmamkbdcfcoaa", sum := "14577b5a4bc59d848c435d6217a09376e40911366477d67749f951f47c47b7cf", func := "loop.example/g01171/laws.FnExactFromKey", spec := "fnExactFromKey", inPlace := ["math.Float32frombits", "math.Float32bits"], named := ["encoding/binary.BigEndian"], apart := false, narrowed := true }
def FnExactFromKeyUptoSaid : Prop := fnExactFromKeyUptoRow.holds Try.pinned (OpenSpec.upto fnExactFromKeySpec)

/-- 'laws.FnExactNeighboursOf', WHERE WHAT IT READS IS OF BULK AT MOST 1048576: true; the input reads as it did. -/
def fnExactNeighboursOfUptoRow : OpenClaim := { program := "ytjhmamkbdcfcoaa", sum := "14577b5a4bc59d848c435d6217a09376e40911366477d67749f951f47c47b7cf", func := "loop.example/g01171/laws.FnExactNeighboursOf", spec := "fnExactNeighboursOf", apart := false, narrowed := true }
def FnExactNeighboursOfUptoSaid : Prop := fnExactNeighboursOfUptoRow.holds Try.pinned (OpenSpec.upto fnExactNeighboursOfSpec)

/-- 'laws.FnExactSumOf', WHERE WHAT IT READS IS OF BULK AT MOST 1048576: true; the input reads as it did. -/
def fnExactSumOfUptoRow : OpenClaim := { program := "ytjhmamkbdcfcoaa", sum := "14577b5a4bc59d848c435d6217a09376e40911366477d67749f951f47c47b7cf", func := "loop.example/g01171/laws.FnExactSumOf", spec := "fnExactSumOf", apart := false, narrowed := true }
def FnExactSumOfUptoSaid : Prop := fnExactSumOfUptoRow.holds Try.pinned (OpenSpec.upto fnExactSumOfSpec)

/-- 'laws.FnExactDotOf', WHERE WHAT IT READS IS OF BULK AT MOST 1048576: true; the input reads as it did. -/
def fnExactDotOfUptoRow : OpenClaim := { program := "ytjhmamkbdcfcoaa", sum := "14577b5a4bc59d848c435d6217a09376e40911366477d67749f951f47c47b7cf", func := "loop.example/g01171/laws.FnExactDotOf", spec := "fnExactDotOf", apart := false, narrowed := true }
def FnExactDotOfUptoSaid : Prop := fnExactDotOfUptoRow.holds Try.pinned (OpenSpec.upto fnExactDotOfSpec)

end Rows
end Go.Proofs.Ytjhmamkbdcfcoaa
