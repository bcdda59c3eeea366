/-
  No cell of these rows narrows 'for every input' (looked for: loops, veiled, ifaces, maps, wideKeys, modest, calm, conditions, laid).
  DERIVED. THE GIVEN ROWS OF THIS SEAT. 4 by the template 'for every input the law returns true; each argument reads behind the call as it read before'; 0 by the template 'total and deterministic' (their statements: YtkfpmiggolmabaaTotals.lean).
  GIVEN WITH THE SEED: the statements are not yours to turn. If you find one false, say at which input.
  Laid BY PROGRAM, IN A SANDBOX (cutbox-rows.mjs): the forced cells as the released guide's own fill.sh prints them over the translation 87b44dbe9938b17b… (all of the seat's roots in one cut). By AI agents, Wed Nov 11 2026. No macro, syntax, notation, axiom, sorry.
-/
import Derived.Test.YtkfpmiggolmabaaChecked
import GoSem.Claim
import GoSem.ClaimJoined
import GoSem.ClaimMapViews
import Derived.JoinedTies
import Derived.KernelRfl
namespace Go.Proofs.Ytkfpmiggolmabaa
/- THE CELL 'sum', in the pinned program and in every row, IS THE sha256 OF THE DUMP (.gsa) THAT YtkfpmiggolmabaaProg.lean LOADS. Nothing in Lean hashes anything: it is a label: what it is worth is what the hold of that sum in a sandbox is worth. -/
noncomputable def Try.pinned : Pinned := { name := "ytkfpmiggolmabaa", sum := "87b44dbe9938b17b5847093a6c4bafa02db69ea366e1b1844ee363b989503c2a", checked := Try.checked }
namespace Rows
def none {H : Type} : Left H := { results := [], args := [] }

/-- 'laws.FnExactAddWheel': WHATEVER THE INPUT: true; the input reads as it did. -/
def fnExactAddWheelSpec : ChangeSpec := { name := "fnExactAddWheel", fn := fun _ => fun
  | [d1, d2] => { results := [.lit (.bool true)], args := [d1, d2] }
  | _ => none }
def fnExactAddWheelRow : OpenClaim := { program := "ytkfpmiggolmabaa", sum := "87b44dbe9938b17b5847093a6c4bafa02db69ea366e1b1844ee363b989503c2a", func := "loop.example/g01344/laws.FnExactAddWheel", spec := "fnExactAddWheel", inPlace := ["slices.overlaps[int16]"], unfollowed := true, recurses := true, apart := false }
def FnExactAddWheelSaid : Prop := fnExactAddWheelRow.holds Try.pinned (OpenSpec.ofChange fnExactAddWheelSpec)

/-- ITS FALSE NEIGHBOUR: 'it returns false'. Refute it at one input. -/
def fnExactAddWheelWrong : ChangeSpec := { name := "fnExactAddWheel", fn := fun _ => fun
  | [d1, d2] => { results := [.lit (.bool false)], args := [d1, d2] }
  | _ => none }
def FnExactAddWheelWrongFalsely : Prop := fnExactAddWheelRow.holds Try.pinned (OpenSpec.ofChange fnExactAddWheelWrong)

/-- 'laws.FnFractions': WHATEVER THE INPUT: true; the input reads as it did. -/
def fnFractionsSpec : ChangeSpec := { name := "fnFractions", fn := fun _ => fun
  | [d1, d2] => { results := [.lit (.bool true)], args := [d1, d2] }
  | _ => none }
def fnFractionsRow : OpenClaim := { program := "ytkfpmiggolmabaa", sum := "87b44dbe9938b17b5847093a6c4bafa02db69ea366e1b1844ee363b989503c2a", func := "loop.example/g01344/laws.FnFractions", spec := "fnFractions", inPlace := ["math.Float64frombits", "math.Float32frombits", "math.Float32bits"], apart := false }
def FnFractionsSaid : Prop := fnFractionsRow.holds Try.pinned (OpenSpec.ofChange fnFractionsSpec)

/-- ITS FALSE NEIGHBOUR: 'it returns false'. Refute it at one input. -/
def fnFractionsWrong : ChangeSpec := { name := "fnFractions", fn := fun _ => fun
  | [d1, d2] => { results := [.lit (.bool false)], args := [d1, d2] }
  | _ => none }
def FnFractionsWrongFalsely : Prop := fnFractionsRow.holds Try.pinned (OpenSpec.ofChange fnFractionsWrong)

/-- 'laws.FnExactTorqueOf': WHATEVER THE INPUT: true; the input reads as it did. -/
def fnExactTorqueOfSpec : ChangeSpec := { name := "fnExactTorqueOf", fn := fun _ => fun
  | [d1, d2] => { results := [.lit (.bool true)], args := [d1, d2] }
  | _ => none }
def fnExactTorqueOfRow : OpenClaim := { program := "ytkfpmiggolmabaa", sum := "87b44dbe9938b17b5847093a6c4bafa02db69ea366e1b1844ee363b989503c2a", func := "loop.example/g01344/laws.FnExactTorqueOf", spec := "fnExactTorqueOf", apart := false }
def FnExactTorqueOfSaid : Prop := fnExactTorqueOfRow.holds Try.pinned (OpenSpec.ofChange fnExactTorqueOfSpec)

/-- ITS FALSE NEIGHBOUR: 'it returns false'. Refute it at one input. -/
def fnExactTorqueOfWrong : ChangeSpec := { name := "fnExactTorqueOf", fn := fun _ => fun
  | [d1, d2] => { results := [.lit (.bool false)], args := [d1, d2] }
  | _ => none }
def FnExactTorqueOfWrongFalsely : Prop := fnExactTorqueOfRow.holds Try.pinned (OpenSpec.ofChange fnExactTorqueOfWrong)

/-- 'laws.FnExactBeltsNeeded': WHATEVER THE INPUT: true; the input reads as it did. -/
def fnExactBeltsNeededSpec : ChangeSpec := { name := "fnExactBeltsNeeded", fn := fun _ => fun
  | [d1, d2, d3] => { results := [.lit (.bool true)], args := [d1, d2, d3] }
  | _ => none }
def fnExactBeltsNeededRow : OpenClaim := { program := "ytkfpmiggolmabaa", sum := "87b44dbe9938b17b5847093a6c4bafa02db69ea366e1b1844ee363b989503c2a", func := "loop.example/g01344/laws.FnExactBeltsNeeded", spec := "fnExactBeltsNeeded", apart := false }
def FnExactBeltsNeededSaid : Prop := fnExactBeltsNeededRow.holds Try.pinned (OpenSpec.ofChange fnExactBeltsNeededSpec)

/-- ITS FALSE NEIGHBOUR: 'it returns false'. Refute it at one input. -/
def fnExactBeltsNeededWrong : ChangeSpec := { name := "fnExactBeltsNeeded", fn := fun _ => fun
  | [d1, d2, d3] => { results := [.lit (.bool false)], args := [d1, d2, d3] }
  | _ => none }
def FnExactBeltsNeededWrongFalsely : Prop := fnExactBeltsNeededRow.holds Try.pinned (OpenSpec.ofChange fnExactBeltsNeededWrong)

/- THE SECOND FORM. 'bulk': how many values and letters a reading holds, each counted each time it is reached (what is shared counts as often as it is met; a slice's spare places count too). A statement '..UptoSaid' is the law's where the arguments, and the package variables that the reading takes, are together of bulk at most 1048576: NARROWER than '..Said'. Prove '..Said' where nothing that the law and all that it calls make is longer than what came in: it says more and counts as full. Else prove '..UptoSaid'. A law counts once. -/
mutual
def uptoBulk {H : Type} : DataW H → Nat
  | .lit (.string bytes) => bytes.length + 1
  | .lit _ => 1
  | .nil => 1
  | .ptr d => uptoBulk d + 1
  | .slice elems spare => uptoBulkAll elems + uptoBulkAll spare + 1
  | .agg parts => uptoBulkAll parts + 1
  | .iface _ d => uptoBulk d + 1
  | .map entries => uptoBulkEntries entries + 1
  | .held _ => 1
def uptoBulkAll {H : Type} : List (DataW H) → Nat
  | [] => 0
  | d :: r => uptoBulk d + uptoBulkAll r
def uptoBulkEntries {H : Type} : List (Lit × DataW H) → Nat
  | [] => 0
  | x :: r => uptoBulkEntry x + uptoBulkEntries r
def uptoBulkEntry {H : Type} : Lit × DataW H → Nat
  | (.string bytes, d) => bytes.length + uptoBulk d + 1
  | (_, d) => uptoBulk d + 1
 end
def uptoSmall : (H : Type) → List (DataW H) → Bool := fun _ ds => decide (uptoBulkAll ds ≤ 1048576)
def OpenSpec.upto (s : _root_.Go.ChangeSpec) : _root_.Go.OpenSpec := { _root_.Go.OpenSpec.ofChange s with cond := some uptoSmall }

/-- 'laws.FnExactAddWheel', WHERE WHAT IT READS IS OF BULK AT MOST 1048576: true; the input reads as it did. -/
def fnExactAddWheelUptoRow : OpenClaim := { program := "ytkfpmiggolmabaa", sum := "87b44dbe9938b17b5847093a6c4bafa02db69ea366e1b1844ee363b989503c2a", func := "loop.example/g01344/laws.FnExactAddWheel", spec := "fnExactAddWheel", inPlace := ["slices.overlaps[int16]"], unfollowed := true, recurses := true, apart := false, narrowed := true }
def FnExactAddWheelUptoSaid : Prop := fnExactAddWheelUptoRow.holds Try.pinned (OpenSpec.upto fnExactAddWheelSpec)

/-- 'laws.FnFractions', WHERE WHAT IT READS IS OF BULK AT MOST 1048576: true; the input reads as it did. -/
def fnFractionsUptoRow : OpenClaim := { program := "ytkfpmiggolmabaa", sum := "87b44dbe9938b17b5847093a6c4bafa02db69ea366e1b1844ee363b989503c2a", func := "loop.example/g01344/laws.FnFractions", spec := "fnFractions", inPlace := ["math.Float64frombits", "math.Float32frombits", "math.Float32bits"], apart := false, narrowed := true }
def FnFractionsUptoSaid : Prop := fnFractionsUptoRow.holds Try.pinned (OpenSpec.upto fnFractionsSpec)

/-- 'laws.FnExactTorqueOf', WHERE WHAT IT READS IS OF BULK AT MOST 1048576: true; the input reads as it did. -/
def fnExactTorqueOfUptoRow : OpenClaim := { program := "ytkfpmiggolmabaa", sum := "87b44dbe9938b17b5847093a6c4bafa02db69ea366e1b1844ee363b989503c2a", func := "loop.example/g01344/laws.FnExactTorqueOf", spec := "fnExactTorqueOf", apart := false, narrowed := true }
def FnExactTorqueOfUptoSaid : Prop := fnExactTorqueOfUptoRow.holds Try.pinned (OpenSpec.upto fnExactTorqueOfSpec)

/-- 'laws.FnExactBeltsNeeded', WHERE WHAT IT READS IS OF BULK AT MOST 1048576: true; the input reads as it did. -/
def fnExactBeltsNeededUptoRow : OpenClaim := { program := "ytkfpmiggolmabaa", sum := "87b44dbe9938b17b5847093a6c4bafa02db69ea366e1b1844ee363b989503c2a", func := "loop.example/g01344/laws.FnExactBeltsNeeded", spec := "fnExactBeltsNeeded", apart := false, narrowed := true }
def FnExactBeltsNeededUptoSaid : Prop := fnExactBeltsNeededUptoRow.holds Try.pinned (OpenSpec.upto fnExactBeltsNeededSpec)

end Rows
end Go.Proofs.Ytkfpmiggolmabaa
