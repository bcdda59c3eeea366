/-
  No cell of these rows narrows 'for every input' (looked for: loops, veiled, ifaces, maps, wideKeys, modest, calm, conditions, laid).
  DERIVED. THE GIVEN ROWS OF THIS SEAT. 6 by the template 'for every input the law returns true; each argument reads behind the call as it read before'; 0 by the template 'total and deterministic' (their statements: YtlnfakbmigbdbaaTotals.lean).
  GIVEN WITH THE SEED: the statements are not yours to turn. If you find one false, say at which input.
  Laid BY PROGRAM, IN A SANDBOX (cutbox-rows.mjs): the forced cells as the released guide's own fill.sh prints them over the translation 3ce761dce1897b1b… (all of the seat's roots in one cut). By AI agents, Wed Nov 11 2026. No macro, syntax, notation, axiom, sorry.
-/
import Derived.Test.YtlnfakbmigbdbaaChecked
import GoSem.Claim
import GoSem.ClaimJoined
import GoSem.ClaimMapViews
import Derived.JoinedTies
import Derived.KernelRfl
namespace Go.Proofs.Ytlnfakbmigbdbaa
/- THE CELL 'sum', in the pinned program and in every row, IS THE sha256 OF THE DUMP (.gsa) THAT YtlnfakbmigbdbaaProg.lean LOADS. Nothing in Lean hashes anything: it is a label: what it is worth is what the hold of that sum in a sandbox is worth. -/
noncomputable def Try.pinned : Pinned := { name := "ytlnfakbmigbdbaa", sum := "3ce761dce1897b1ba2946e7f9a9fe3e27269bdb84739459ab5880d8193409265", checked := Try.checked }
namespace Rows
def none {H : Type} : Left H := { results := [], args := [] }

/-- 'laws.FnExactIsRate': WHATEVER THE INPUT: true; the input reads as it did. -/
def fnExactIsRateSpec : ChangeSpec := { name := "fnExactIsRate", fn := fun _ => fun
  | [d] => { results := [.lit (.bool true)], args := [d] }
  | _ => none }
def fnExactIsRateRow : OpenClaim := { program := "ytlnfakbmigbdbaa", sum := "3ce761dce1897b1ba2946e7f9a9fe3e27269bdb84739459ab5880d8193409265", func := "loop.example/g01344/laws.FnExactIsRate", spec := "fnExactIsRate", apart := false }
def FnExactIsRateSaid : Prop := fnExactIsRateRow.holds Try.pinned (OpenSpec.ofChange fnExactIsRateSpec)

/-- ITS FALSE NEIGHBOUR: 'it returns false'. Refute it at one input. -/
def fnExactIsRateWrong : ChangeSpec := { name := "fnExactIsRate", fn := fun _ => fun
  | [d] => { results := [.lit (.bool false)], args := [d] }
  | _ => none }
def FnExactIsRateWrongFalsely : Prop := fnExactIsRateRow.holds Try.pinned (OpenSpec.ofChange fnExactIsRateWrong)

/-- 'laws.FnExactValidStone': WHATEVER THE INPUT: true; the input reads as it did. -/
def fnExactValidStoneSpec : ChangeSpec := { name := "fnExactValidStone", fn := fun _ => fun
  | [d] => { results := [.lit (.bool true)], args := [d] }
  | _ => none }
def fnExactValidStoneRow : OpenClaim := { program := "ytlnfakbmigbdbaa", sum := "3ce761dce1897b1ba2946e7f9a9fe3e27269bdb84739459ab5880d8193409265", func := "loop.example/g01344/laws.FnExactValidStone", spec := "fnExactValidStone", apart := false }
def FnExactValidStoneSaid : Prop := fnExactValidStoneRow.holds Try.pinned (OpenSpec.ofChange fnExactValidStoneSpec)

/-- ITS FALSE NEIGHBOUR: 'it returns false'. Refute it at one input. -/
def fnExactValidStoneWrong : ChangeSpec := { name := "fnExactValidStone", fn := fun _ => fun
  | [d] => { results := [.lit (.bool false)], args := [d] }
  | _ => none }
def FnExactValidStoneWrongFalsely : Prop := fnExactValidStoneRow.holds Try.pinned (OpenSpec.ofChange fnExactValidStoneWrong)

/-- 'laws.FnExactSameStone': WHATEVER THE INPUT: true; the input reads as it did. -/
def fnExactSameStoneSpec : ChangeSpec := { name := "fnExactSameStone", fn := fun _ => fun
  | [d1, d2] => { results := [.lit (.bool true)], args := [d1, d2] }
  | _ => none }
def fnExactSameStoneRow : OpenClaim := { program := "ytlnfakbmigbdbaa", sum := "3ce761dce1897b1ba2946e7f9a9fe3e27269bdb84739459ab5880d8193409265", func := "loop.example/g01344/laws.FnExactSameStone", spec := "fnExactSameStone", inPlace := ["math.Float32bits"], apart := false }
def FnExactSameStoneSaid : Prop := fnExactSameStoneRow.holds Try.pinned (OpenSpec.ofChange fnExactSameStoneSpec)

/-- ITS FALSE NEIGHBOUR: 'it returns false'. Refute it at one input. -/
def fnExactSameStoneWrong : ChangeSpec := { name := "fnExactSameStone", fn := fun _ => fun
  | [d1, d2] => { results := [.lit (.bool false)], args := [d1, d2] }
  | _ => none }
def FnExactSameStoneWrongFalsely : Prop := fnExactSameStoneRow.holds Try.pinned (OpenSpec.ofChange fnExactSameStoneWrong)

/-- 'laws.FnExactValidBox': WHATEVER THE INPUT: true; the input reads as it did. -/
def fnExactValidBoxSpec : ChangeSpec := { name := "fnExactValidBox", fn := fun _ => fun
  | [d] => { results := [.lit (.bool true)], args := [d] }
  | _ => none }
def fnExactValidBoxRow : OpenClaim := { program := "ytlnfakbmigbdbaa", sum := "3ce761dce1897b1ba2946e7f9a9fe3e27269bdb84739459ab5880d8193409265", func := "loop.example/g01344/laws.FnExactValidBox", spec := "fnExactValidBox", apart := false }
def FnExactValidBoxSaid : Prop := fnExactValidBoxRow.holds Try.pinned (OpenSpec.ofChange fnExactValidBoxSpec)

/-- ITS FALSE NEIGHBOUR: 'it returns false'. Refute it at one input. -/
def fnExactValidBoxWrong : ChangeSpec := { name := "fnExactValidBox", fn := fun _ => fun
  | [d] => { results := [.lit (.bool false)], args := [d] }
  | _ => none }
def FnExactValidBoxWrongFalsely : Prop := fnExactValidBoxRow.holds Try.pinned (OpenSpec.ofChange fnExactValidBoxWrong)

/-- 'laws.FnExactOffBy': WHATEVER THE INPUT: true; the input reads as it did. -/
def fnExactOffBySpec : ChangeSpec := { name := "fnExactOffBy", fn := fun _ => fun
  | [d1, d2] => { results := [.lit (.bool true)], args := [d1, d2] }
  | _ => none }
def fnExactOffByRow : OpenClaim := { program := "ytlnfakbmigbdbaa", sum := "3ce761dce1897b1ba2946e7f9a9fe3e27269bdb84739459ab5880d8193409265", func := "loop.example/g01344/laws.FnExactOffBy", spec := "fnExactOffBy", apart := false }
def FnExactOffBySaid : Prop := fnExactOffByRow.holds Try.pinned (OpenSpec.ofChange fnExactOffBySpec)

/-- ITS FALSE NEIGHBOUR: 'it returns false'. Refute it at one input. -/
def fnExactOffByWrong : ChangeSpec := { name := "fnExactOffBy", fn := fun _ => fun
  | [d1, d2] => { results := [.lit (.bool false)], args := [d1, d2] }
  | _ => none }
def FnExactOffByWrongFalsely : Prop := fnExactOffByRow.holds Try.pinned (OpenSpec.ofChange fnExactOffByWrong)

/-- 'laws.FnExactSumOf': WHATEVER THE INPUT: true; the input reads as it did. -/
def fnExactSumOfSpec : ChangeSpec := { name := "fnExactSumOf", fn := fun _ => fun
  | [d] => { results := [.lit (.bool true)], args := [d] }
  | _ => none }
def fnExactSumOfRow : OpenClaim := { program := "ytlnfakbmigbdbaa", sum := "3ce761dce1897b1ba2946e7f9a9fe3e27269bdb84739459ab5880d8193409265", func := "loop.example/g01344/laws.FnExactSumOf", spec := "fnExactSumOf", apart := false }
def FnExactSumOfSaid : Prop := fnExactSumOfRow.holds Try.pinned (OpenSpec.ofChange fnExactSumOfSpec)

/-- ITS FALSE NEIGHBOUR: 'it returns false'. Refute it at one input. -/
def fnExactSumOfWrong : ChangeSpec := { name := "fnExactSumOf", fn := fun _ => fun
  | [d] => { results := [.lit (.bool false)], args := [d] }
  | _ => none }
def FnExactSumOfWrongFalsely : Prop := fnExactSumOfRow.holds Try.pinned (OpenSpec.ofChange fnExactSumOfWrong)

/- THE SECOND FORM. 'bulk': how many values and letters a reading holds, each counted each time it is reached (what is shared counts as often as it is met; a slice's spare places count too). A statement '..UptoSaid' is the law's where the arguments, and the package variables that the reading takes, are together of bulk at most 1048576: NARROWER than '..Said'. Prove '..Said' where nothing that the law and all that it calls make is longer than what came in: it says more and counts as full. Else prove '..UptoSaid'. A law counts once. -/
mutual
def uptoBulk {H : Type} : DataW H → Nat
  | .lit (.string bytes) => bytes.length + 1
  | .lit _ => 1
  | .nil => 1
  | .ptr d => uptoBulk d + 1
  | .slice elems spare => uptoBulkAll elems + uptoBulkAll spare + 1
  | .agg parts => uptoBulkAll parts + 1
  | .iface _ d => uptoBulk d + 1
  | .map entries => uptoBulkEntries entries + 1
  | .held _ => 1
def uptoBulkAll {H : Type} : List (DataW H) → Nat
  | [] => 0
  | d :: r => uptoBulk d + uptoBulkAll r
def uptoBulkEntries {H : Type} : List (Lit × DataW H) → Nat
  | [] => 0
  | x :: r => uptoBulkEntry x + uptoBulkEntries r
def uptoBulkEntry {H : Type} : Lit × DataW H → Nat
  | (.string bytes, d) => bytes.length + uptoBulk d + 1
  | (_, d) => uptoBulk d + 1
 end
def uptoSmall : (H : Type) → List (DataW H) → Bool := fun _ ds => decide (uptoBulkAll ds ≤ 1048576)
def OpenSpec.upto (s : _root_.Go.ChangeSpec) : _root_.Go.OpenSpec := { _root_.Go.OpenSpec.ofChange s with cond := some uptoSmall }

/-- 'laws.FnExactIsRate', WHERE WHAT IT READS IS OF BULK AT MOST 1048576: true; the input reads as it did. -/
def fnExactIsRateUptoRow : OpenClaim := { program := "ytlnfakbmigbdbaa", sum := "3ce761dce1897b1ba2946e7f9a9fe3e27269bdb84739459ab5880d8193409265", func := "loop.example/g01344/laws.FnExactIsRate", spec := "fnExactIsRate", apart := false, narrowed := true }
def FnExactIsRateUptoSaid : Prop := fnExactIsRateUptoRow.holds Try.pinned (OpenSpec.upto fnExactIsRateSpec)

/-- 'laws.FnExactValidStone', WHERE WHAT IT READS IS OF BULK AT MOST 1048576: true; the input reads as it did. -/
def fnExactValidStoneUptoRow : OpenClaim := { program := "ytlnfakbmigbdbaa", sum := "3ce761dce1897b1ba2946e7f9a9fe3e27269bdb84739459ab5880d8193409265", func := "loop.example/g01344/laws.FnExactValidStone", spec := "fnExactValidStone", apart := false, narrowed := true }
def FnExactValidStoneUptoSaid : Prop := fnExactValidStoneUptoRow.holds Try.pinned (OpenSpec.upto fnExactValidStoneSpec)

/-- 'laws.FnExactSameStone', WHERE WHAT IT READS IS OF BULK AT MOST 1048576: true; the input reads as it did. -/
def fnExactSameStoneUptoRow : OpenClaim := { program := "ytlnfakbmigbdbaa", sum := "3ce761dce1897b1ba2946e7f9a9fe3e27269bdb84739459ab5880d8193409265", func := "loop.example/g01344/laws.FnExactSameStone", spec := "fnExactSameStone", inPlace := ["math.Float32bits"], apart := false, narrowed := true }
def FnExactSameStoneUptoSaid : Prop := fnExactSameStoneUptoRow.holds Try.pinned (OpenSpec.upto fnExactSameStoneSpec)

/-- 'laws.FnExactValidBox', WHERE WHAT IT READS IS OF BULK AT MOST 1048576: true; the input reads as it did. -/
def fnExactValidBoxUptoRow : OpenClaim := { program := "ytlnfakbmigbdbaa", sum := "3ce761dce1897b1ba2946e7f9a9fe3e27269bdb84739459ab5880d8193409265", func := "loop.example/g01344/laws.FnExactValidBox", spec := "fnExactValidBox", apart := false, narrowed := true }
def FnExactValidBoxUptoSaid : Prop := fnExactValidBoxUptoRow.holds Try.pinned (OpenSpec.upto fnExactValidBoxSpec)

/-- 'laws.FnExactOffBy', WHERE WHAT IT READS IS OF BULK AT MOST 1048576: true; the input reads as it did. -/
def fnExactOffByUptoRow : OpenClaim := { program := "ytlnfakbmigbdbaa", sum := "3ce761dce1897b1ba2946e7f9a9fe3e27269bdb84739459ab5880d8193409265", func := "loop.example/g01344/laws.FnExactOffBy", spec := "fnExactOffBy", apart := false, narrowed := true }
def FnExactOffByUptoSaid : Prop := fnExactOffByUptoRow.holds Try.pinned (OpenSpec.upto fnExactOffBySpec)

/-- 'laws.FnExactSumOf', WHERE WHAT IT READS IS OF BULK AT MOST 1048576: true; the input reads as it did. -/
def fnExactSumOfUptoRow : OpenClaim := { program := "ytlnfakbmigbdbaa", sum := "3ce761dce1897b1ba2946e7f9a9fe3e27269bdb84739459ab5880d8193409265", func := "loop.example/g01344/laws.FnExactSumOf", spec := "fnExactSumOf", apart := false, narrowed := true }
def FnExactSumOfUptoSaid : Prop := fnExactSumOfUptoRow.holds Try.pinned (OpenSpec.upto fnExactSumOfSpec)

end Rows
end Go.Proofs.Ytlnfakbmigbdbaa
