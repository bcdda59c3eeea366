/-
  No cell of these rows narrows 'for every input' (looked for: loops, veiled, ifaces, maps, wideKeys, modest, calm, conditions, laid).
  DERIVED. THE GIVEN ROWS OF THIS SEAT. 6 by the template 'for every input the law returns true; each argument reads behind the call as it read before'; 0 by the template 'total and deterministic' (their statements: YtffpnngoafpidaaTotals.lean).
  GIVEN WITH THE SEED: the statements are not yours to turn. If you find one false, say at which input.
  Laid BY PROGRAM, IN A SANDBOX (cutbox-rows.mjs): the forced cells as the released guide's own fill.sh prints them over the translation 68ed85ed4dde3e39… (all of the seat's roots in one cut). By AI agents, Wed Nov 11 2026. No macro, syntax, notation, axiom, sorry.
-/
import Derived.Test.YtffpnngoafpidaaChecked
import GoSem.Claim
import GoSem.ClaimJoined
import GoSem.ClaimMapViews
import Derived.JoinedTies
import Derived.KernelRfl
namespace Go.Proofs.Ytffpnngoafpidaa
/- THE CELL 'sum', in the pinned program and in every row, IS THE sha256 OF THE DUMP (.gsa) THAT YtffpnngoafpidaaProg.lean LOADS. Nothing in Lean hashes anything: it is a label: what it is worth is what the hold of that sum in a sandbox is worth. -/
noncomputable def Try.pinned : Pinned := { name := "ytffpnngoafpidaa", sum := "68ed85ed4dde3e39a2ca715fa15f5858458e6227f43c495377bd0f0cbf6c9e4d", checked := Try.checked }
namespace Rows
def none {H : Type} : Left H := { results := [], args := [] }

/-- 'laws.FnExactBestFeed': WHATEVER THE INPUT: true; the input reads as it did. -/
def fnExactBestFeedSpec : ChangeSpec := { name := "fnExactBestFeed", fn := fun _ => fun
  | [d1, d2, d3] => { results := [.lit (.bool true)], args := [d1, d2, d3] }
  | _ => none }
def fnExactBestFeedRow : OpenClaim := { program := "ytffpnngoafpidaa", sum := "68ed85ed4dde3e39a2ca715fa15f5858458e6227f43c495377bd0f0cbf6c9e4d", func := "loop.example/g01344/laws.FnExactBestFeed", spec := "fnExactBestFeed", unfollowed := true, recurses := true, apart := false }
def FnExactBestFeedSaid : Prop := fnExactBestFeedRow.holds Try.pinned (OpenSpec.ofChange fnExactBestFeedSpec)

/-- ITS FALSE NEIGHBOUR: 'it returns false'. Refute it at one input. -/
def fnExactBestFeedWrong : ChangeSpec := { name := "fnExactBestFeed", fn := fun _ => fun
  | [d1, d2, d3] => { results := [.lit (.bool false)], args := [d1, d2, d3] }
  | _ => none }
def FnExactBestFeedWrongFalsely : Prop := fnExactBestFeedRow.holds Try.pinned (OpenSpec.ofChange fnExactBestFeedWrong)

/-- 'laws.FnExactShareTorque': WHATEVER THE INPUT: true; the input reads as it did. -/
def fnExactShareTorqueSpec : ChangeSpec := { name := "fnExactShareTorque", fn := fun _ => fun
  | [d1, d2, d3] => { results := [.lit (.bool true)], args := [d1, d2, d3] }
  | _ => none }
def fnExactShareTorqueRow : OpenClaim := { program := "ytffpnngoafpidaa", sum := "68ed85ed4dde3e39a2ca715fa15f5858458e6227f43c495377bd0f0cbf6c9e4d", func := "loop.example/g01344/laws.FnExactShareTorque", spec := "fnExactShareTorque", unfollowed := true, recurses := true, apart := false }
def FnExactShareTorqueSaid : Prop := fnExactShareTorqueRow.holds Try.pinned (OpenSpec.ofChange fnExactShareTorqueSpec)

/-- ITS FALSE NEIGHBOUR: 'it returns false'. Refute it at one input. -/
def fnExactShareTorqueWrong : ChangeSpec := { name := "fnExactShareTorque", fn := fun _ => fun
  | [d1, d2, d3] => { results := [.lit (.bool false)], args := [d1, d2, d3] }
  | _ => none }
def FnExactShareTorqueWrongFalsely : Prop := fnExactShareTorqueRow.holds Try.pinned (OpenSpec.ofChange fnExactShareTorqueWrong)

/-- 'laws.FnExactGrindDay': WHATEVER THE INPUT: true; the input reads as it did. -/
def fnExactGrindDaySpec : ChangeSpec := { name := "fnExactGrindDay", fn := fun _ => fun
  | [d1, d2, d3] => { results := [.lit (.bool true)], args := [d1, d2, d3] }
  | _ => none }
def fnExactGrindDayRow : OpenClaim := { program := "ytffpnngoafpidaa", sum := "68ed85ed4dde3e39a2ca715fa15f5858458e6227f43c495377bd0f0cbf6c9e4d", func := "loop.example/g01344/laws.FnExactGrindDay", spec := "fnExactGrindDay", unfollowed := true, recurses := true, apart := false }
def FnExactGrindDaySaid : Prop := fnExactGrindDayRow.holds Try.pinned (OpenSpec.ofChange fnExactGrindDaySpec)

/-- ITS FALSE NEIGHBOUR: 'it returns false'. Refute it at one input. -/
def fnExactGrindDayWrong : ChangeSpec := { name := "fnExactGrindDay", fn := fun _ => fun
  | [d1, d2, d3] => { results := [.lit (.bool false)], args := [d1, d2, d3] }
  | _ => none }
def FnExactGrindDayWrongFalsely : Prop := fnExactGrindDayRow.holds Try.pinned (OpenSpec.ofChange fnExactGrindDayWrong)

/-- 'laws.FnExactDressedDay': WHATEVER THE INPUT: true; the input reads as it did. -/
def fnExactDressedDaySpec : ChangeSpec := { name := "fnExactDressedDay", fn := fun _ => fun
  | [d1, d2, d3, d4] => { results := [.lit (.bool true)], args := [d1, d2, d3, d4] }
  | _ => none }
def fnExactDressedDayRow : OpenClaim := { program := "ytffpnngoafpidaa", sum := "68ed85ed4dde3e39a2ca715fa15f5858458e6227f43c495377bd0f0cbf6c9e4d", func := "loop.example/g01344/laws.FnExactDressedDay", spec := "fnExactDressedDay", unfollowed := true, recurses := true, apart := false }
def FnExactDressedDaySaid : Prop := fnExactDressedDayRow.holds Try.pinned (OpenSpec.ofChange fnExactDressedDaySpec)

/-- ITS FALSE NEIGHBOUR: 'it returns false'. Refute it at one input. -/
def fnExactDressedDayWrong : ChangeSpec := { name := "fnExactDressedDay", fn := fun _ => fun
  | [d1, d2, d3, d4] => { results := [.lit (.bool false)], args := [d1, d2, d3, d4] }
  | _ => none }
def FnExactDressedDayWrongFalsely : Prop := fnExactDressedDayRow.holds Try.pinned (OpenSpec.ofChange fnExactDressedDayWrong)

/-- 'laws.FnExactStoneText': WHATEVER THE INPUT: true; the input reads as it did. -/
def fnExactStoneTextSpec : ChangeSpec := { name := "fnExactStoneText", fn := fun _ => fun
  | [d] => { results := [.lit (.bool true)], args := [d] }
  | _ => none }
def fnExactStoneTextRow : OpenClaim := { program := "ytffpnngoafpidaa", sum := "68ed85ed4dde3e39a2ca715fa15f5858458e6227f43c495377bd0f0cbf6c9e4d", func := "loop.example/g01344/laws.FnExactStoneText", spec := "fnExactStoneText", inPlace := ["math.Float32bits", "internal/abi.NoEscape", "internal/bytealg.MakeNoZero"], apart := false }
def FnExactStoneTextSaid : Prop := fnExactStoneTextRow.holds Try.pinned (OpenSpec.ofChange fnExactStoneTextSpec)

/-- ITS FALSE NEIGHBOUR: 'it returns false'. Refute it at one input. -/
def fnExactStoneTextWrong : ChangeSpec := { name := "fnExactStoneText", fn := fun _ => fun
  | [d] => { results := [.lit (.bool false)], args := [d] }
  | _ => none }
def FnExactStoneTextWrongFalsely : Prop := fnExactStoneTextRow.holds Try.pinned (OpenSpec.ofChange fnExactStoneTextWrong)

/-- 'laws.FnDays': WHATEVER THE INPUT: true; the input reads as it did. -/
def fnDaysSpec : ChangeSpec := { name := "fnDays", fn := fun _ => fun
  | [d1, d2] => { results := [.lit (.bool true)], args := [d1, d2] }
  | _ => none }
def fnDaysRow : OpenClaim := { program := "ytffpnngoafpidaa", sum := "68ed85ed4dde3e39a2ca715fa15f5858458e6227f43c495377bd0f0cbf6c9e4d", func := "loop.example/g01344/laws.FnDays", spec := "fnDays", inPlace := ["math.Float32bits"], unfollowed := true, recurses := true, apart := false }
def FnDaysSaid : Prop := fnDaysRow.holds Try.pinned (OpenSpec.ofChange fnDaysSpec)

/-- ITS FALSE NEIGHBOUR: 'it returns false'. Refute it at one input. -/
def fnDaysWrong : ChangeSpec := { name := "fnDays", fn := fun _ => fun
  | [d1, d2] => { results := [.lit (.bool false)], args := [d1, d2] }
  | _ => none }
def FnDaysWrongFalsely : Prop := fnDaysRow.holds Try.pinned (OpenSpec.ofChange fnDaysWrong)

/- THE SECOND FORM. 'bulk': how many values and letters a reading holds, each counted each time it is reached (what is shared counts as often as it is met; a slice's spare places count too). A statement '..UptoSaid' is the law's where the arguments, and the package variables that the reading takes, are together of bulk at most 1048576: NARROWER than '..Said'. Prove '..Said' where nothing that the law and all that it calls make is longer than what came in: it says more and counts as full. Else prove '..UptoSaid'. A law counts once. -/
mutual
def uptoBulk {H : Type} : DataW H → Nat
  | .lit (.string bytes) => bytes.length + 1
  | .lit _ => 1
  | .nil => 1
  | .ptr d => uptoBulk d + 1
  | .slice elems spare => uptoBulkAll elems + uptoBulkAll spare + 1
  | .agg parts => uptoBulkAll parts + 1
  | .iface _ d => uptoBulk d + 1
  | .map entries => uptoBulkEntries entries + 1
  | .held _ => 1
def uptoBulkAll {H : Type} : List (DataW H) → Nat
  | [] => 0
  | d :: r => uptoBulk d + uptoBulkAll r
def uptoBulkEntries {H : Type} : List (Lit × DataW H) → Nat
  | [] => 0
  | x :: r => uptoBulkEntry x + uptoBulkEntries r
def uptoBulkEntry {H : Type} : Lit × DataW H → Nat
  | (.string bytes, d) => bytes.length + uptoBulk d + 1
  | (_, d) => uptoBulk d + 1
 end
def uptoSmall : (H : Type) → List (DataW H) → Bool := fun _ ds => decide (uptoBulkAll ds ≤ 1048576)
def OpenSpec.upto (s : _root_.Go.ChangeSpec) : _root_.Go.OpenSpec := { _root_.Go.OpenSpec.ofChange s with cond := some uptoSmall }

/-- 'laws.FnExactBestFeed', WHERE WHAT IT READS IS OF BULK AT MOST 1048576: true; the input reads as it did. -/
def fnExactBestFeedUptoRow : OpenClaim := { program := "ytffpnngoafpidaa", sum := "68ed85ed4dde3e39a2ca715fa15f5858458e6227f43c495377bd0f0cbf6c9e4d", func := "loop.example/g01344/laws.FnExactBestFeed", spec := "fnExactBestFeed", unfollowed := true, recurses := true, apart := false, narrowed := true }
def FnExactBestFeedUptoSaid : Prop := fnExactBestFeedUptoRow.holds Try.pinned (OpenSpec.upto fnExactBestFeedSpec)

/-- 'laws.FnExactShareTorque', WHERE WHAT IT READS IS OF BULK AT MOST 1048576: true; the input reads as it did. -/
def fnExactShareTorqueUptoRow : OpenClaim := { program := "ytffpnngoafpidaa", sum := "68ed85ed4dde3e39a2ca715fa15f5858458e6227f43c495377bd0f0cbf6c9e4d", func := "loop.example/g01344/laws.FnExactShareTorque", spec := "fnExactShareTorque", unfollowed := true, recurses := true, apart := false, narrowed := true }
def FnExactShareTorqueUptoSaid : Prop := fnExactShareTorqueUptoRow.holds Try.pinned (OpenSpec.upto fnExactShareTorqueSpec)

/-- 'laws.FnExactGrindDay', WHERE WHAT IT READS IS OF BULK AT MOST 1048576: true; the input reads as it did. -/
def fnExactGrindDayUptoRow : OpenClaim := { program := "ytffpnngoafpidaa", sum := "68ed85ed4dde3e39a2ca715fa15f5858458e6227f43c495377bd0f0cbf6c9e4d", func := "loop.example/g01344/laws.FnExactGrindDay", spec := "fnExactGrindDay", unfollowed := true, recurses := true, apart := false, narrowed := true }
def FnExactGrindDayUptoSaid : Prop := fnExactGrindDayUptoRow.holds Try.pinned (OpenSpec.upto fnExactGrindDaySpec)

/-- 'laws.FnExactDressedDay', WHERE WHAT IT READS IS OF BULK AT MOST 1048576: true; the input reads as it did. -/
def fnExactDressedDayUptoRow : OpenClaim := { program := "ytffpnngoafpidaa", sum := "68ed85ed4dde3e39a2ca715fa15f5858458e6227f43c495377bd0f0cbf6c9e4d", func := "loop.example/g01344/laws.FnExactDressedDay", spec := "fnExactDressedDay", unfollowed := true, recurses := true, apart := false, narrowed := true }
def FnExactDressedDayUptoSaid : Prop := fnExactDressedDayUptoRow.holds Try.pinned (OpenSpec.upto fnExactDressedDaySpec)

/-- 'laws.FnExactStoneText', WHERE WHAT IT READS IS OF BULK AT MOST 1048576: true; the input reads as it did. -/
def fnExactStoneTextUptoRow : OpenClaim := { program := "ytffpnngoafpidaa", sum := "68ed85ed4dde3e39a2ca715fa15f5858458e6227f43c495377bd0f0cbf6c9e4d", func := "loop.example/g01344/laws.FnExactStoneText", spec := "fnExactStoneText", inPlace := ["math.Float32bits", "internal/abi.NoEscape", "internal/bytealg.MakeNoZero"], apart := false, narrowed := true }
def FnExactStoneTextUptoSaid : Prop := fnExactStoneTextUptoRow.holds Try.pinned (OpenSpec.upto fnExactStoneTextSpec)

/-- 'laws.FnDays', WHERE WHAT IT READS IS OF BULK AT MOST 1048576: true; the input reads as it did. -/
def fnDaysUptoRow : OpenClaim := { program := "ytffpnngoafpidaa", sum := "68ed85ed4dde3e39a2ca715fa15f5858458e6227f43c495377bd0f0cbf6c9e4d", func := "loop.example/g01344/laws.FnDays", spec := "fnDays", inPlace := ["math.Float32bits"], unfollowed := true, recurses := true, apart := false, narrowed := true }
def FnDaysUptoSaid : Prop := fnDaysUptoRow.holds Try.pinned (OpenSpec.upto fnDaysSpec)

end Rows
end Go.Proofs.Ytffpnngoafpidaa
