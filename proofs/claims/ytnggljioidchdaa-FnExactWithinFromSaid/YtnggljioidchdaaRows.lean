/-
  No cell of these rows narrows 'for every input' (looked for: loops, veiled, ifaces, maps, wideKeys, modest, calm, conditions, laid).
  DERIVED. THE GIVEN ROWS OF THIS SEAT. 12 by the template 'for every input the law returns true; each argument reads behind the call as it read before'; 0 by the template 'total and deterministic' (their statements: YtnggljioidchdaaTotals.lean).
  GIVEN WITH THE SEED: the statements are not yours to turn. If you find one false, say at which input.
  Laid BY PROGRAM, IN A SANDBOX (cutbox-rows.mjs): the forced cells as the released guide's own fill.sh prints them over the translation 8124ac51bd7ca580… (all of the seat's roots in one cut). By AI agents, Wed Nov 11 2026. No macro, syntax, notation, axiom, sorry.
-/
import Derived.Test.YtnggljioidchdaaChecked
import GoSem.Claim
import GoSem.ClaimJoined
import GoSem.ClaimMapViews
import Derived.JoinedTies
import Derived.KernelRfl
namespace Go.Proofs.Ytnggljioidchdaa
/- THE CELL 'sum', in the pinned program and in every row, IS THE sha256 OF THE DUMP (.gsa) THAT YtnggljioidchdaaProg.lean LOADS. Nothing in Lean hashes anything: it is a label: what it is worth is what the hold of that sum in a sandbox is worth. -/
noncomputable def Try.pinned : Pinned := { name := "ytnggljioidchdaa", sum := "8124ac51bd7ca580c467dfe1864247a463f14f7b765a1952efae7caf9fca4709", checked := Try.checked }
namespace Rows
def none {H : Type} : Left H := { results := [], args := [] }

/-- 'laws.FnExactTorqueFrom': WHATEVER THE INPUT: true; the input reads as it did. -/
def fnExactTorqueFromSpec : ChangeSpec := { name := "fnExactTorqueFrom", fn := fun _ => fun
  | [d1, d2, d3] => { results := [.lit (.bool true)], args := [d1, d2, d3] }
  | _ => none }
def fnExactTorqueFromRow : OpenClaim := { program := "ytnggljioidchdaa", sum := "8124ac51bd7ca580c467dfe1864247a463f14f7b765a1952efae7caf9fca4709", func := "loop.example/g01344/laws.FnExactTorqueFrom", spec := "fnExactTorqueFrom", apart := false }
def FnExactTorqueFromSaid : Prop := fnExactTorqueFromRow.holds Try.pinned (OpenSpec.ofChange fnExactTorqueFromSpec)

/-- ITS FALSE NEIGHBOUR: 'it returns false'. Refute it at one input. -/
def fnExactTorqueFromWrong : ChangeSpec := { name := "fnExactTorqueFrom", fn := fun _ => fun
  | [d1, d2, d3] => { results := [.lit (.bool false)], args := [d1, d2, d3] }
  | _ => none }
def FnExactTorqueFromWrongFalsely : Prop := fnExactTorqueFromRow.holds Try.pinned (OpenSpec.ofChange fnExactTorqueFromWrong)

/-- 'laws.FnExactSpilledBy': WHATEVER THE INPUT: true; the input reads as it did. -/
def fnExactSpilledBySpec : ChangeSpec := { name := "fnExactSpilledBy", fn := fun _ => fun
  | [d1, d2, d3] => { results := [.lit (.bool true)], args := [d1, d2, d3] }
  | _ => none }
def fnExactSpilledByRow : OpenClaim := { program := "ytnggljioidchdaa", sum := "8124ac51bd7ca580c467dfe1864247a463f14f7b765a1952efae7caf9fca4709", func := "loop.example/g01344/laws.FnExactSpilledBy", spec := "fnExactSpilledBy", apart := false }
def FnExactSpilledBySaid : Prop := fnExactSpilledByRow.holds Try.pinned (OpenSpec.ofChange fnExactSpilledBySpec)

/-- ITS FALSE NEIGHBOUR: 'it returns false'. Refute it at one input. -/
def fnExactSpilledByWrong : ChangeSpec := { name := "fnExactSpilledBy", fn := fun _ => fun
  | [d1, d2, d3] => { results := [.lit (.bool false)], args := [d1, d2, d3] }
  | _ => none }
def FnExactSpilledByWrongFalsely : Prop := fnExactSpilledByRow.holds Try.pinned (OpenSpec.ofChange fnExactSpilledByWrong)

/-- 'laws.FnExactWaterSpeed': WHATEVER THE INPUT: true; the input reads as it did. -/
def fnExactWaterSpeedSpec : ChangeSpec := { name := "fnExactWaterSpeed", fn := fun _ => fun
  | [d] => { results := [.lit (.bool true)], args := [d] }
  | _ => none }
def fnExactWaterSpeedRow : OpenClaim := { program := "ytnggljioidchdaa", sum := "8124ac51bd7ca580c467dfe1864247a463f14f7b765a1952efae7caf9fca4709", func := "loop.example/g01344/laws.FnExactWaterSpeed", spec := "fnExactWaterSpeed", inPlace := ["math.sqrt"], apart := false }
def FnExactWaterSpeedSaid : Prop := fnExactWaterSpeedRow.holds Try.pinned (OpenSpec.ofChange fnExactWaterSpeedSpec)

/-- ITS FALSE NEIGHBOUR: 'it returns false'. Refute it at one input. -/
def fnExactWaterSpeedWrong : ChangeSpec := { name := "fnExactWaterSpeed", fn := fun _ => fun
  | [d] => { results := [.lit (.bool false)], args := [d] }
  | _ => none }
def FnExactWaterSpeedWrongFalsely : Prop := fnExactWaterSpeedRow.holds Try.pinned (OpenSpec.ofChange fnExactWaterSpeedWrong)

/-- 'laws.FnExactFlowThrough': WHATEVER THE INPUT: true; the input reads as it did. -/
def fnExactFlowThroughSpec : ChangeSpec := { name := "fnExactFlowThrough", fn := fun _ => fun
  | [d1, d2, d3] => { results := [.lit (.bool true)], args := [d1, d2, d3] }
  | _ => none }
def fnExactFlowThroughRow : OpenClaim := { program := "ytnggljioidchdaa", sum := "8124ac51bd7ca580c467dfe1864247a463f14f7b765a1952efae7caf9fca4709", func := "loop.example/g01344/laws.FnExactFlowThrough", spec := "fnExactFlowThrough", inPlace := ["math.sqrt"], apart := false }
def FnExactFlowThroughSaid : Prop := fnExactFlowThroughRow.holds Try.pinned (OpenSpec.ofChange fnExactFlowThroughSpec)

/-- ITS FALSE NEIGHBOUR: 'it returns false'. Refute it at one input. -/
def fnExactFlowThroughWrong : ChangeSpec := { name := "fnExactFlowThrough", fn := fun _ => fun
  | [d1, d2, d3] => { results := [.lit (.bool false)], args := [d1, d2, d3] }
  | _ => none }
def FnExactFlowThroughWrongFalsely : Prop := fnExactFlowThroughRow.holds Try.pinned (OpenSpec.ofChange fnExactFlowThroughWrong)

/-- 'laws.FnExactGateBehind': WHATEVER THE INPUT: true; the input reads as it did. -/
def fnExactGateBehindSpec : ChangeSpec := { name := "fnExactGateBehind", fn := fun _ => fun
  | [d1, d2] => { results := [.lit (.bool true)], args := [d1, d2] }
  | _ => none }
def fnExactGateBehindRow : OpenClaim := { program := "ytnggljioidchdaa", sum := "8124ac51bd7ca580c467dfe1864247a463f14f7b765a1952efae7caf9fca4709", func := "loop.example/g01344/laws.FnExactGateBehind", spec := "fnExactGateBehind", unfollowed := true, recurses := true, apart := false }
def FnExactGateBehindSaid : Prop := fnExactGateBehindRow.holds Try.pinned (OpenSpec.ofChange fnExactGateBehindSpec)

/-- ITS FALSE NEIGHBOUR: 'it returns false'. Refute it at one input. -/
def fnExactGateBehindWrong : ChangeSpec := { name := "fnExactGateBehind", fn := fun _ => fun
  | [d1, d2] => { results := [.lit (.bool false)], args := [d1, d2] }
  | _ => none }
def FnExactGateBehindWrongFalsely : Prop := fnExactGateBehindRow.holds Try.pinned (OpenSpec.ofChange fnExactGateBehindWrong)

/-- 'laws.FnExactLeastGate': WHATEVER THE INPUT: true; the input reads as it did. -/
def fnExactLeastGateSpec : ChangeSpec := { name := "fnExactLeastGate", fn := fun _ => fun
  | [d1, d2, d3] => { results := [.lit (.bool true)], args := [d1, d2, d3] }
  | _ => none }
def fnExactLeastGateRow : OpenClaim := { program := "ytnggljioidchdaa", sum := "8124ac51bd7ca580c467dfe1864247a463f14f7b765a1952efae7caf9fca4709", func := "loop.example/g01344/laws.FnExactLeastGate", spec := "fnExactLeastGate", inPlace := ["math.sqrt"], apart := false }
def FnExactLeastGateSaid : Prop := fnExactLeastGateRow.holds Try.pinned (OpenSpec.ofChange fnExactLeastGateSpec)

/-- ITS FALSE NEIGHBOUR: 'it returns false'. Refute it at one input. -/
def fnExactLeastGateWrong : ChangeSpec := { name := "fnExactLeastGate", fn := fun _ => fun
  | [d1, d2, d3] => { results := [.lit (.bool false)], args := [d1, d2, d3] }
  | _ => none }
def FnExactLeastGateWrongFalsely : Prop := fnExactLeastGateRow.holds Try.pinned (OpenSpec.ofChange fnExactLeastGateWrong)

/-- 'laws.FnExactBestGate': WHATEVER THE INPUT: true; the input reads as it did. -/
def fnExactBestGateSpec : ChangeSpec := { name := "fnExactBestGate", fn := fun _ => fun
  | [d1, d2, d3] => { results := [.lit (.bool true)], args := [d1, d2, d3] }
  | _ => none }
def fnExactBestGateRow : OpenClaim := { program := "ytnggljioidchdaa", sum := "8124ac51bd7ca580c467dfe1864247a463f14f7b765a1952efae7caf9fca4709", func := "loop.example/g01344/laws.FnExactBestGate", spec := "fnExactBestGate", inPlace := ["math.sqrt"], apart := false }
def FnExactBestGateSaid : Prop := fnExactBestGateRow.holds Try.pinned (OpenSpec.ofChange fnExactBestGateSpec)

/-- ITS FALSE NEIGHBOUR: 'it returns false'. Refute it at one input. -/
def fnExactBestGateWrong : ChangeSpec := { name := "fnExactBestGate", fn := fun _ => fun
  | [d1, d2, d3] => { results := [.lit (.bool false)], args := [d1, d2, d3] }
  | _ => none }
def FnExactBestGateWrongFalsely : Prop := fnExactBestGateRow.holds Try.pinned (OpenSpec.ofChange fnExactBestGateWrong)

/-- 'laws.FnExactTorqueAt': WHATEVER THE INPUT: true; the input reads as it did. -/
def fnExactTorqueAtSpec : ChangeSpec := { name := "fnExactTorqueAt", fn := fun _ => fun
  | [d1, d2] => { results := [.lit (.bool true)], args := [d1, d2] }
  | _ => none }
def fnExactTorqueAtRow : OpenClaim := { program := "ytnggljioidchdaa", sum := "8124ac51bd7ca580c467dfe1864247a463f14f7b765a1952efae7caf9fca4709", func := "loop.example/g01344/laws.FnExactTorqueAt", spec := "fnExactTorqueAt", inPlace := ["math.sqrt"], unfollowed := true, recurses := true, apart := false }
def FnExactTorqueAtSaid : Prop := fnExactTorqueAtRow.holds Try.pinned (OpenSpec.ofChange fnExactTorqueAtSpec)

/-- ITS FALSE NEIGHBOUR: 'it returns false'. Refute it at one input. -/
def fnExactTorqueAtWrong : ChangeSpec := { name := "fnExactTorqueAt", fn := fun _ => fun
  | [d1, d2] => { results := [.lit (.bool false)], args := [d1, d2] }
  | _ => none }
def FnExactTorqueAtWrongFalsely : Prop := fnExactTorqueAtRow.holds Try.pinned (OpenSpec.ofChange fnExactTorqueAtWrong)

/-- 'laws.FnExactTickOnce': WHATEVER THE INPUT: true; the input reads as it did. -/
def fnExactTickOnceSpec : ChangeSpec := { name := "fnExactTickOnce", fn := fun _ => fun
  | [d1, d2, d3] => { results := [.lit (.bool true)], args := [d1, d2, d3] }
  | _ => none }
def fnExactTickOnceRow : OpenClaim := { program := "ytnggljioidchdaa", sum := "8124ac51bd7ca580c467dfe1864247a463f14f7b765a1952efae7caf9fca4709", func := "loop.example/g01344/laws.FnExactTickOnce", spec := "fnExactTickOnce", inPlace := ["math.sqrt"], unfollowed := true, recurses := true, apart := false }
def FnExactTickOnceSaid : Prop := fnExactTickOnceRow.holds Try.pinned (OpenSpec.ofChange fnExactTickOnceSpec)

/-- ITS FALSE NEIGHBOUR: 'it returns false'. Refute it at one input. -/
def fnExactTickOnceWrong : ChangeSpec := { name := "fnExactTickOnce", fn := fun _ => fun
  | [d1, d2, d3] => { results := [.lit (.bool false)], args := [d1, d2, d3] }
  | _ => none }
def FnExactTickOnceWrongFalsely : Prop := fnExactTickOnceRow.holds Try.pinned (OpenSpec.ofChange fnExactTickOnceWrong)

/-- 'laws.FnExactSteadyFrom': WHATEVER THE INPUT: true; the input reads as it did. -/
def fnExactSteadyFromSpec : ChangeSpec := { name := "fnExactSteadyFrom", fn := fun _ => fun
  | [d1, d2, d3] => { results := [.lit (.bool true)], args := [d1, d2, d3] }
  | _ => none }
def fnExactSteadyFromRow : OpenClaim := { program := "ytnggljioidchdaa", sum := "8124ac51bd7ca580c467dfe1864247a463f14f7b765a1952efae7caf9fca4709", func := "loop.example/g01344/laws.FnExactSteadyFrom", spec := "fnExactSteadyFrom", inPlace := ["math.sqrt", "math.Float32bits"], unfollowed := true, recurses := true, apart := false }
def FnExactSteadyFromSaid : Prop := fnExactSteadyFromRow.holds Try.pinned (OpenSpec.ofChange fnExactSteadyFromSpec)

/-- ITS FALSE NEIGHBOUR: 'it returns false'. Refute it at one input. -/
def fnExactSteadyFromWrong : ChangeSpec := { name := "fnExactSteadyFrom", fn := fun _ => fun
  | [d1, d2, d3] => { results := [.lit (.bool false)], args := [d1, d2, d3] }
  | _ => none }
def FnExactSteadyFromWrongFalsely : Prop := fnExactSteadyFromRow.holds Try.pinned (OpenSpec.ofChange fnExactSteadyFromWrong)

/-- 'laws.FnExactWithinFrom': WHATEVER THE INPUT: true; the input reads as it did. -/
def fnExactWithinFromSpec : ChangeSpec := { name := "fnExactWithinFrom", fn := fun _ => fun
  | [d1, d2, d3] => { results := [.lit (.bool true)], args := [d1, d2, d3] }
  | _ => none }
def fnExactWithinFromRow : OpenClaim := { program := "ytnggljioidchdaa", sum := "8124ac51bd7ca580c467dfe1864247a463f14f7b765a1952efae7caf9fca4709", func := "loop.example/g01344/laws.FnExactWithinFrom", spec := "fnExactWithinFrom", inPlace := ["math.sqrt"], unfollowed := true, recurses := true, apart := false }
def FnExactWithinFromSaid : Prop := fnExactWithinFromRow.holds Try.pinned (OpenSpec.ofChange fnExactWithinFromSpec)

/-- ITS FALSE NEIGHBOUR: 'it returns false'. Refute it at one input. -/
def fnExactWithinFromWrong : ChangeSpec := { name := "fnExactWithinFrom", fn := fun _ => fun
  | [d1, d2, d3] => { results := [.lit (.bool false)], args := [d1, d2, d3] }
  | _ => none }
def FnExactWithinFromWrongFalsely : Prop := fnExactWithinFromRow.holds Try.pinned (OpenSpec.ofChange fnExactWithinFromWrong)

/-- 'laws.FnExactTickAll': WHATEVER THE INPUT: true; the input reads as it did. -/
def fnExactTickAllSpec : ChangeSpec := { name := "fnExactTickAll", fn := fun _ => fun
  | [d1, d2, d3] => { results := [.lit (.bool true)], args := [d1, d2, d3] }
  | _ => none }
def fnExactTickAllRow : OpenClaim := { program := "ytnggljioidchdaa", sum := "8124ac51bd7ca580c467dfe1864247a463f14f7b765a1952efae7caf9fca4709", func := "loop.example/g01344/laws.FnExactTickAll", spec := "fnExactTickAll", inPlace := ["math.sqrt"], unfollowed := true, recurses := true, apart := false }
def FnExactTickAllSaid : Prop := fnExactTickAllRow.holds Try.pinned (OpenSpec.ofChange fnExactTickAllSpec)

/-- ITS FALSE NEIGHBOUR: 'it returns false'. Refute it at one input. -/
def fnExactTickAllWrong : ChangeSpec := { name := "fnExactTickAll", fn := fun _ => fun
  | [d1, d2, d3] => { results := [.lit (.bool false)], args := [d1, d2, d3] }
  | _ => none }
def FnExactTickAllWrongFalsely : Prop := fnExactTickAllRow.holds Try.pinned (OpenSpec.ofChange fnExactTickAllWrong)

/- THE SECOND FORM. 'bulk': how many values and letters a reading holds, each counted each time it is reached (what is shared counts as often as it is met; a slice's spare places count too). A statement '..UptoSaid' is the law's where the arguments, and the package variables that the reading takes, are together of bulk at most 1048576: NARROWER than '..Said'. Prove '..Said' where nothing that the law and all that it calls make is longer than what came in: it says more and counts as full. Else prove '..UptoSaid'. A law counts once. -/
mutual
def uptoBulk {H : Type} : DataW H → Nat
  | .lit (.string bytes) => bytes.length + 1
  | .lit _ => 1
  | .nil => 1
  | .ptr d => uptoBulk d + 1
  | .slice elems spare => uptoBulkAll elems + uptoBulkAll spare + 1
  | .agg parts => uptoBulkAll parts + 1
  | .iface _ d => uptoBulk d + 1
  | .map entries => uptoBulkEntries entries + 1
  | .held _ => 1
def uptoBulkAll {H : Type} : List (DataW H) → Nat
  | [] => 0
  | d :: r => uptoBulk d + uptoBulkAll r
def uptoBulkEntries {H : Type} : List (Lit × DataW H) → Nat
  | [] => 0
  | x :: r => uptoBulkEntry x + uptoBulkEntries r
def uptoBulkEntry {H : Type} : Lit × DataW H → Nat
  | (.string bytes, d) => bytes.length + uptoBulk d + 1
  | (_, d) => uptoBulk d + 1
 end
def uptoSmall : (H : Type) → List (DataW H) → Bool := fun _ ds => decide (uptoBulkAll ds ≤ 1048576)
def OpenSpec.upto (s : _root_.Go.ChangeSpec) : _root_.Go.OpenSpec := { _root_.Go.OpenSpec.ofChange s with cond := some uptoSmall }

/-- 'laws.FnExactTorqueFrom', WHERE WHAT IT READS IS OF BULK AT MOST 1048576: true; the input reads as it did. -/
def fnExactTorqueFromUptoRow : OpenClaim := { program := "ytnggljioidchdaa", sum := "8124ac51bd7ca580c467dfe1864247a463f14f7b765a1952efae7caf9fca4709", func := "loop.example/g01344/laws.FnExactTorqueFrom", spec := "fnExactTorqueFrom", apart := false, narrowed := true }
def FnExactTorqueFromUptoSaid : Prop := fnExactTorqueFromUptoRow.holds Try.pinned (OpenSpec.upto fnExactTorqueFromSpec)

/-- 'laws.FnExactSpilledBy', WHERE WHAT IT READS IS OF BULK AT MOST 1048576: true; the input reads as it did. -/
def fnExactSpilledByUptoRow : OpenClaim := { program := "ytnggljioidchdaa", sum := "8124ac51bd7ca580c467dfe1864247a463f14f7b765a1952efae7caf9fca4709", func := "loop.example/g01344/laws.FnExactSpilledBy", spec := "fnExactSpilledBy", apart := false, narrowed := true }
def FnExactSpilledByUptoSaid : Prop := fnExactSpilledByUptoRow.holds Try.pinned (OpenSpec.upto fnExactSpilledBySpec)

/-- 'laws.FnExactWaterSpeed', WHERE WHAT IT READS IS OF BULK AT MOST 1048576: true; the input reads as it did. -/
def fnExactWaterSpeedUptoRow : OpenClaim := { program := "ytnggljioidchdaa", sum := "8124ac51bd7ca580c467dfe1864247a463f14f7b765a1952efae7caf9fca4709", func := "loop.example/g01344/laws.FnExactWaterSpeed", spec := "fnExactWaterSpeed", inPlace := ["math.sqrt"], apart := false, narrowed := true }
def FnExactWaterSpeedUptoSaid : Prop := fnExactWaterSpeedUptoRow.holds Try.pinned (OpenSpec.upto fnExactWaterSpeedSpec)

/-- 'laws.FnExactFlowThrough', WHERE WHAT IT READS IS OF BULK AT MOST 1048576: true; the input reads as it did. -/
def fnExactFlowThroughUptoRow : OpenClaim := { program := "ytnggljioidchdaa", sum := "8124ac51bd7ca580c467dfe1864247a463f14f7b765a1952efae7caf9fca4709", func := "loop.example/g01344/laws.FnExactFlowThrough", spec := "fnExactFlowThrough", inPlace := ["math.sqrt"], apart := false, narrowed := true }
def FnExactFlowThroughUptoSaid : Prop := fnExactFlowThroughUptoRow.holds Try.pinned (OpenSpec.upto fnExactFlowThroughSpec)

/-- 'laws.FnExactGateBehind', WHERE WHAT IT READS IS OF BULK AT MOST 1048576: true; the input reads as it did. -/
def fnExactGateBehindUptoRow : OpenClaim := { program := "ytnggljioidchdaa", sum := "8124ac51bd7ca580c467dfe1864247a463f14f7b765a1952efae7caf9fca4709", func := "loop.example/g01344/laws.FnExactGateBehind", spec := "fnExactGateBehind", unfollowed := true, recurses := true, apart := false, narrowed := true }
def FnExactGateBehindUptoSaid : Prop := fnExactGateBehindUptoRow.holds Try.pinned (OpenSpec.upto fnExactGateBehindSpec)

/-- 'laws.FnExactLeastGate', WHERE WHAT IT READS IS OF BULK AT MOST 1048576: true; the input reads as it did. -/
def fnExactLeastGateUptoRow : OpenClaim := { program := "ytnggljioidchdaa", sum := "8124ac51bd7ca580c467dfe1864247a463f14f7b765a1952efae7caf9fca4709", func := "loop.example/g01344/laws.FnExactLeastGate", spec := "fnExactLeastGate", inPlace := ["math.sqrt"], apart := false, narrowed := true }
def FnExactLeastGateUptoSaid : Prop := fnExactLeastGateUptoRow.holds Try.pinned (OpenSpec.upto fnExactLeastGateSpec)

/-- 'laws.FnExactBestGate', WHERE WHAT IT READS IS OF BULK AT MOST 1048576: true; the input reads as it did. -/
def fnExactBestGateUptoRow : OpenClaim := { program := "ytnggljioidchdaa", sum := "8124ac51bd7ca580c467dfe1864247a463f14f7b765a1952efae7caf9fca4709", func := "loop.example/g01344/laws.FnExactBestGate", spec := "fnExactBestGate", inPlace := ["math.sqrt"], apart := false, narrowed := true }
def FnExactBestGateUptoSaid : Prop := fnExactBestGateUptoRow.holds Try.pinned (OpenSpec.upto fnExactBestGateSpec)

/-- 'laws.FnExactTorqueAt', WHERE WHAT IT READS IS OF BULK AT MOST 1048576: true; the input reads as it did. -/
def fnExactTorqueAtUptoRow : OpenClaim := { program := "ytnggljioidchdaa", sum := "8124ac51bd7ca580c467dfe1864247a463f14f7b765a1952efae7caf9fca4709", func := "loop.example/g01344/laws.FnExactTorqueAt", spec := "fnExactTorqueAt", inPlace := ["math.sqrt"], unfollowed := true, recurses := true, apart := false, narrowed := true }
def FnExactTorqueAtUptoSaid : Prop := fnExactTorqueAtUptoRow.holds Try.pinned (OpenSpec.upto fnExactTorqueAtSpec)

/-- 'laws.FnExactTickOnce', WHERE WHAT IT READS IS OF BULK AT MOST 1048576: true; the input reads as it did. -/
def fnExactTickOnceUptoRow : OpenClaim := { program := "ytnggljioidchdaa", sum := "8124ac51bd7ca580c467dfe1864247a463f14f7b765a1952efae7caf9fca4709", func := "loop.example/g01344/laws.FnExactTickOnce", spec := "fnExactTickOnce", inPlace := ["math.sqrt"], unfollowed := true, recurses := true, apart := false, narrowed := true }
def FnExactTickOnceUptoSaid : Prop := fnExactTickOnceUptoRow.holds Try.pinned (OpenSpec.upto fnExactTickOnceSpec)

/-- 'laws.FnExactSteadyFrom', WHERE WHAT IT READS IS OF BULK AT MOST 1048576: true; the input reads as it did. -/
def fnExactSteadyFromUptoRow : OpenClaim := { program := "ytnggljioidchdaa", sum := "8124ac51bd7ca580c467dfe1864247a463f14f7b765a1952efae7caf9fca4709", func := "loop.example/g01344/laws.FnExactSteadyFrom", spec := "fnExactSteadyFrom", inPlace := ["math.sqrt", "math.Float32bits"], unfollowed := true, recurses := true, apart := false, narrowed := true }
def FnExactSteadyFromUptoSaid : Prop := fnExactSteadyFromUptoRow.holds Try.pinned (OpenSpec.upto fnExactSteadyFromSpec)

/-- 'laws.FnExactWithinFrom', WHERE WHAT IT READS IS OF BULK AT MOST 1048576: true; the input reads as it did. -/
def fnExactWithinFromUptoRow : OpenClaim := { program := "ytnggljioidchdaa", sum := "8124ac51bd7ca580c467dfe1864247a463f14f7b765a1952efae7caf9fca4709", func := "loop.example/g01344/laws.FnExactWithinFrom", spec := "fnExactWithinFrom", inPlace := ["math.sqrt"], unfollowed := true, recurses := true, apart := false, narrowed := true }
def FnExactWithinFromUptoSaid : Prop := fnExactWithinFromUptoRow.holds Try.pinned (OpenSpec.upto fnExactWithinFromSpec)

/-- 'laws.FnExactTickAll', WHERE WHAT IT READS IS OF BULK AT MOST 1048576: true; the input reads as it did. -/
def fnExactTickAllUptoRow : OpenClaim := { program := "ytnggljioidchdaa", sum := "8124ac51bd7ca580c467dfe1864247a463f14f7b765a1952efae7caf9fca4709", func := "loop.example/g01344/laws.FnExactTickAll", spec := "fnExactTickAll", inPlace := ["math.sqrt"], unfollowed := true, recurses := true, apart := false, narrowed := true }
def FnExactTickAllUptoSaid : Prop := fnExactTickAllUptoRow.holds Try.pinned (OpenSpec.upto fnExactTickAllSpec)

end Rows
end Go.Proofs.Ytnggljioidchdaa
