/-
  DERIVED. GIVEN WITH THE SEED: THE CARDS: each row of YtccdbfmfdhhgfaaGreatDoorRows.lean that lists a variable, with what it lists TIED to the program's text (the seventh form; the later family's looks); each row that meets fmt, with fmt's text TOLD by the authors' own Lean function (tested against real Go, not proved from fmt's source: count such statements apart). THE CARD IS WHAT COUNTS. Prove the row's statement (the work); the ties are given (YtccdbfmfdhhgfaaGreatDoorTie.lean); close each card by the builder's one call (the guide's Derived/Test/ToyasCard.lean, 'card_holds'). Laid BY PROGRAM, IN A SANDBOX (cutbox-door.mjs). By AI agents, Wed Nov 11 2026. No macro, syntax, notation, axiom, sorry.
-/
import Derived.Test.YtccdbfmfdhhgfaaGreatDoorRows
import GoSem.ClaimSeven
namespace Go.Proofs.YtccdbfmfdhhgfaaGreatDoor
namespace Rows

/-- THE TIED CARD OF 'laws.FnWater'. -/
def fnWaterCard : Claim7 := { stood := { row := fnWaterRow, standIns := [], harness := (true, "cf08e756bc43a7560c1bab5f1266af0d6e09560ed43f2e40f5e419d699153104"), looks := true }, kinds := [], alts := [], laidByText := true, laidKinds := [.data, .data, .data, .data, .sentinel, .sentinel, .pinned], laidTests := true, laidLooks := .later }
def FnWaterCardSaid : Prop := Claim7.holds Tryz.pinned (.plain (OpenSpec.ofChange fnWaterSpec)) fnWaterCard

/-- THE SECOND FORM's CARD OF 'laws.FnWater'. -/
def fnWaterUptoCard : Claim7 := { stood := { row := fnWaterUptoRow, standIns := [], harness := (true, "cf08e756bc43a7560c1bab5f1266af0d6e09560ed43f2e40f5e419d699153104"), looks := true }, kinds := [], alts := [], laidByText := true, laidKinds := [.data, .data, .data, .data, .sentinel, .sentinel, .pinned], laidTests := true, laidLooks := .later }
def FnWaterUptoCardSaid : Prop := Claim7.holds Tryz.pinned (.plain (OpenSpec.upto fnWaterSpec)) fnWaterUptoCard
end Rows
end Go.Proofs.YtccdbfmfdhhgfaaGreatDoor
