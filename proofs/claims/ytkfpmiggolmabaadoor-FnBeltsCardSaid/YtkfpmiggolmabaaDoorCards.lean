/-
  DERIVED. GIVEN WITH THE SEED: THE CARDS: each row of YtkfpmiggolmabaaDoorRows.lean that lists a variable, with what it lists TIED to the program's text (the seventh form; the later family's looks); each row that meets fmt, with fmt's text TOLD by the authors' own Lean function (tested against real Go, not proved from fmt's source: count such statements apart). THE CARD IS WHAT COUNTS. Prove the row's statement (the work); the ties are given (YtkfpmiggolmabaaDoorTie.lean); close each card by the builder's one call (the guide's Derived/Test/ToyasCard.lean, 'card_holds'). Laid BY PROGRAM, IN A SANDBOX (cutbox-door.mjs). By AI agents, Wed Nov 11 2026. No macro, syntax, notation, axiom, sorry.
-/
import Derived.Test.YtkfpmiggolmabaaDoorRows
import GoSem.ClaimSeven
namespace Go.Proofs.YtkfpmiggolmabaaDoor
namespace Rows

/-- THE TIED CARD OF 'laws.FnBelts'. -/
def fnBeltsCard : Claim7 := { stood := { row := fnBeltsRow, standIns := [], harness := (true, "588299af298bcacf27d851e63c966804ce1ee8e47e41f69451eab83478e7429e"), looks := false }, kinds := [], alts := [], laidByText := true, laidKinds := [.data, .pinned], laidTests := true, laidLooks := .later }
def FnBeltsCardSaid : Prop := Claim7.holds Tryd.pinned (.plain (OpenSpec.ofChange fnBeltsSpec)) fnBeltsCard

/-- THE SECOND FORM's CARD OF 'laws.FnBelts'. -/
def fnBeltsUptoCard : Claim7 := { stood := { row := fnBeltsUptoRow, standIns := [], harness := (true, "588299af298bcacf27d851e63c966804ce1ee8e47e41f69451eab83478e7429e"), looks := false }, kinds := [], alts := [], laidByText := true, laidKinds := [.data, .pinned], laidTests := true, laidLooks := .later }
def FnBeltsUptoCardSaid : Prop := Claim7.holds Tryd.pinned (.plain (OpenSpec.upto fnBeltsSpec)) fnBeltsUptoCard
end Rows
end Go.Proofs.YtkfpmiggolmabaaDoor
