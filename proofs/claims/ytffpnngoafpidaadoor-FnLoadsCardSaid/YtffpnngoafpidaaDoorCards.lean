/-
  DERIVED. GIVEN WITH THE SEED: THE CARDS: each row of YtffpnngoafpidaaDoorRows.lean that lists a variable, with what it lists TIED to the program's text (the seventh form; the later family's looks); each row that meets fmt, with fmt's text TOLD by the authors' own Lean function (tested against real Go, not proved from fmt's source: count such statements apart). THE CARD IS WHAT COUNTS. Prove the row's statement (the work); the ties are given (YtffpnngoafpidaaDoorTie.lean); close each card by the builder's one call (the guide's Derived/Test/ToyasCard.lean, 'card_holds'). Laid BY PROGRAM, IN A SANDBOX (cutbox-door.mjs). By AI agents, Wed Nov 11 2026. No macro, syntax, notation, axiom, sorry.
-/
import Derived.Test.YtffpnngoafpidaaDoorRows
import GoSem.ClaimSeven
namespace Go.Proofs.YtffpnngoafpidaaDoor
namespace Rows

/-- THE TIED CARD OF 'laws.FnExactReadStone'. -/
def fnExactReadStoneCard : Claim7 := { stood := { row := fnExactReadStoneRow, standIns := [], harness := (true, "f8031b6d4ac3e4ac26991495f43953a0ff5c00cbefcaa4b7833c4c7845b57688"), looks := false }, kinds := [], alts := [], laidByText := true, laidKinds := [.data, .pinned], laidTests := true, laidLooks := .later }
def FnExactReadStoneCardSaid : Prop := Claim7.holds Tryd.pinned (.plain (OpenSpec.ofChange fnExactReadStoneSpec)) fnExactReadStoneCard

/-- THE TIED CARD OF 'laws.FnLoads'. -/
def fnLoadsCard : Claim7 := { stood := { row := fnLoadsRow, standIns := [], harness := (true, "f8031b6d4ac3e4ac26991495f43953a0ff5c00cbefcaa4b7833c4c7845b57688"), looks := false }, kinds := [], alts := [], laidByText := true, laidKinds := [.data, .pinned], laidTests := true, laidLooks := .later }
def FnLoadsCardSaid : Prop := Claim7.holds Tryd.pinned (.plain (OpenSpec.ofChange fnLoadsSpec)) fnLoadsCard

/-- THE SECOND FORM's CARD OF 'laws.FnExactReadStone'. -/
def fnExactReadStoneUptoCard : Claim7 := { stood := { row := fnExactReadStoneUptoRow, standIns := [], harness := (true, "f8031b6d4ac3e4ac26991495f43953a0ff5c00cbefcaa4b7833c4c7845b57688"), looks := false }, kinds := [], alts := [], laidByText := true, laidKinds := [.data, .pinned], laidTests := true, laidLooks := .later }
def FnExactReadStoneUptoCardSaid : Prop := Claim7.holds Tryd.pinned (.plain (OpenSpec.upto fnExactReadStoneSpec)) fnExactReadStoneUptoCard

/-- THE SECOND FORM's CARD OF 'laws.FnLoads'. -/
def fnLoadsUptoCard : Claim7 := { stood := { row := fnLoadsUptoRow, standIns := [], harness := (true, "f8031b6d4ac3e4ac26991495f43953a0ff5c00cbefcaa4b7833c4c7845b57688"), looks := false }, kinds := [], alts := [], laidByText := true, laidKinds := [.data, .pinned], laidTests := true, laidLooks := .later }
def FnLoadsUptoCardSaid : Prop := Claim7.holds Tryd.pinned (.plain (OpenSpec.upto fnLoadsSpec)) fnLoadsUptoCard
end Rows
end Go.Proofs.YtffpnngoafpidaaDoor
