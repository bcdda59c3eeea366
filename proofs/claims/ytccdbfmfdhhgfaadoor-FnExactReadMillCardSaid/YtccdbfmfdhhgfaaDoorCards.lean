/-
  DERIVED. GIVEN WITH THE SEED: THE CARDS: each row of YtccdbfmfdhhgfaaDoorRows.lean that lists a variable, with what it lists TIED to the program's text (the seventh form; the later family's looks); each row that meets fmt, with fmt's text TOLD by the authors' own Lean function (tested against real Go, not proved from fmt's source: count such statements apart). THE CARD IS WHAT COUNTS. Prove the row's statement (the work); the ties are given (YtccdbfmfdhhgfaaDoorTie.lean); close each card by the builder's one call (the guide's Derived/Test/ToyasCard.lean, 'card_holds'). Laid BY PROGRAM, IN A SANDBOX (cutbox-door.mjs). By AI agents, Wed Nov 11 2026. No macro, syntax, notation, axiom, sorry.
-/
import Derived.Test.YtccdbfmfdhhgfaaDoorRows
import GoSem.ClaimSeven
namespace Go.Proofs.YtccdbfmfdhhgfaaDoor
namespace Rows

/-- THE TIED CARD OF 'laws.FnExactMillText'. -/
def fnExactMillTextCard : Claim7 := { stood := { row := fnExactMillTextRow, standIns := [], harness := (true, "54224e07d81bcb84d4786a0365180b9474f1531b7c9fd99f558841507e0ceb00"), looks := true }, kinds := [], alts := [], laidByText := true, laidKinds := [.data, .data, .data], laidTests := true, laidLooks := .later }
def FnExactMillTextCardSaid : Prop := Claim7.holds Tryd.pinned (.plain (OpenSpec.ofChange fnExactMillTextSpec)) fnExactMillTextCard

/-- THE TIED CARD OF 'laws.FnExactReadMill'. -/
def fnExactReadMillCard : Claim7 := { stood := { row := fnExactReadMillRow, standIns := [], harness := (true, "54224e07d81bcb84d4786a0365180b9474f1531b7c9fd99f558841507e0ceb00"), looks := true }, kinds := [], alts := [], laidByText := true, laidKinds := [.data, .data, .data, .data, .sentinel, .sentinel, .pinned], laidTests := true, laidLooks := .later }
def FnExactReadMillCardSaid : Prop := Claim7.holds Tryd.pinned (.plain (OpenSpec.ofChange fnExactReadMillSpec)) fnExactReadMillCard

/-- THE SECOND FORM's CARD OF 'laws.FnExactMillText'. -/
def fnExactMillTextUptoCard : Claim7 := { stood := { row := fnExactMillTextUptoRow, standIns := [], harness := (true, "54224e07d81bcb84d4786a0365180b9474f1531b7c9fd99f558841507e0ceb00"), looks := true }, kinds := [], alts := [], laidByText := true, laidKinds := [.data, .data, .data], laidTests := true, laidLooks := .later }
def FnExactMillTextUptoCardSaid : Prop := Claim7.holds Tryd.pinned (.plain (OpenSpec.upto fnExactMillTextSpec)) fnExactMillTextUptoCard

/-- THE SECOND FORM's CARD OF 'laws.FnExactReadMill'. -/
def fnExactReadMillUptoCard : Claim7 := { stood := { row := fnExactReadMillUptoRow, standIns := [], harness := (true, "54224e07d81bcb84d4786a0365180b9474f1531b7c9fd99f558841507e0ceb00"), looks := true }, kinds := [], alts := [], laidByText := true, laidKinds := [.data, .data, .data, .data, .sentinel, .sentinel, .pinned], laidTests := true, laidLooks := .later }
def FnExactReadMillUptoCardSaid : Prop := Claim7.holds Tryd.pinned (.plain (OpenSpec.upto fnExactReadMillSpec)) fnExactReadMillUptoCard
end Rows
end Go.Proofs.YtccdbfmfdhhgfaaDoor
