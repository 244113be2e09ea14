/-
  DERIVED. GIVEN WITH THE SEED: THE CARDS: each row of YtfkpcifchgnmnaaGreatDoorRows.lean that lists a variable, with what it lists TIED to the program's text (the seventh form; the later family's looks); each row that meets fmt, with fmt's text TOLD by the authors' own Lean function (tested against real Go, not proved from fmt's source: count such statements apart). THE CARD IS WHAT COUNTS. Prove the row's statement (the work); the ties are given (YtfkpcifchgnmnaaGreatDoorTie.lean); close each card by the builder's one call (the guide's Derived/Test/ToyasCard.lean, 'card_holds'). Laid BY PROGRAM, IN A SANDBOX (cutbox-door.mjs). By AI agents, Wed Nov 11 2026. No macro, syntax, notation, axiom, sorry.
-/
import Derived.Test.YtfkpcifchgnmnaaGreatDoorRows
import GoSem.ClaimSeven
namespace Go.Proofs.YtfkpcifchgnmnaaGreatDoor
namespace Rows

/-- THE TIED CARD OF 'covenantlaw29.DdlNames'. -/
def ddlNamesCard : Claim7 := { stood := { row := ddlNamesRow, standIns := [], harness := (true, "7870059f7123f6a3cf3b454dc1994f7abfdd0b290e8653e7bc13dc80b26a49fc"), looks := true }, kinds := [], alts := [], laidByText := true, laidKinds := [.data, .pinned], laidTests := true, laidLooks := .later }
def DdlNamesCardSaid : Prop := Claim7.holds Tryz.pinned (.plain (OpenSpec.ofChange ddlNamesSpec)) ddlNamesCard

/-- THE SECOND FORM's CARD OF 'covenantlaw29.DdlNames'. -/
def ddlNamesUptoCard : Claim7 := { stood := { row := ddlNamesUptoRow, standIns := [], harness := (true, "7870059f7123f6a3cf3b454dc1994f7abfdd0b290e8653e7bc13dc80b26a49fc"), looks := true }, kinds := [], alts := [], laidByText := true, laidKinds := [.data, .pinned], laidTests := true, laidLooks := .later }
def DdlNamesUptoCardSaid : Prop := Claim7.holds Tryz.pinned (.plain (OpenSpec.upto ddlNamesSpec)) ddlNamesUptoCard
end Rows
end Go.Proofs.YtfkpcifchgnmnaaGreatDoor
