/-
  DERIVED. GIVEN WITH THE SEED: THE CARDS: each row of YtncaiogfjjepcaaGreatDoorRows.lean that lists a variable, with what it lists TIED to the program's text (the seventh form; the later family's looks); each row that meets fmt, with fmt's text TOLD by the authors' own Lean function (tested against real Go, not proved from fmt's source: count such statements apart). THE CARD IS WHAT COUNTS. Prove the row's statement (the work); the ties are given (YtncaiogfjjepcaaGreatDoorTie.lean); close each card by the builder's one call (the guide's Derived/Test/ToyasCard.lean, 'card_holds'). Laid BY PROGRAM, IN A SANDBOX (cutbox-door.mjs). By AI agents, Wed Nov 11 2026. No macro, syntax, notation, axiom, sorry.
-/
import Derived.Test.YtncaiogfjjepcaaGreatDoorRows
import GoSem.ClaimSeven
namespace Go.Proofs.YtncaiogfjjepcaaGreatDoor
namespace Rows

/-- THE TIED CARD OF 'pommeltop.TopCodes'. -/
def topCodesCard : Claim7 := { stood := { row := topCodesRow, standIns := [], harness := (true, "d4a5bad2dbae6c8359929eb78e9dd8f30b446b55068189e85b86238e4df6d621"), looks := false }, kinds := [], alts := [], laidByText := true, laidKinds := [.data, .pinned], laidTests := true, laidLooks := .later }
def TopCodesCardSaid : Prop := Claim7.holds Tryz.pinned (.plain (OpenSpec.ofChange topCodesSpec)) topCodesCard

/-- THE SECOND FORM's CARD OF 'pommeltop.TopCodes'. -/
def topCodesUptoCard : Claim7 := { stood := { row := topCodesUptoRow, standIns := [], harness := (true, "d4a5bad2dbae6c8359929eb78e9dd8f30b446b55068189e85b86238e4df6d621"), looks := false }, kinds := [], alts := [], laidByText := true, laidKinds := [.data, .pinned], laidTests := true, laidLooks := .later }
def TopCodesUptoCardSaid : Prop := Claim7.holds Tryz.pinned (.plain (OpenSpec.upto topCodesSpec)) topCodesUptoCard
end Rows
end Go.Proofs.YtncaiogfjjepcaaGreatDoor
