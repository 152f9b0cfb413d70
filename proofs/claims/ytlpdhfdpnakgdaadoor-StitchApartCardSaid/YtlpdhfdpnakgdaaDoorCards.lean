/-
  DERIVED. GIVEN WITH THE SEED: THE CARDS: each row of YtlpdhfdpnakgdaaDoorRows.lean that lists a variable, with what it lists TIED to the program's text (the seventh form; the later family's looks); each row that meets fmt, with fmt's text TOLD by the authors' own Lean function (tested against real Go, not proved from fmt's source: count such statements apart). THE CARD IS WHAT COUNTS. Prove the row's statement (the work); the ties are given (YtlpdhfdpnakgdaaDoorTie.lean); close each card by the builder's one call (the guide's Derived/Test/ToyasCard.lean, 'card_holds'). Laid BY PROGRAM, IN A SANDBOX (cutbox-door.mjs). By AI agents, Wed Nov 11 2026. No macro, syntax, notation, axiom, sorry.
-/
import Derived.Test.YtlpdhfdpnakgdaaDoorRows
import GoSem.ClaimSeven
namespace Go.Proofs.YtlpdhfdpnakgdaaDoor
namespace Rows

/-- THE TIED CARD OF 'pommellaw03.StitchParts'. -/
def stitchPartsCard : Claim7 := { stood := { row := stitchPartsRow, standIns := [], harness := (true, "9685f2328ae214f9566e2eec5f7a5e9ba4033e3c63b22f94181db941a3aaf557"), looks := false }, kinds := [], alts := [], laidByText := true, laidKinds := [.data, .pinned], laidTests := true, laidLooks := .later }
def StitchPartsCardSaid : Prop := Claim7.holds Tryd.pinned (.plain (OpenSpec.ofChange stitchPartsSpec)) stitchPartsCard

/-- THE TIED CARD OF 'pommellaw03.StitchApart'. -/
def stitchApartCard : Claim7 := { stood := { row := stitchApartRow, standIns := [], harness := (true, "9685f2328ae214f9566e2eec5f7a5e9ba4033e3c63b22f94181db941a3aaf557"), looks := false }, kinds := [], alts := [], laidByText := true, laidKinds := [.data, .pinned], laidTests := true, laidLooks := .later }
def StitchApartCardSaid : Prop := Claim7.holds Tryd.pinned (.plain (OpenSpec.ofChange stitchApartSpec)) stitchApartCard

/-- THE SECOND FORM's CARD OF 'pommellaw03.StitchParts'. -/
def stitchPartsUptoCard : Claim7 := { stood := { row := stitchPartsUptoRow, standIns := [], harness := (true, "9685f2328ae214f9566e2eec5f7a5e9ba4033e3c63b22f94181db941a3aaf557"), looks := false }, kinds := [], alts := [], laidByText := true, laidKinds := [.data, .pinned], laidTests := true, laidLooks := .later }
def StitchPartsUptoCardSaid : Prop := Claim7.holds Tryd.pinned (.plain (OpenSpec.upto stitchPartsSpec)) stitchPartsUptoCard

/-- THE SECOND FORM's CARD OF 'pommellaw03.StitchApart'. -/
def stitchApartUptoCard : Claim7 := { stood := { row := stitchApartUptoRow, standIns := [], harness := (true, "9685f2328ae214f9566e2eec5f7a5e9ba4033e3c63b22f94181db941a3aaf557"), looks := false }, kinds := [], alts := [], laidByText := true, laidKinds := [.data, .pinned], laidTests := true, laidLooks := .later }
def StitchApartUptoCardSaid : Prop := Claim7.holds Tryd.pinned (.plain (OpenSpec.upto stitchApartSpec)) stitchApartUptoCard
end Rows
end Go.Proofs.YtlpdhfdpnakgdaaDoor
