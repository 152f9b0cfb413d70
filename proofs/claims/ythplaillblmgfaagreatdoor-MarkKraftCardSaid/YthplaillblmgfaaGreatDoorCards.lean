/-
  DERIVED. GIVEN WITH THE SEED: THE CARDS: each row of YthplaillblmgfaaGreatDoorRows.lean that lists a variable, with what it lists TIED to the program's text (the seventh form; the later family's looks); each row that meets fmt, with fmt's text TOLD by the authors' own Lean function (tested against real Go, not proved from fmt's source: count such statements apart). THE CARD IS WHAT COUNTS. Prove the row's statement (the work); the ties are given (YthplaillblmgfaaGreatDoorTie.lean); close each card by the builder's one call (the guide's Derived/Test/ToyasCard.lean, 'card_holds'). Laid BY PROGRAM, IN A SANDBOX (cutbox-door.mjs). By AI agents, Wed Nov 11 2026. No macro, syntax, notation, axiom, sorry.
-/
import Derived.Test.YthplaillblmgfaaGreatDoorRows
import GoSem.ClaimSeven
namespace Go.Proofs.YthplaillblmgfaaGreatDoor
namespace Rows

/-- THE TIED CARD OF 'pommellaw08.MarkUnclear'. -/
def markUnclearCard : Claim7 := { stood := { row := markUnclearRow, standIns := [], harness := (true, "151bbcfb615bdd1ae1367ca4eae01f713151ec656359a384369b36c7cff94c80"), looks := false }, kinds := [], alts := [], laidByText := true, laidKinds := [.data, .pinned], laidTests := true, laidLooks := .later }
def MarkUnclearCardSaid : Prop := Claim7.holds Tryz.pinned (.plain (OpenSpec.ofChange markUnclearSpec)) markUnclearCard

/-- THE TIED CARD OF 'pommellaw08.MarkReads'. -/
def markReadsCard : Claim7 := { stood := { row := markReadsRow, standIns := [], harness := (true, "151bbcfb615bdd1ae1367ca4eae01f713151ec656359a384369b36c7cff94c80"), looks := false }, kinds := [], alts := [], laidByText := true, laidKinds := [.data, .pinned], laidTests := true, laidLooks := .later }
def MarkReadsCardSaid : Prop := Claim7.holds Tryz.pinned (.plain (OpenSpec.ofChange markReadsSpec)) markReadsCard

/-- THE TIED CARD OF 'pommellaw08.MarkClear'. -/
def markClearCard : Claim7 := { stood := { row := markClearRow, standIns := [], harness := (true, "151bbcfb615bdd1ae1367ca4eae01f713151ec656359a384369b36c7cff94c80"), looks := false }, kinds := [], alts := [], laidByText := true, laidKinds := [.data, .pinned], laidTests := true, laidLooks := .later }
def MarkClearCardSaid : Prop := Claim7.holds Tryz.pinned (.plain (OpenSpec.ofChange markClearSpec)) markClearCard

/-- THE TIED CARD OF 'pommellaw08.MarkKraft'. -/
def markKraftCard : Claim7 := { stood := { row := markKraftRow, standIns := [], harness := (true, "151bbcfb615bdd1ae1367ca4eae01f713151ec656359a384369b36c7cff94c80"), looks := false }, kinds := [], alts := [], laidByText := true, laidKinds := [.data, .pinned], laidTests := true, laidLooks := .later }
def MarkKraftCardSaid : Prop := Claim7.holds Tryz.pinned (.plain (OpenSpec.ofChange markKraftSpec)) markKraftCard

/-- THE TIED CARD OF 'pommellaw08.MarkLengths'. -/
def markLengthsCard : Claim7 := { stood := { row := markLengthsRow, standIns := [], harness := (true, "151bbcfb615bdd1ae1367ca4eae01f713151ec656359a384369b36c7cff94c80"), looks := false }, kinds := [], alts := [], laidByText := true, laidKinds := [.data, .pinned], laidTests := true, laidLooks := .later }
def MarkLengthsCardSaid : Prop := Claim7.holds Tryz.pinned (.plain (OpenSpec.ofChange markLengthsSpec)) markLengthsCard

/-- THE SECOND FORM's CARD OF 'pommellaw08.MarkUnclear'. -/
def markUnclearUptoCard : Claim7 := { stood := { row := markUnclearUptoRow, standIns := [], harness := (true, "151bbcfb615bdd1ae1367ca4eae01f713151ec656359a384369b36c7cff94c80"), looks := false }, kinds := [], alts := [], laidByText := true, laidKinds := [.data, .pinned], laidTests := true, laidLooks := .later }
def MarkUnclearUptoCardSaid : Prop := Claim7.holds Tryz.pinned (.plain (OpenSpec.upto markUnclearSpec)) markUnclearUptoCard

/-- THE SECOND FORM's CARD OF 'pommellaw08.MarkReads'. -/
def markReadsUptoCard : Claim7 := { stood := { row := markReadsUptoRow, standIns := [], harness := (true, "151bbcfb615bdd1ae1367ca4eae01f713151ec656359a384369b36c7cff94c80"), looks := false }, kinds := [], alts := [], laidByText := true, laidKinds := [.data, .pinned], laidTests := true, laidLooks := .later }
def MarkReadsUptoCardSaid : Prop := Claim7.holds Tryz.pinned (.plain (OpenSpec.upto markReadsSpec)) markReadsUptoCard

/-- THE SECOND FORM's CARD OF 'pommellaw08.MarkClear'. -/
def markClearUptoCard : Claim7 := { stood := { row := markClearUptoRow, standIns := [], harness := (true, "151bbcfb615bdd1ae1367ca4eae01f713151ec656359a384369b36c7cff94c80"), looks := false }, kinds := [], alts := [], laidByText := true, laidKinds := [.data, .pinned], laidTests := true, laidLooks := .later }
def MarkClearUptoCardSaid : Prop := Claim7.holds Tryz.pinned (.plain (OpenSpec.upto markClearSpec)) markClearUptoCard

/-- THE SECOND FORM's CARD OF 'pommellaw08.MarkKraft'. -/
def markKraftUptoCard : Claim7 := { stood := { row := markKraftUptoRow, standIns := [], harness := (true, "151bbcfb615bdd1ae1367ca4eae01f713151ec656359a384369b36c7cff94c80"), looks := false }, kinds := [], alts := [], laidByText := true, laidKinds := [.data, .pinned], laidTests := true, laidLooks := .later }
def MarkKraftUptoCardSaid : Prop := Claim7.holds Tryz.pinned (.plain (OpenSpec.upto markKraftSpec)) markKraftUptoCard

/-- THE SECOND FORM's CARD OF 'pommellaw08.MarkLengths'. -/
def markLengthsUptoCard : Claim7 := { stood := { row := markLengthsUptoRow, standIns := [], harness := (true, "151bbcfb615bdd1ae1367ca4eae01f713151ec656359a384369b36c7cff94c80"), looks := false }, kinds := [], alts := [], laidByText := true, laidKinds := [.data, .pinned], laidTests := true, laidLooks := .later }
def MarkLengthsUptoCardSaid : Prop := Claim7.holds Tryz.pinned (.plain (OpenSpec.upto markLengthsSpec)) markLengthsUptoCard
end Rows
end Go.Proofs.YthplaillblmgfaaGreatDoor
