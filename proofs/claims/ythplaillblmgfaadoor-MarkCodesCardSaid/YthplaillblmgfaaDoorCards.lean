/-
  DERIVED. GIVEN WITH THE SEED: THE CARDS: each row of YthplaillblmgfaaDoorRows.lean that lists a variable, with what it lists TIED to the program's text (the seventh form; the later family's looks); each row that meets fmt, with fmt's text TOLD by the authors' own Lean function (tested against real Go, not proved from fmt's source: count such statements apart). THE CARD IS WHAT COUNTS. Prove the row's statement (the work); the ties are given (YthplaillblmgfaaDoorTie.lean); close each card by the builder's one call (the guide's Derived/Test/ToyasCard.lean, 'card_holds'). Laid BY PROGRAM, IN A SANDBOX (cutbox-door.mjs). By AI agents, Wed Nov 11 2026. No macro, syntax, notation, axiom, sorry.
-/
import Derived.Test.YthplaillblmgfaaDoorRows
import GoSem.ClaimSeven
namespace Go.Proofs.YthplaillblmgfaaDoor
namespace Rows

/-- THE TIED CARD OF 'pommellaw08.MarkWeights'. -/
def markWeightsCard : Claim7 := { stood := { row := markWeightsRow, standIns := [], harness := (true, "08d0badc38f509602eac09781e0f749f17ba516ba793218bbab83db2a0378140"), looks := false }, kinds := [], alts := [], laidByText := true, laidKinds := [.data, .pinned], laidTests := true, laidLooks := .later }
def MarkWeightsCardSaid : Prop := Claim7.holds Tryd.pinned (.plain (OpenSpec.ofChange markWeightsSpec)) markWeightsCard

/-- THE TIED CARD OF 'pommellaw08.MarkFalling'. -/
def markFallingCard : Claim7 := { stood := { row := markFallingRow, standIns := [], harness := (true, "08d0badc38f509602eac09781e0f749f17ba516ba793218bbab83db2a0378140"), looks := false }, kinds := [], alts := [], laidByText := true, laidKinds := [.data, .pinned], laidTests := true, laidLooks := .later }
def MarkFallingCardSaid : Prop := Claim7.holds Tryd.pinned (.plain (OpenSpec.ofChange markFallingSpec)) markFallingCard

/-- THE TIED CARD OF 'pommellaw08.MarkTurned'. -/
def markTurnedCard : Claim7 := { stood := { row := markTurnedRow, standIns := [], harness := (true, "08d0badc38f509602eac09781e0f749f17ba516ba793218bbab83db2a0378140"), looks := false }, kinds := [], alts := [], laidByText := true, laidKinds := [.data, .pinned], laidTests := true, laidLooks := .later }
def MarkTurnedCardSaid : Prop := Claim7.holds Tryd.pinned (.plain (OpenSpec.ofChange markTurnedSpec)) markTurnedCard

/-- THE TIED CARD OF 'pommellaw08.MarkCodes'. -/
def markCodesCard : Claim7 := { stood := { row := markCodesRow, standIns := [], harness := (true, "08d0badc38f509602eac09781e0f749f17ba516ba793218bbab83db2a0378140"), looks := false }, kinds := [], alts := [], laidByText := true, laidKinds := [.data, .pinned], laidTests := true, laidLooks := .later }
def MarkCodesCardSaid : Prop := Claim7.holds Tryd.pinned (.plain (OpenSpec.ofChange markCodesSpec)) markCodesCard

/-- THE TIED CARD OF 'pommellaw08.MarkHuffman'. -/
def markHuffmanCard : Claim7 := { stood := { row := markHuffmanRow, standIns := [], harness := (true, "08d0badc38f509602eac09781e0f749f17ba516ba793218bbab83db2a0378140"), looks := false }, kinds := [], alts := [], laidByText := true, laidKinds := [.data, .pinned], laidTests := true, laidLooks := .later }
def MarkHuffmanCardSaid : Prop := Claim7.holds Tryd.pinned (.plain (OpenSpec.ofChange markHuffmanSpec)) markHuffmanCard

/-- THE TIED CARD OF 'pommellaw08.MarkPlain'. -/
def markPlainCard : Claim7 := { stood := { row := markPlainRow, standIns := [], harness := (true, "08d0badc38f509602eac09781e0f749f17ba516ba793218bbab83db2a0378140"), looks := false }, kinds := [], alts := [], laidByText := true, laidKinds := [.data, .pinned], laidTests := true, laidLooks := .later }
def MarkPlainCardSaid : Prop := Claim7.holds Tryd.pinned (.plain (OpenSpec.ofChange markPlainSpec)) markPlainCard

/-- THE SECOND FORM's CARD OF 'pommellaw08.MarkWeights'. -/
def markWeightsUptoCard : Claim7 := { stood := { row := markWeightsUptoRow, standIns := [], harness := (true, "08d0badc38f509602eac09781e0f749f17ba516ba793218bbab83db2a0378140"), looks := false }, kinds := [], alts := [], laidByText := true, laidKinds := [.data, .pinned], laidTests := true, laidLooks := .later }
def MarkWeightsUptoCardSaid : Prop := Claim7.holds Tryd.pinned (.plain (OpenSpec.upto markWeightsSpec)) markWeightsUptoCard

/-- THE SECOND FORM's CARD OF 'pommellaw08.MarkFalling'. -/
def markFallingUptoCard : Claim7 := { stood := { row := markFallingUptoRow, standIns := [], harness := (true, "08d0badc38f509602eac09781e0f749f17ba516ba793218bbab83db2a0378140"), looks := false }, kinds := [], alts := [], laidByText := true, laidKinds := [.data, .pinned], laidTests := true, laidLooks := .later }
def MarkFallingUptoCardSaid : Prop := Claim7.holds Tryd.pinned (.plain (OpenSpec.upto markFallingSpec)) markFallingUptoCard

/-- THE SECOND FORM's CARD OF 'pommellaw08.MarkTurned'. -/
def markTurnedUptoCard : Claim7 := { stood := { row := markTurnedUptoRow, standIns := [], harness := (true, "08d0badc38f509602eac09781e0f749f17ba516ba793218bbab83db2a0378140"), looks := false }, kinds := [], alts := [], laidByText := true, laidKinds := [.data, .pinned], laidTests := true, laidLooks := .later }
def MarkTurnedUptoCardSaid : Prop := Claim7.holds Tryd.pinned (.plain (OpenSpec.upto markTurnedSpec)) markTurnedUptoCard

/-- THE SECOND FORM's CARD OF 'pommellaw08.MarkCodes'. -/
def markCodesUptoCard : Claim7 := { stood := { row := markCodesUptoRow, standIns := [], harness := (true, "08d0badc38f509602eac09781e0f749f17ba516ba793218bbab83db2a0378140"), looks := false }, kinds := [], alts := [], laidByText := true, laidKinds := [.data, .pinned], laidTests := true, laidLooks := .later }
def MarkCodesUptoCardSaid : Prop := Claim7.holds Tryd.pinned (.plain (OpenSpec.upto markCodesSpec)) markCodesUptoCard

/-- THE SECOND FORM's CARD OF 'pommellaw08.MarkHuffman'. -/
def markHuffmanUptoCard : Claim7 := { stood := { row := markHuffmanUptoRow, standIns := [], harness := (true, "08d0badc38f509602eac09781e0f749f17ba516ba793218bbab83db2a0378140"), looks := false }, kinds := [], alts := [], laidByText := true, laidKinds := [.data, .pinned], laidTests := true, laidLooks := .later }
def MarkHuffmanUptoCardSaid : Prop := Claim7.holds Tryd.pinned (.plain (OpenSpec.upto markHuffmanSpec)) markHuffmanUptoCard

/-- THE SECOND FORM's CARD OF 'pommellaw08.MarkPlain'. -/
def markPlainUptoCard : Claim7 := { stood := { row := markPlainUptoRow, standIns := [], harness := (true, "08d0badc38f509602eac09781e0f749f17ba516ba793218bbab83db2a0378140"), looks := false }, kinds := [], alts := [], laidByText := true, laidKinds := [.data, .pinned], laidTests := true, laidLooks := .later }
def MarkPlainUptoCardSaid : Prop := Claim7.holds Tryd.pinned (.plain (OpenSpec.upto markPlainSpec)) markPlainUptoCard
end Rows
end Go.Proofs.YthplaillblmgfaaDoor
