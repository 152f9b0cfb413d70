/-
  NARROWER THAN 'FOR EVERY INPUT', by the rows' own cells (each row's printed sentence says how): MarkWeights: laid · MarkFalling: laid · MarkTurned: laid · MarkCodes: laid · MarkHuffman: laid · MarkPlain: laid.
  DERIVED. THE GIVEN ROWS OF THIS SEAT. 6 by the template 'for every input the law returns true; each argument reads behind the call as it read before'; 0 by the template 'total and deterministic' (their statements: YthplaillblmgfaaDoorTotals.lean).
  GIVEN WITH THE SEED: the statements are not yours to turn. If you find one false, say at which input.
  Laid BY PROGRAM, IN A SANDBOX (cutbox-rows.mjs): the forced cells as the released guide's own fill.sh prints them over the translation 35b7a2f86402eae2… (all of the seat's roots in one cut). By AI agents, Wed Nov 11 2026. No macro, syntax, notation, axiom, sorry.
-/
import Derived.Test.YthplaillblmgfaaDoorChecked
import GoSem.PinnedTables
import GoSem.Claim
import GoSem.ClaimJoined
import GoSem.ClaimMapViews
import Derived.JoinedTies
import Derived.KernelRfl
namespace Go.Proofs.YthplaillblmgfaaDoor
/- THE CELL 'sum', in the pinned program and in every row, IS THE sha256 OF THE DUMP (.gsa) THAT YthplaillblmgfaaDoorProg.lean LOADS. Nothing in Lean hashes anything: it is a label: what it is worth is what the hold of that sum in a sandbox is worth. -/
noncomputable def Tryd.pinned : Pinned := { name := "ythplaillblmgfaadoor", sum := "35b7a2f86402eae2794195b28ee3951207e24e98f3fda0aa2c2271f088f26f4d", checked := Tryd.checked }
namespace Rows
def none {H : Type} : Left H := { results := [], args := [] }

/- WHAT THE LISTED PACKAGE-LEVEL VARIABLES READ AS WHEN THE CALL BEGINS. Each datum BY PROGRAM (the guide's laid-datum.mjs) off the statement by which the dump's own 'gosem.cut.vars' lays the variable. In a bare row this is a premise. The card (YthplaillblmgfaaDoorCards.lean) ties it to the program's text. -/
def laid_unicode_utf8_acceptRanges {H : Type} : DataW H := .agg [.agg [.lit (.int .u8 128), .lit (.int .u8 191)], .agg [.lit (.int .u8 160), .lit (.int .u8 191)], .agg [.lit (.int .u8 128), .lit (.int .u8 159)], .agg [.lit (.int .u8 144), .lit (.int .u8 191)], .agg [.lit (.int .u8 128), .lit (.int .u8 143)], .agg [.lit (.int .u8 0), .lit (.int .u8 0)], .agg [.lit (.int .u8 0), .lit (.int .u8 0)], .agg [.lit (.int .u8 0), .lit (.int .u8 0)], .agg [.lit (.int .u8 0), .lit (.int .u8 0)], .agg [.lit (.int .u8 0), .lit (.int .u8 0)], .agg [.lit (.int .u8 0), .lit (.int .u8 0)], .agg [.lit (.int .u8 0), .lit (.int .u8 0)], .agg [.lit (.int .u8 0), .lit (.int .u8 0)], .agg [.lit (.int .u8 0), .lit (.int .u8 0)], .agg [.lit (.int .u8 0), .lit (.int .u8 0)], .agg [.lit (.int .u8 0), .lit (.int .u8 0)]]
/-- One of Go's own tables, pinned by name: the form's constant. -/
def laid_unicode_utf8_first : DataW Unit := Go.Pinned.utf8First

/-- 'pommellaw08.MarkWeights': WHATEVER THE INPUT: true; the input reads as it did. -/
def markWeightsSpec : ChangeSpec := { name := "markWeights", fn := fun _ => fun
  | [d] => { results := [.lit (.bool true)], args := [d] }
  | _ => none }
def markWeightsRow : OpenClaim := { program := "ythplaillblmgfaadoor", sum := "35b7a2f86402eae2794195b28ee3951207e24e98f3fda0aa2c2271f088f26f4d", func := "pommel/pommellaw08.MarkWeights", spec := "markWeights", inPlace := ["internal/bytealg.IndexByteString", "internal/bytealg.IndexString", "internal/abi.NoEscape", "internal/bytealg.MakeNoZero"], unfollowed := true, recurses := true, named := ["unicode/utf8.first", "unicode/utf8.acceptRanges", "internal/bytealg.MaxLen"], apart := false, laid := [("unicode/utf8.acceptRanges", laid_unicode_utf8_acceptRanges), ("unicode/utf8.first", laid_unicode_utf8_first)] }
def MarkWeightsSaid : Prop := markWeightsRow.holds Tryd.pinned (OpenSpec.ofChange markWeightsSpec)

/-- ITS FALSE NEIGHBOUR: 'it returns false'. Refute it at one input. -/
def markWeightsWrong : ChangeSpec := { name := "markWeights", fn := fun _ => fun
  | [d] => { results := [.lit (.bool false)], args := [d] }
  | _ => none }
def MarkWeightsWrongFalsely : Prop := markWeightsRow.holds Tryd.pinned (OpenSpec.ofChange markWeightsWrong)

/-- 'pommellaw08.MarkFalling': WHATEVER THE INPUT: true; the input reads as it did. -/
def markFallingSpec : ChangeSpec := { name := "markFalling", fn := fun _ => fun
  | [d1, d2] => { results := [.lit (.bool true)], args := [d1, d2] }
  | _ => none }
def markFallingRow : OpenClaim := { program := "ythplaillblmgfaadoor", sum := "35b7a2f86402eae2794195b28ee3951207e24e98f3fda0aa2c2271f088f26f4d", func := "pommel/pommellaw08.MarkFalling", spec := "markFalling", inPlace := ["internal/bytealg.IndexByteString", "internal/bytealg.IndexString", "internal/abi.NoEscape", "internal/bytealg.MakeNoZero"], unfollowed := true, recurses := true, named := ["unicode/utf8.first", "unicode/utf8.acceptRanges", "internal/bytealg.MaxLen"], apart := false, laid := [("unicode/utf8.acceptRanges", laid_unicode_utf8_acceptRanges), ("unicode/utf8.first", laid_unicode_utf8_first)] }
def MarkFallingSaid : Prop := markFallingRow.holds Tryd.pinned (OpenSpec.ofChange markFallingSpec)

/-- ITS FALSE NEIGHBOUR: 'it returns false'. Refute it at one input. -/
def markFallingWrong : ChangeSpec := { name := "markFalling", fn := fun _ => fun
  | [d1, d2] => { results := [.lit (.bool false)], args := [d1, d2] }
  | _ => none }
def MarkFallingWrongFalsely : Prop := markFallingRow.holds Tryd.pinned (OpenSpec.ofChange markFallingWrong)

/-- 'pommellaw08.MarkTurned': WHATEVER THE INPUT: true; the input reads as it did. -/
def markTurnedSpec : ChangeSpec := { name := "markTurned", fn := fun _ => fun
  | [d] => { results := [.lit (.bool true)], args := [d] }
  | _ => none }
def markTurnedRow : OpenClaim := { program := "ythplaillblmgfaadoor", sum := "35b7a2f86402eae2794195b28ee3951207e24e98f3fda0aa2c2271f088f26f4d", func := "pommel/pommellaw08.MarkTurned", spec := "markTurned", inPlace := ["internal/bytealg.IndexByteString", "internal/bytealg.IndexString", "internal/abi.NoEscape", "internal/bytealg.MakeNoZero"], unfollowed := true, recurses := true, named := ["unicode/utf8.first", "unicode/utf8.acceptRanges", "internal/bytealg.MaxLen"], apart := false, laid := [("unicode/utf8.acceptRanges", laid_unicode_utf8_acceptRanges), ("unicode/utf8.first", laid_unicode_utf8_first)] }
def MarkTurnedSaid : Prop := markTurnedRow.holds Tryd.pinned (OpenSpec.ofChange markTurnedSpec)

/-- ITS FALSE NEIGHBOUR: 'it returns false'. Refute it at one input. -/
def markTurnedWrong : ChangeSpec := { name := "markTurned", fn := fun _ => fun
  | [d] => { results := [.lit (.bool false)], args := [d] }
  | _ => none }
def MarkTurnedWrongFalsely : Prop := markTurnedRow.holds Tryd.pinned (OpenSpec.ofChange markTurnedWrong)

/-- 'pommellaw08.MarkCodes': WHATEVER THE INPUT: true; the input reads as it did. -/
def markCodesSpec : ChangeSpec := { name := "markCodes", fn := fun _ => fun
  | [d] => { results := [.lit (.bool true)], args := [d] }
  | _ => none }
def markCodesRow : OpenClaim := { program := "ythplaillblmgfaadoor", sum := "35b7a2f86402eae2794195b28ee3951207e24e98f3fda0aa2c2271f088f26f4d", func := "pommel/pommellaw08.MarkCodes", spec := "markCodes", inPlace := ["internal/bytealg.IndexByteString", "internal/bytealg.IndexString", "internal/abi.NoEscape", "internal/bytealg.MakeNoZero"], unfollowed := true, recurses := true, named := ["unicode/utf8.first", "unicode/utf8.acceptRanges", "internal/bytealg.MaxLen"], apart := false, laid := [("unicode/utf8.acceptRanges", laid_unicode_utf8_acceptRanges), ("unicode/utf8.first", laid_unicode_utf8_first)] }
def MarkCodesSaid : Prop := markCodesRow.holds Tryd.pinned (OpenSpec.ofChange markCodesSpec)

/-- ITS FALSE NEIGHBOUR: 'it returns false'. Refute it at one input. -/
def markCodesWrong : ChangeSpec := { name := "markCodes", fn := fun _ => fun
  | [d] => { results := [.lit (.bool false)], args := [d] }
  | _ => none }
def MarkCodesWrongFalsely : Prop := markCodesRow.holds Tryd.pinned (OpenSpec.ofChange markCodesWrong)

/-- 'pommellaw08.MarkHuffman': WHATEVER THE INPUT: true; the input reads as it did. -/
def markHuffmanSpec : ChangeSpec := { name := "markHuffman", fn := fun _ => fun
  | [d] => { results := [.lit (.bool true)], args := [d] }
  | _ => none }
def markHuffmanRow : OpenClaim := { program := "ythplaillblmgfaadoor", sum := "35b7a2f86402eae2794195b28ee3951207e24e98f3fda0aa2c2271f088f26f4d", func := "pommel/pommellaw08.MarkHuffman", spec := "markHuffman", inPlace := ["internal/bytealg.IndexByteString", "internal/bytealg.IndexString", "internal/abi.NoEscape", "internal/bytealg.MakeNoZero"], unfollowed := true, recurses := true, named := ["unicode/utf8.first", "unicode/utf8.acceptRanges", "internal/bytealg.MaxLen"], apart := false, laid := [("unicode/utf8.acceptRanges", laid_unicode_utf8_acceptRanges), ("unicode/utf8.first", laid_unicode_utf8_first)] }
def MarkHuffmanSaid : Prop := markHuffmanRow.holds Tryd.pinned (OpenSpec.ofChange markHuffmanSpec)

/-- ITS FALSE NEIGHBOUR: 'it returns false'. Refute it at one input. -/
def markHuffmanWrong : ChangeSpec := { name := "markHuffman", fn := fun _ => fun
  | [d] => { results := [.lit (.bool false)], args := [d] }
  | _ => none }
def MarkHuffmanWrongFalsely : Prop := markHuffmanRow.holds Tryd.pinned (OpenSpec.ofChange markHuffmanWrong)

/-- 'pommellaw08.MarkPlain': WHATEVER THE INPUT: true; the input reads as it did. -/
def markPlainSpec : ChangeSpec := { name := "markPlain", fn := fun _ => fun
  | [d] => { results := [.lit (.bool true)], args := [d] }
  | _ => none }
def markPlainRow : OpenClaim := { program := "ythplaillblmgfaadoor", sum := "35b7a2f86402eae2794195b28ee3951207e24e98f3fda0aa2c2271f088f26f4d", func := "pommel/pommellaw08.MarkPlain", spec := "markPlain", inPlace := ["internal/bytealg.IndexByteString", "internal/bytealg.IndexString", "internal/abi.NoEscape", "internal/bytealg.MakeNoZero"], unfollowed := true, recurses := true, named := ["unicode/utf8.first", "unicode/utf8.acceptRanges", "internal/bytealg.MaxLen"], apart := false, laid := [("unicode/utf8.acceptRanges", laid_unicode_utf8_acceptRanges), ("unicode/utf8.first", laid_unicode_utf8_first)] }
def MarkPlainSaid : Prop := markPlainRow.holds Tryd.pinned (OpenSpec.ofChange markPlainSpec)

/-- ITS FALSE NEIGHBOUR: 'it returns false'. Refute it at one input. -/
def markPlainWrong : ChangeSpec := { name := "markPlain", fn := fun _ => fun
  | [d] => { results := [.lit (.bool false)], args := [d] }
  | _ => none }
def MarkPlainWrongFalsely : Prop := markPlainRow.holds Tryd.pinned (OpenSpec.ofChange markPlainWrong)

/- THE SECOND FORM. 'bulk': how many values and letters a reading holds, each counted each time it is reached (what is shared counts as often as it is met; a slice's spare places count too). A statement '..UptoSaid' is the law's where the arguments, and the package variables that the reading takes, are together of bulk at most 1048576: NARROWER than '..Said'. Prove '..Said' where nothing that the law and all that it calls make is longer than what came in: it says more and counts as full. Else prove '..UptoSaid'. A law counts once. -/
mutual
def uptoBulk {H : Type} : DataW H → Nat
  | .lit (.string bytes) => bytes.length + 1
  | .lit _ => 1
  | .nil => 1
  | .ptr d => uptoBulk d + 1
  | .slice elems spare => uptoBulkAll elems + uptoBulkAll spare + 1
  | .agg parts => uptoBulkAll parts + 1
  | .iface _ d => uptoBulk d + 1
  | .map entries => uptoBulkEntries entries + 1
  | .held _ => 1
def uptoBulkAll {H : Type} : List (DataW H) → Nat
  | [] => 0
  | d :: r => uptoBulk d + uptoBulkAll r
def uptoBulkEntries {H : Type} : List (Lit × DataW H) → Nat
  | [] => 0
  | x :: r => uptoBulkEntry x + uptoBulkEntries r
def uptoBulkEntry {H : Type} : Lit × DataW H → Nat
  | (.string bytes, d) => bytes.length + uptoBulk d + 1
  | (_, d) => uptoBulk d + 1
 end
def uptoSmall : (H : Type) → List (DataW H) → Bool := fun _ ds => decide (uptoBulkAll ds ≤ 1048576)
def OpenSpec.upto (s : _root_.Go.ChangeSpec) : _root_.Go.OpenSpec := { _root_.Go.OpenSpec.ofChange s with cond := some uptoSmall }

/-- 'pommellaw08.MarkWeights', WHERE WHAT IT READS IS OF BULK AT MOST 1048576: true; the input reads as it did. -/
def markWeightsUptoRow : OpenClaim := { program := "ythplaillblmgfaadoor", sum := "35b7a2f86402eae2794195b28ee3951207e24e98f3fda0aa2c2271f088f26f4d", func := "pommel/pommellaw08.MarkWeights", spec := "markWeights", inPlace := ["internal/bytealg.IndexByteString", "internal/bytealg.IndexString", "internal/abi.NoEscape", "internal/bytealg.MakeNoZero"], unfollowed := true, recurses := true, named := ["unicode/utf8.first", "unicode/utf8.acceptRanges", "internal/bytealg.MaxLen"], apart := false, laid := [("unicode/utf8.acceptRanges", laid_unicode_utf8_acceptRanges), ("unicode/utf8.first", laid_unicode_utf8_first)], narrowed := true }
def MarkWeightsUptoSaid : Prop := markWeightsUptoRow.holds Tryd.pinned (OpenSpec.upto markWeightsSpec)

/-- 'pommellaw08.MarkFalling', WHERE WHAT IT READS IS OF BULK AT MOST 1048576: true; the input reads as it did. -/
def markFallingUptoRow : OpenClaim := { program := "ythplaillblmgfaadoor", sum := "35b7a2f86402eae2794195b28ee3951207e24e98f3fda0aa2c2271f088f26f4d", func := "pommel/pommellaw08.MarkFalling", spec := "markFalling", inPlace := ["internal/bytealg.IndexByteString", "internal/bytealg.IndexString", "internal/abi.NoEscape", "internal/bytealg.MakeNoZero"], unfollowed := true, recurses := true, named := ["unicode/utf8.first", "unicode/utf8.acceptRanges", "internal/bytealg.MaxLen"], apart := false, laid := [("unicode/utf8.acceptRanges", laid_unicode_utf8_acceptRanges), ("unicode/utf8.first", laid_unicode_utf8_first)], narrowed := true }
def MarkFallingUptoSaid : Prop := markFallingUptoRow.holds Tryd.pinned (OpenSpec.upto markFallingSpec)

/-- 'pommellaw08.MarkTurned', WHERE WHAT IT READS IS OF BULK AT MOST 1048576: true; the input reads as it did. -/
def markTurnedUptoRow : OpenClaim := { program := "ythplaillblmgfaadoor", sum := "35b7a2f86402eae2794195b28ee3951207e24e98f3fda0aa2c2271f088f26f4d", func := "pommel/pommellaw08.MarkTurned", spec := "markTurned", inPlace := ["internal/bytealg.IndexByteString", "internal/bytealg.IndexString", "internal/abi.NoEscape", "internal/bytealg.MakeNoZero"], unfollowed := true, recurses := true, named := ["unicode/utf8.first", "unicode/utf8.acceptRanges", "internal/bytealg.MaxLen"], apart := false, laid := [("unicode/utf8.acceptRanges", laid_unicode_utf8_acceptRanges), ("unicode/utf8.first", laid_unicode_utf8_first)], narrowed := true }
def MarkTurnedUptoSaid : Prop := markTurnedUptoRow.holds Tryd.pinned (OpenSpec.upto markTurnedSpec)

/-- 'pommellaw08.MarkCodes', WHERE WHAT IT READS IS OF BULK AT MOST 1048576: true; the input reads as it did. -/
def markCodesUptoRow : OpenClaim := { program := "ythplaillblmgfaadoor", sum := "35b7a2f86402eae2794195b28ee3951207e24e98f3fda0aa2c2271f088f26f4d", func := "pommel/pommellaw08.MarkCodes", spec := "markCodes", inPlace := ["internal/bytealg.IndexByteString", "internal/bytealg.IndexString", "internal/abi.NoEscape", "internal/bytealg.MakeNoZero"], unfollowed := true, recurses := true, named := ["unicode/utf8.first", "unicode/utf8.acceptRanges", "internal/bytealg.MaxLen"], apart := false, laid := [("unicode/utf8.acceptRanges", laid_unicode_utf8_acceptRanges), ("unicode/utf8.first", laid_unicode_utf8_first)], narrowed := true }
def MarkCodesUptoSaid : Prop := markCodesUptoRow.holds Tryd.pinned (OpenSpec.upto markCodesSpec)

/-- 'pommellaw08.MarkHuffman', WHERE WHAT IT READS IS OF BULK AT MOST 1048576: true; the input reads as it did. -/
def markHuffmanUptoRow : OpenClaim := { program := "ythplaillblmgfaadoor", sum := "35b7a2f86402eae2794195b28ee3951207e24e98f3fda0aa2c2271f088f26f4d", func := "pommel/pommellaw08.MarkHuffman", spec := "markHuffman", inPlace := ["internal/bytealg.IndexByteString", "internal/bytealg.IndexString", "internal/abi.NoEscape", "internal/bytealg.MakeNoZero"], unfollowed := true, recurses := true, named := ["unicode/utf8.first", "unicode/utf8.acceptRanges", "internal/bytealg.MaxLen"], apart := false, laid := [("unicode/utf8.acceptRanges", laid_unicode_utf8_acceptRanges), ("unicode/utf8.first", laid_unicode_utf8_first)], narrowed := true }
def MarkHuffmanUptoSaid : Prop := markHuffmanUptoRow.holds Tryd.pinned (OpenSpec.upto markHuffmanSpec)

/-- 'pommellaw08.MarkPlain', WHERE WHAT IT READS IS OF BULK AT MOST 1048576: true; the input reads as it did. -/
def markPlainUptoRow : OpenClaim := { program := "ythplaillblmgfaadoor", sum := "35b7a2f86402eae2794195b28ee3951207e24e98f3fda0aa2c2271f088f26f4d", func := "pommel/pommellaw08.MarkPlain", spec := "markPlain", inPlace := ["internal/bytealg.IndexByteString", "internal/bytealg.IndexString", "internal/abi.NoEscape", "internal/bytealg.MakeNoZero"], unfollowed := true, recurses := true, named := ["unicode/utf8.first", "unicode/utf8.acceptRanges", "internal/bytealg.MaxLen"], apart := false, laid := [("unicode/utf8.acceptRanges", laid_unicode_utf8_acceptRanges), ("unicode/utf8.first", laid_unicode_utf8_first)], narrowed := true }
def MarkPlainUptoSaid : Prop := markPlainUptoRow.holds Tryd.pinned (OpenSpec.upto markPlainSpec)

end Rows
end Go.Proofs.YthplaillblmgfaaDoor
