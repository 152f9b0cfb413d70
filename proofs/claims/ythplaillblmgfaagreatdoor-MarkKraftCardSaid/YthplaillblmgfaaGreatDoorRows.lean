/-
  NARROWER THAN 'FOR EVERY INPUT', by the rows' own cells (each row's printed sentence says how): MarkUnclear: laid · MarkReads: laid · MarkClear: laid · MarkKraft: laid · MarkLengths: laid.
  DERIVED. THE GIVEN ROWS OF THIS SEAT. 5 by the template 'for every input the law returns true; each argument reads behind the call as it read before'; 0 by the template 'total and deterministic' (their statements: YthplaillblmgfaaGreatDoorTotals.lean).
  GIVEN WITH THE SEED: the statements are not yours to turn. If you find one false, say at which input.
  Laid BY PROGRAM, IN A SANDBOX (cutbox-rows.mjs): the forced cells as the released guide's own fill.sh prints them over the translation 3a33ae5689445081… (all of the seat's roots in one cut). By AI agents, Wed Nov 11 2026. No macro, syntax, notation, axiom, sorry.
-/
import Derived.Test.YthplaillblmgfaaGreatDoorChecked
import GoSem.PinnedTables
import GoSem.Claim
import GoSem.ClaimJoined
import GoSem.ClaimMapViews
import Derived.JoinedTies
import Derived.KernelRfl
namespace Go.Proofs.YthplaillblmgfaaGreatDoor
/- THE CELL 'sum', in the pinned program and in every row, IS THE sha256 OF THE DUMP (.gsa) THAT YthplaillblmgfaaGreatDoorProg.lean LOADS. Nothing in Lean hashes anything: it is a label: what it is worth is what the hold of that sum in a sandbox is worth. -/
noncomputable def Tryz.pinned : Pinned := { name := "ythplaillblmgfaagreatdoor", sum := "3a33ae56894450819f2ffef641e5627c2f50a28192b23b0c95d4d11905fbead0", checked := Tryz.checked }
namespace Rows
def none {H : Type} : Left H := { results := [], args := [] }

/- WHAT THE LISTED PACKAGE-LEVEL VARIABLES READ AS WHEN THE CALL BEGINS. Each datum BY PROGRAM (the guide's laid-datum.mjs) off the statement by which the dump's own 'gosem.cut.vars' lays the variable. In a bare row this is a premise. The card (YthplaillblmgfaaGreatDoorCards.lean) ties it to the program's text. -/
def laid_unicode_utf8_acceptRanges {H : Type} : DataW H := .agg [.agg [.lit (.int .u8 128), .lit (.int .u8 191)], .agg [.lit (.int .u8 160), .lit (.int .u8 191)], .agg [.lit (.int .u8 128), .lit (.int .u8 159)], .agg [.lit (.int .u8 144), .lit (.int .u8 191)], .agg [.lit (.int .u8 128), .lit (.int .u8 143)], .agg [.lit (.int .u8 0), .lit (.int .u8 0)], .agg [.lit (.int .u8 0), .lit (.int .u8 0)], .agg [.lit (.int .u8 0), .lit (.int .u8 0)], .agg [.lit (.int .u8 0), .lit (.int .u8 0)], .agg [.lit (.int .u8 0), .lit (.int .u8 0)], .agg [.lit (.int .u8 0), .lit (.int .u8 0)], .agg [.lit (.int .u8 0), .lit (.int .u8 0)], .agg [.lit (.int .u8 0), .lit (.int .u8 0)], .agg [.lit (.int .u8 0), .lit (.int .u8 0)], .agg [.lit (.int .u8 0), .lit (.int .u8 0)], .agg [.lit (.int .u8 0), .lit (.int .u8 0)]]
/-- One of Go's own tables, pinned by name: the form's constant. -/
def laid_unicode_utf8_first : DataW Unit := Go.Pinned.utf8First

/-- 'pommellaw08.MarkUnclear': WHATEVER THE INPUT: true; the input reads as it did. -/
def markUnclearSpec : ChangeSpec := { name := "markUnclear", fn := fun _ => fun
  | [d1, d2] => { results := [.lit (.bool true)], args := [d1, d2] }
  | _ => none }
def markUnclearRow : OpenClaim := { program := "ythplaillblmgfaagreatdoor", sum := "3a33ae56894450819f2ffef641e5627c2f50a28192b23b0c95d4d11905fbead0", func := "pommel/pommellaw08.MarkUnclear", spec := "markUnclear", inPlace := ["internal/bytealg.IndexByteString", "internal/bytealg.IndexString", "internal/abi.NoEscape", "internal/bytealg.MakeNoZero"], unfollowed := true, recurses := true, named := ["unicode/utf8.first", "unicode/utf8.acceptRanges", "internal/bytealg.MaxLen"], apart := false, laid := [("unicode/utf8.acceptRanges", laid_unicode_utf8_acceptRanges), ("unicode/utf8.first", laid_unicode_utf8_first)] }
def MarkUnclearSaid : Prop := markUnclearRow.holds Tryz.pinned (OpenSpec.ofChange markUnclearSpec)

/-- ITS FALSE NEIGHBOUR: 'it returns false'. Refute it at one input. -/
def markUnclearWrong : ChangeSpec := { name := "markUnclear", fn := fun _ => fun
  | [d1, d2] => { results := [.lit (.bool false)], args := [d1, d2] }
  | _ => none }
def MarkUnclearWrongFalsely : Prop := markUnclearRow.holds Tryz.pinned (OpenSpec.ofChange markUnclearWrong)

/-- 'pommellaw08.MarkReads': WHATEVER THE INPUT: true; the input reads as it did. -/
def markReadsSpec : ChangeSpec := { name := "markReads", fn := fun _ => fun
  | [d1, d2] => { results := [.lit (.bool true)], args := [d1, d2] }
  | _ => none }
def markReadsRow : OpenClaim := { program := "ythplaillblmgfaagreatdoor", sum := "3a33ae56894450819f2ffef641e5627c2f50a28192b23b0c95d4d11905fbead0", func := "pommel/pommellaw08.MarkReads", spec := "markReads", inPlace := ["internal/bytealg.IndexByteString", "internal/bytealg.IndexString", "internal/abi.NoEscape", "internal/bytealg.MakeNoZero"], unfollowed := true, recurses := true, named := ["unicode/utf8.first", "unicode/utf8.acceptRanges", "internal/bytealg.MaxLen"], apart := false, laid := [("unicode/utf8.acceptRanges", laid_unicode_utf8_acceptRanges), ("unicode/utf8.first", laid_unicode_utf8_first)] }
def MarkReadsSaid : Prop := markReadsRow.holds Tryz.pinned (OpenSpec.ofChange markReadsSpec)

/-- ITS FALSE NEIGHBOUR: 'it returns false'. Refute it at one input. -/
def markReadsWrong : ChangeSpec := { name := "markReads", fn := fun _ => fun
  | [d1, d2] => { results := [.lit (.bool false)], args := [d1, d2] }
  | _ => none }
def MarkReadsWrongFalsely : Prop := markReadsRow.holds Tryz.pinned (OpenSpec.ofChange markReadsWrong)

/-- 'pommellaw08.MarkClear': WHATEVER THE INPUT: true; the input reads as it did. -/
def markClearSpec : ChangeSpec := { name := "markClear", fn := fun _ => fun
  | [d1, d2, d3] => { results := [.lit (.bool true)], args := [d1, d2, d3] }
  | _ => none }
def markClearRow : OpenClaim := { program := "ythplaillblmgfaagreatdoor", sum := "3a33ae56894450819f2ffef641e5627c2f50a28192b23b0c95d4d11905fbead0", func := "pommel/pommellaw08.MarkClear", spec := "markClear", inPlace := ["internal/bytealg.IndexByteString", "internal/bytealg.IndexString", "internal/abi.NoEscape", "internal/bytealg.MakeNoZero"], unfollowed := true, recurses := true, named := ["unicode/utf8.first", "unicode/utf8.acceptRanges", "internal/bytealg.MaxLen"], apart := false, laid := [("unicode/utf8.acceptRanges", laid_unicode_utf8_acceptRanges), ("unicode/utf8.first", laid_unicode_utf8_first)] }
def MarkClearSaid : Prop := markClearRow.holds Tryz.pinned (OpenSpec.ofChange markClearSpec)

/-- ITS FALSE NEIGHBOUR: 'it returns false'. Refute it at one input. -/
def markClearWrong : ChangeSpec := { name := "markClear", fn := fun _ => fun
  | [d1, d2, d3] => { results := [.lit (.bool false)], args := [d1, d2, d3] }
  | _ => none }
def MarkClearWrongFalsely : Prop := markClearRow.holds Tryz.pinned (OpenSpec.ofChange markClearWrong)

/-- 'pommellaw08.MarkKraft': WHATEVER THE INPUT: true; the input reads as it did. -/
def markKraftSpec : ChangeSpec := { name := "markKraft", fn := fun _ => fun
  | [d] => { results := [.lit (.bool true)], args := [d] }
  | _ => none }
def markKraftRow : OpenClaim := { program := "ythplaillblmgfaagreatdoor", sum := "3a33ae56894450819f2ffef641e5627c2f50a28192b23b0c95d4d11905fbead0", func := "pommel/pommellaw08.MarkKraft", spec := "markKraft", inPlace := ["internal/bytealg.IndexByteString", "internal/bytealg.IndexString", "internal/abi.NoEscape", "internal/bytealg.MakeNoZero"], unfollowed := true, recurses := true, named := ["unicode/utf8.first", "unicode/utf8.acceptRanges", "internal/bytealg.MaxLen"], apart := false, laid := [("unicode/utf8.acceptRanges", laid_unicode_utf8_acceptRanges), ("unicode/utf8.first", laid_unicode_utf8_first)] }
def MarkKraftSaid : Prop := markKraftRow.holds Tryz.pinned (OpenSpec.ofChange markKraftSpec)

/-- ITS FALSE NEIGHBOUR: 'it returns false'. Refute it at one input. -/
def markKraftWrong : ChangeSpec := { name := "markKraft", fn := fun _ => fun
  | [d] => { results := [.lit (.bool false)], args := [d] }
  | _ => none }
def MarkKraftWrongFalsely : Prop := markKraftRow.holds Tryz.pinned (OpenSpec.ofChange markKraftWrong)

/-- 'pommellaw08.MarkLengths': WHATEVER THE INPUT: true; the input reads as it did. -/
def markLengthsSpec : ChangeSpec := { name := "markLengths", fn := fun _ => fun
  | [d] => { results := [.lit (.bool true)], args := [d] }
  | _ => none }
def markLengthsRow : OpenClaim := { program := "ythplaillblmgfaagreatdoor", sum := "3a33ae56894450819f2ffef641e5627c2f50a28192b23b0c95d4d11905fbead0", func := "pommel/pommellaw08.MarkLengths", spec := "markLengths", inPlace := ["internal/bytealg.IndexByteString", "internal/bytealg.IndexString", "internal/abi.NoEscape", "internal/bytealg.MakeNoZero"], unfollowed := true, recurses := true, named := ["unicode/utf8.first", "unicode/utf8.acceptRanges", "internal/bytealg.MaxLen"], apart := false, laid := [("unicode/utf8.acceptRanges", laid_unicode_utf8_acceptRanges), ("unicode/utf8.first", laid_unicode_utf8_first)] }
def MarkLengthsSaid : Prop := markLengthsRow.holds Tryz.pinned (OpenSpec.ofChange markLengthsSpec)

/-- ITS FALSE NEIGHBOUR: 'it returns false'. Refute it at one input. -/
def markLengthsWrong : ChangeSpec := { name := "markLengths", fn := fun _ => fun
  | [d] => { results := [.lit (.bool false)], args := [d] }
  | _ => none }
def MarkLengthsWrongFalsely : Prop := markLengthsRow.holds Tryz.pinned (OpenSpec.ofChange markLengthsWrong)

/- THE SECOND FORM. 'bulk': how many values and letters a reading holds, each counted each time it is reached (what is shared counts as often as it is met; a slice's spare places count too). A statement '..UptoSaid' is the law's where the arguments, and the package variables that the reading takes, are together of bulk at most 1048576: NARROWER than '..Said'. Prove '..Said' where nothing that the law and all that it calls make is longer than what came in: it says more and counts as full. Else prove '..UptoSaid'. A law counts once. -/
mutual
def uptoBulk {H : Type} : DataW H → Nat
  | .lit (.string bytes) => bytes.length + 1
  | .lit _ => 1
  | .nil => 1
  | .ptr d => uptoBulk d + 1
  | .slice elems spare => uptoBulkAll elems + uptoBulkAll spare + 1
  | .agg parts => uptoBulkAll parts + 1
  | .iface _ d => uptoBulk d + 1
  | .map entries => uptoBulkEntries entries + 1
  | .held _ => 1
def uptoBulkAll {H : Type} : List (DataW H) → Nat
  | [] => 0
  | d :: r => uptoBulk d + uptoBulkAll r
def uptoBulkEntries {H : Type} : List (Lit × DataW H) → Nat
  | [] => 0
  | x :: r => uptoBulkEntry x + uptoBulkEntries r
def uptoBulkEntry {H : Type} : Lit × DataW H → Nat
  | (.string bytes, d) => bytes.length + uptoBulk d + 1
  | (_, d) => uptoBulk d + 1
 end
def uptoSmall : (H : Type) → List (DataW H) → Bool := fun _ ds => decide (uptoBulkAll ds ≤ 1048576)
def OpenSpec.upto (s : _root_.Go.ChangeSpec) : _root_.Go.OpenSpec := { _root_.Go.OpenSpec.ofChange s with cond := some uptoSmall }

/-- 'pommellaw08.MarkUnclear', WHERE WHAT IT READS IS OF BULK AT MOST 1048576: true; the input reads as it did. -/
def markUnclearUptoRow : OpenClaim := { program := "ythplaillblmgfaagreatdoor", sum := "3a33ae56894450819f2ffef641e5627c2f50a28192b23b0c95d4d11905fbead0", func := "pommel/pommellaw08.MarkUnclear", spec := "markUnclear", inPlace := ["internal/bytealg.IndexByteString", "internal/bytealg.IndexString", "internal/abi.NoEscape", "internal/bytealg.MakeNoZero"], unfollowed := true, recurses := true, named := ["unicode/utf8.first", "unicode/utf8.acceptRanges", "internal/bytealg.MaxLen"], apart := false, laid := [("unicode/utf8.acceptRanges", laid_unicode_utf8_acceptRanges), ("unicode/utf8.first", laid_unicode_utf8_first)], narrowed := true }
def MarkUnclearUptoSaid : Prop := markUnclearUptoRow.holds Tryz.pinned (OpenSpec.upto markUnclearSpec)

/-- 'pommellaw08.MarkReads', WHERE WHAT IT READS IS OF BULK AT MOST 1048576: true; the input reads as it did. -/
def markReadsUptoRow : OpenClaim := { program := "ythplaillblmgfaagreatdoor", sum := "3a33ae56894450819f2ffef641e5627c2f50a28192b23b0c95d4d11905fbead0", func := "pommel/pommellaw08.MarkReads", spec := "markReads", inPlace := ["internal/bytealg.IndexByteString", "internal/bytealg.IndexString", "internal/abi.NoEscape", "internal/bytealg.MakeNoZero"], unfollowed := true, recurses := true, named := ["unicode/utf8.first", "unicode/utf8.acceptRanges", "internal/bytealg.MaxLen"], apart := false, laid := [("unicode/utf8.acceptRanges", laid_unicode_utf8_acceptRanges), ("unicode/utf8.first", laid_unicode_utf8_first)], narrowed := true }
def MarkReadsUptoSaid : Prop := markReadsUptoRow.holds Tryz.pinned (OpenSpec.upto markReadsSpec)

/-- 'pommellaw08.MarkClear', WHERE WHAT IT READS IS OF BULK AT MOST 1048576: true; the input reads as it did. -/
def markClearUptoRow : OpenClaim := { program := "ythplaillblmgfaagreatdoor", sum := "3a33ae56894450819f2ffef641e5627c2f50a28192b23b0c95d4d11905fbead0", func := "pommel/pommellaw08.MarkClear", spec := "markClear", inPlace := ["internal/bytealg.IndexByteString", "internal/bytealg.IndexString", "internal/abi.NoEscape", "internal/bytealg.MakeNoZero"], unfollowed := true, recurses := true, named := ["unicode/utf8.first", "unicode/utf8.acceptRanges", "internal/bytealg.MaxLen"], apart := false, laid := [("unicode/utf8.acceptRanges", laid_unicode_utf8_acceptRanges), ("unicode/utf8.first", laid_unicode_utf8_first)], narrowed := true }
def MarkClearUptoSaid : Prop := markClearUptoRow.holds Tryz.pinned (OpenSpec.upto markClearSpec)

/-- 'pommellaw08.MarkKraft', WHERE WHAT IT READS IS OF BULK AT MOST 1048576: true; the input reads as it did. -/
def markKraftUptoRow : OpenClaim := { program := "ythplaillblmgfaagreatdoor", sum := "3a33ae56894450819f2ffef641e5627c2f50a28192b23b0c95d4d11905fbead0", func := "pommel/pommellaw08.MarkKraft", spec := "markKraft", inPlace := ["internal/bytealg.IndexByteString", "internal/bytealg.IndexString", "internal/abi.NoEscape", "internal/bytealg.MakeNoZero"], unfollowed := true, recurses := true, named := ["unicode/utf8.first", "unicode/utf8.acceptRanges", "internal/bytealg.MaxLen"], apart := false, laid := [("unicode/utf8.acceptRanges", laid_unicode_utf8_acceptRanges), ("unicode/utf8.first", laid_unicode_utf8_first)], narrowed := true }
def MarkKraftUptoSaid : Prop := markKraftUptoRow.holds Tryz.pinned (OpenSpec.upto markKraftSpec)

/-- 'pommellaw08.MarkLengths', WHERE WHAT IT READS IS OF BULK AT MOST 1048576: true; the input reads as it did. -/
def markLengthsUptoRow : OpenClaim := { program := "ythplaillblmgfaagreatdoor", sum := "3a33ae56894450819f2ffef641e5627c2f50a28192b23b0c95d4d11905fbead0", func := "pommel/pommellaw08.MarkLengths", spec := "markLengths", inPlace := ["internal/bytealg.IndexByteString", "internal/bytealg.IndexString", "internal/abi.NoEscape", "internal/bytealg.MakeNoZero"], unfollowed := true, recurses := true, named := ["unicode/utf8.first", "unicode/utf8.acceptRanges", "internal/bytealg.MaxLen"], apart := false, laid := [("unicode/utf8.acceptRanges", laid_unicode_utf8_acceptRanges), ("unicode/utf8.first", laid_unicode_utf8_first)], narrowed := true }
def MarkLengthsUptoSaid : Prop := markLengthsUptoRow.holds Tryz.pinned (OpenSpec.upto markLengthsSpec)

end Rows
end Go.Proofs.YthplaillblmgfaaGreatDoor
