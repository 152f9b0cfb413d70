/-
  No cell of these rows narrows 'for every input' (looked for: loops, veiled, ifaces, maps, wideKeys, modest, calm, conditions, laid).
  DERIVED. THE GIVEN ROWS OF THIS SEAT. 13 by the template 'for every input the law returns true; each argument reads behind the call as it read before'; 0 by the template 'total and deterministic' (their statements: YtjdlcokhlphmhaaTotals.lean).
  GIVEN WITH THE SEED: the statements are not yours to turn. If you find one false, say at which input.
  Laid BY PROGRAM, IN A SANDBOX (cutbox-rows.mjs): the forced cells as the released guide's own fill.sh prints them over the translation f3daa501b18f41fe… (all of the seat's roots in one cut). By AI agents, Wed Nov 11 2026. No macro, syntax, notation, axiom, sorry.
-/
import Derived.Test.YtjdlcokhlphmhaaChecked
import GoSem.Claim
import GoSem.ClaimJoined
import GoSem.ClaimMapViews
import Derived.JoinedTies
import Derived.KernelRfl
namespace Go.Proofs.Ytjdlcokhlphmhaa
/- THE CELL 'sum', in the pinned program and in every row, IS THE sha256 OF THE DUMP (.gsa) THAT YtjdlcokhlphmhaaProg.lean LOADS. Nothing in Lean hashes anything: it is a label: what it is worth is what the hold of that sum in a sandbox is worth. -/
noncomputable def Try.pinned : Pinned := { name := "ytjdlcokhlphmhaa", sum := "f3daa501b18f41fe46c3b60dda8f7cabe65008f5d1ba1d04709974ced380976c", checked := Try.checked }
namespace Rows
def none {H : Type} : Left H := { results := [], args := [] }

/-- 'pommellaw03.StitchEquals': WHATEVER THE INPUT: true; the input reads as it did. -/
def stitchEqualsSpec : ChangeSpec := { name := "stitchEquals", fn := fun _ => fun
  | [d1, d2, d3] => { results := [.lit (.bool true)], args := [d1, d2, d3] }
  | _ => none }
def stitchEqualsRow : OpenClaim := { program := "ytjdlcokhlphmhaa", sum := "f3daa501b18f41fe46c3b60dda8f7cabe65008f5d1ba1d04709974ced380976c", func := "pommel/pommellaw03.StitchEquals", spec := "stitchEquals", unfollowed := true, recurses := true, apart := false }
def StitchEqualsSaid : Prop := stitchEqualsRow.holds Try.pinned (OpenSpec.ofChange stitchEqualsSpec)

/-- ITS FALSE NEIGHBOUR: 'it returns false'. Refute it at one input. -/
def stitchEqualsWrong : ChangeSpec := { name := "stitchEquals", fn := fun _ => fun
  | [d1, d2, d3] => { results := [.lit (.bool false)], args := [d1, d2, d3] }
  | _ => none }
def StitchEqualsWrongFalsely : Prop := stitchEqualsRow.holds Try.pinned (OpenSpec.ofChange stitchEqualsWrong)

/-- 'pommellaw03.StitchCounts': WHATEVER THE INPUT: true; the input reads as it did. -/
def stitchCountsSpec : ChangeSpec := { name := "stitchCounts", fn := fun _ => fun
  | [d1, d2] => { results := [.lit (.bool true)], args := [d1, d2] }
  | _ => none }
def stitchCountsRow : OpenClaim := { program := "ytjdlcokhlphmhaa", sum := "f3daa501b18f41fe46c3b60dda8f7cabe65008f5d1ba1d04709974ced380976c", func := "pommel/pommellaw03.StitchCounts", spec := "stitchCounts", unfollowed := true, recurses := true, apart := false }
def StitchCountsSaid : Prop := stitchCountsRow.holds Try.pinned (OpenSpec.ofChange stitchCountsSpec)

/-- ITS FALSE NEIGHBOUR: 'it returns false'. Refute it at one input. -/
def stitchCountsWrong : ChangeSpec := { name := "stitchCounts", fn := fun _ => fun
  | [d1, d2] => { results := [.lit (.bool false)], args := [d1, d2] }
  | _ => none }
def StitchCountsWrongFalsely : Prop := stitchCountsRow.holds Try.pinned (OpenSpec.ofChange stitchCountsWrong)

/-- 'pommellaw03.StitchPairs': WHATEVER THE INPUT: true; the input reads as it did. -/
def stitchPairsSpec : ChangeSpec := { name := "stitchPairs", fn := fun _ => fun
  | [d1, d2, d3] => { results := [.lit (.bool true)], args := [d1, d2, d3] }
  | _ => none }
def stitchPairsRow : OpenClaim := { program := "ytjdlcokhlphmhaa", sum := "f3daa501b18f41fe46c3b60dda8f7cabe65008f5d1ba1d04709974ced380976c", func := "pommel/pommellaw03.StitchPairs", spec := "stitchPairs", unfollowed := true, recurses := true, apart := false }
def StitchPairsSaid : Prop := stitchPairsRow.holds Try.pinned (OpenSpec.ofChange stitchPairsSpec)

/-- ITS FALSE NEIGHBOUR: 'it returns false'. Refute it at one input. -/
def stitchPairsWrong : ChangeSpec := { name := "stitchPairs", fn := fun _ => fun
  | [d1, d2, d3] => { results := [.lit (.bool false)], args := [d1, d2, d3] }
  | _ => none }
def StitchPairsWrongFalsely : Prop := stitchPairsRow.holds Try.pinned (OpenSpec.ofChange stitchPairsWrong)

/-- 'pommellaw03.StitchCartier': WHATEVER THE INPUT: true; the input reads as it did. -/
def stitchCartierSpec : ChangeSpec := { name := "stitchCartier", fn := fun _ => fun
  | [d1, d2] => { results := [.lit (.bool true)], args := [d1, d2] }
  | _ => none }
def stitchCartierRow : OpenClaim := { program := "ytjdlcokhlphmhaa", sum := "f3daa501b18f41fe46c3b60dda8f7cabe65008f5d1ba1d04709974ced380976c", func := "pommel/pommellaw03.StitchCartier", spec := "stitchCartier", unfollowed := true, recurses := true, apart := false }
def StitchCartierSaid : Prop := stitchCartierRow.holds Try.pinned (OpenSpec.ofChange stitchCartierSpec)

/-- ITS FALSE NEIGHBOUR: 'it returns false'. Refute it at one input. -/
def stitchCartierWrong : ChangeSpec := { name := "stitchCartier", fn := fun _ => fun
  | [d1, d2] => { results := [.lit (.bool false)], args := [d1, d2] }
  | _ => none }
def StitchCartierWrongFalsely : Prop := stitchCartierRow.holds Try.pinned (OpenSpec.ofChange stitchCartierWrong)

/-- 'pommellaw03.StitchFree': WHATEVER THE INPUT: true; the input reads as it did. -/
def stitchFreeSpec : ChangeSpec := { name := "stitchFree", fn := fun _ => fun
  | [d1, d2, d3] => { results := [.lit (.bool true)], args := [d1, d2, d3] }
  | _ => none }
def stitchFreeRow : OpenClaim := { program := "ytjdlcokhlphmhaa", sum := "f3daa501b18f41fe46c3b60dda8f7cabe65008f5d1ba1d04709974ced380976c", func := "pommel/pommellaw03.StitchFree", spec := "stitchFree", unfollowed := true, recurses := true, apart := false }
def StitchFreeSaid : Prop := stitchFreeRow.holds Try.pinned (OpenSpec.ofChange stitchFreeSpec)

/-- ITS FALSE NEIGHBOUR: 'it returns false'. Refute it at one input. -/
def stitchFreeWrong : ChangeSpec := { name := "stitchFree", fn := fun _ => fun
  | [d1, d2, d3] => { results := [.lit (.bool false)], args := [d1, d2, d3] }
  | _ => none }
def StitchFreeWrongFalsely : Prop := stitchFreeRow.holds Try.pinned (OpenSpec.ofChange stitchFreeWrong)

/-- 'pommellaw03.StitchSteps': WHATEVER THE INPUT: true; the input reads as it did. -/
def stitchStepsSpec : ChangeSpec := { name := "stitchSteps", fn := fun _ => fun
  | [d1, d2] => { results := [.lit (.bool true)], args := [d1, d2] }
  | _ => none }
def stitchStepsRow : OpenClaim := { program := "ytjdlcokhlphmhaa", sum := "f3daa501b18f41fe46c3b60dda8f7cabe65008f5d1ba1d04709974ced380976c", func := "pommel/pommellaw03.StitchSteps", spec := "stitchSteps", unfollowed := true, recurses := true, apart := false }
def StitchStepsSaid : Prop := stitchStepsRow.holds Try.pinned (OpenSpec.ofChange stitchStepsSpec)

/-- ITS FALSE NEIGHBOUR: 'it returns false'. Refute it at one input. -/
def stitchStepsWrong : ChangeSpec := { name := "stitchSteps", fn := fun _ => fun
  | [d1, d2] => { results := [.lit (.bool false)], args := [d1, d2] }
  | _ => none }
def StitchStepsWrongFalsely : Prop := stitchStepsRow.holds Try.pinned (OpenSpec.ofChange stitchStepsWrong)

/-- 'pommellaw03.StitchMeets': WHATEVER THE INPUT: true; the input reads as it did. -/
def stitchMeetsSpec : ChangeSpec := { name := "stitchMeets", fn := fun _ => fun
  | [d1, d2, d3] => { results := [.lit (.bool true)], args := [d1, d2, d3] }
  | _ => none }
def stitchMeetsRow : OpenClaim := { program := "ytjdlcokhlphmhaa", sum := "f3daa501b18f41fe46c3b60dda8f7cabe65008f5d1ba1d04709974ced380976c", func := "pommel/pommellaw03.StitchMeets", spec := "stitchMeets", unfollowed := true, recurses := true, apart := false }
def StitchMeetsSaid : Prop := stitchMeetsRow.holds Try.pinned (OpenSpec.ofChange stitchMeetsSpec)

/-- ITS FALSE NEIGHBOUR: 'it returns false'. Refute it at one input. -/
def stitchMeetsWrong : ChangeSpec := { name := "stitchMeets", fn := fun _ => fun
  | [d1, d2, d3] => { results := [.lit (.bool false)], args := [d1, d2, d3] }
  | _ => none }
def StitchMeetsWrongFalsely : Prop := stitchMeetsRow.holds Try.pinned (OpenSpec.ofChange stitchMeetsWrong)

/-- 'pommellaw03.StitchRests': WHATEVER THE INPUT: true; the input reads as it did. -/
def stitchRestsSpec : ChangeSpec := { name := "stitchRests", fn := fun _ => fun
  | [d1, d2, d3] => { results := [.lit (.bool true)], args := [d1, d2, d3] }
  | _ => none }
def stitchRestsRow : OpenClaim := { program := "ytjdlcokhlphmhaa", sum := "f3daa501b18f41fe46c3b60dda8f7cabe65008f5d1ba1d04709974ced380976c", func := "pommel/pommellaw03.StitchRests", spec := "stitchRests", unfollowed := true, recurses := true, apart := false }
def StitchRestsSaid : Prop := stitchRestsRow.holds Try.pinned (OpenSpec.ofChange stitchRestsSpec)

/-- ITS FALSE NEIGHBOUR: 'it returns false'. Refute it at one input. -/
def stitchRestsWrong : ChangeSpec := { name := "stitchRests", fn := fun _ => fun
  | [d1, d2, d3] => { results := [.lit (.bool false)], args := [d1, d2, d3] }
  | _ => none }
def StitchRestsWrongFalsely : Prop := stitchRestsRow.holds Try.pinned (OpenSpec.ofChange stitchRestsWrong)

/-- 'pommellaw03.StitchLevi': WHATEVER THE INPUT: true; the input reads as it did. -/
def stitchLeviSpec : ChangeSpec := { name := "stitchLevi", fn := fun _ => fun
  | [d1, d2, d3] => { results := [.lit (.bool true)], args := [d1, d2, d3] }
  | _ => none }
def stitchLeviRow : OpenClaim := { program := "ytjdlcokhlphmhaa", sum := "f3daa501b18f41fe46c3b60dda8f7cabe65008f5d1ba1d04709974ced380976c", func := "pommel/pommellaw03.StitchLevi", spec := "stitchLevi", unfollowed := true, recurses := true, apart := false }
def StitchLeviSaid : Prop := stitchLeviRow.holds Try.pinned (OpenSpec.ofChange stitchLeviSpec)

/-- ITS FALSE NEIGHBOUR: 'it returns false'. Refute it at one input. -/
def stitchLeviWrong : ChangeSpec := { name := "stitchLevi", fn := fun _ => fun
  | [d1, d2, d3] => { results := [.lit (.bool false)], args := [d1, d2, d3] }
  | _ => none }
def StitchLeviWrongFalsely : Prop := stitchLeviRow.holds Try.pinned (OpenSpec.ofChange stitchLeviWrong)

/-- 'pommellaw03.StitchWays': WHATEVER THE INPUT: true; the input reads as it did. -/
def stitchWaysSpec : ChangeSpec := { name := "stitchWays", fn := fun _ => fun
  | [d1, d2] => { results := [.lit (.bool true)], args := [d1, d2] }
  | _ => none }
def stitchWaysRow : OpenClaim := { program := "ytjdlcokhlphmhaa", sum := "f3daa501b18f41fe46c3b60dda8f7cabe65008f5d1ba1d04709974ced380976c", func := "pommel/pommellaw03.StitchWays", spec := "stitchWays", unfollowed := true, recurses := true, apart := false }
def StitchWaysSaid : Prop := stitchWaysRow.holds Try.pinned (OpenSpec.ofChange stitchWaysSpec)

/-- ITS FALSE NEIGHBOUR: 'it returns false'. Refute it at one input. -/
def stitchWaysWrong : ChangeSpec := { name := "stitchWays", fn := fun _ => fun
  | [d1, d2] => { results := [.lit (.bool false)], args := [d1, d2] }
  | _ => none }
def StitchWaysWrongFalsely : Prop := stitchWaysRow.holds Try.pinned (OpenSpec.ofChange stitchWaysWrong)

/-- 'pommellaw03.StitchRest': WHATEVER THE INPUT: true; the input reads as it did. -/
def stitchRestSpec : ChangeSpec := { name := "stitchRest", fn := fun _ => fun
  | [d1, d2, d3] => { results := [.lit (.bool true)], args := [d1, d2, d3] }
  | _ => none }
def stitchRestRow : OpenClaim := { program := "ytjdlcokhlphmhaa", sum := "f3daa501b18f41fe46c3b60dda8f7cabe65008f5d1ba1d04709974ced380976c", func := "pommel/pommellaw03.StitchRest", spec := "stitchRest", unfollowed := true, recurses := true, apart := false }
def StitchRestSaid : Prop := stitchRestRow.holds Try.pinned (OpenSpec.ofChange stitchRestSpec)

/-- ITS FALSE NEIGHBOUR: 'it returns false'. Refute it at one input. -/
def stitchRestWrong : ChangeSpec := { name := "stitchRest", fn := fun _ => fun
  | [d1, d2, d3] => { results := [.lit (.bool false)], args := [d1, d2, d3] }
  | _ => none }
def StitchRestWrongFalsely : Prop := stitchRestRow.holds Try.pinned (OpenSpec.ofChange stitchRestWrong)

/-- 'pommellaw03.StitchForms': WHATEVER THE INPUT: true; the input reads as it did. -/
def stitchFormsSpec : ChangeSpec := { name := "stitchForms", fn := fun _ => fun
  | [d1, d2, d3] => { results := [.lit (.bool true)], args := [d1, d2, d3] }
  | _ => none }
def stitchFormsRow : OpenClaim := { program := "ytjdlcokhlphmhaa", sum := "f3daa501b18f41fe46c3b60dda8f7cabe65008f5d1ba1d04709974ced380976c", func := "pommel/pommellaw03.StitchForms", spec := "stitchForms", unfollowed := true, recurses := true, apart := false }
def StitchFormsSaid : Prop := stitchFormsRow.holds Try.pinned (OpenSpec.ofChange stitchFormsSpec)

/-- ITS FALSE NEIGHBOUR: 'it returns false'. Refute it at one input. -/
def stitchFormsWrong : ChangeSpec := { name := "stitchForms", fn := fun _ => fun
  | [d1, d2, d3] => { results := [.lit (.bool false)], args := [d1, d2, d3] }
  | _ => none }
def StitchFormsWrongFalsely : Prop := stitchFormsRow.holds Try.pinned (OpenSpec.ofChange stitchFormsWrong)

/-- 'pommellaw03.StitchLattice': WHATEVER THE INPUT: true; the input reads as it did. -/
def stitchLatticeSpec : ChangeSpec := { name := "stitchLattice", fn := fun _ => fun
  | [d1, d2, d3] => { results := [.lit (.bool true)], args := [d1, d2, d3] }
  | _ => none }
def stitchLatticeRow : OpenClaim := { program := "ytjdlcokhlphmhaa", sum := "f3daa501b18f41fe46c3b60dda8f7cabe65008f5d1ba1d04709974ced380976c", func := "pommel/pommellaw03.StitchLattice", spec := "stitchLattice", unfollowed := true, recurses := true, apart := false }
def StitchLatticeSaid : Prop := stitchLatticeRow.holds Try.pinned (OpenSpec.ofChange stitchLatticeSpec)

/-- ITS FALSE NEIGHBOUR: 'it returns false'. Refute it at one input. -/
def stitchLatticeWrong : ChangeSpec := { name := "stitchLattice", fn := fun _ => fun
  | [d1, d2, d3] => { results := [.lit (.bool false)], args := [d1, d2, d3] }
  | _ => none }
def StitchLatticeWrongFalsely : Prop := stitchLatticeRow.holds Try.pinned (OpenSpec.ofChange stitchLatticeWrong)

/- THE SECOND FORM. 'bulk': how many values and letters a reading holds, each counted each time it is reached (what is shared counts as often as it is met; a slice's spare places count too). A statement '..UptoSaid' is the law's where the arguments, and the package variables that the reading takes, are together of bulk at most 1048576: NARROWER than '..Said'. Prove '..Said' where nothing that the law and all that it calls make is longer than what came in: it says more and counts as full. Else prove '..UptoSaid'. A law counts once. -/
mutual
def uptoBulk {H : Type} : DataW H → Nat
  | .lit (.string bytes) => bytes.length + 1
  | .lit _ => 1
  | .nil => 1
  | .ptr d => uptoBulk d + 1
  | .slice elems spare => uptoBulkAll elems + uptoBulkAll spare + 1
  | .agg parts => uptoBulkAll parts + 1
  | .iface _ d => uptoBulk d + 1
  | .map entries => uptoBulkEntries entries + 1
  | .held _ => 1
def uptoBulkAll {H : Type} : List (DataW H) → Nat
  | [] => 0
  | d :: r => uptoBulk d + uptoBulkAll r
def uptoBulkEntries {H : Type} : List (Lit × DataW H) → Nat
  | [] => 0
  | x :: r => uptoBulkEntry x + uptoBulkEntries r
def uptoBulkEntry {H : Type} : Lit × DataW H → Nat
  | (.string bytes, d) => bytes.length + uptoBulk d + 1
  | (_, d) => uptoBulk d + 1
 end
def uptoSmall : (H : Type) → List (DataW H) → Bool := fun _ ds => decide (uptoBulkAll ds ≤ 1048576)
def OpenSpec.upto (s : _root_.Go.ChangeSpec) : _root_.Go.OpenSpec := { _root_.Go.OpenSpec.ofChange s with cond := some uptoSmall }

/-- 'pommellaw03.StitchEquals', WHERE WHAT IT READS IS OF BULK AT MOST 1048576: true; the input reads as it did. -/
def stitchEqualsUptoRow : OpenClaim := { program := "ytjdlcokhlphmhaa", sum := "f3daa501b18f41fe46c3b60dda8f7cabe65008f5d1ba1d04709974ced380976c", func := "pommel/pommellaw03.StitchEquals", spec := "stitchEquals", unfollowed := true, recurses := true, apart := false, narrowed := true }
def StitchEqualsUptoSaid : Prop := stitchEqualsUptoRow.holds Try.pinned (OpenSpec.upto stitchEqualsSpec)

/-- 'pommellaw03.StitchCounts', WHERE WHAT IT READS IS OF BULK AT MOST 1048576: true; the input reads as it did. -/
def stitchCountsUptoRow : OpenClaim := { program := "ytjdlcokhlphmhaa", sum := "f3daa501b18f41fe46c3b60dda8f7cabe65008f5d1ba1d04709974ced380976c", func := "pommel/pommellaw03.StitchCounts", spec := "stitchCounts", unfollowed := true, recurses := true, apart := false, narrowed := true }
def StitchCountsUptoSaid : Prop := stitchCountsUptoRow.holds Try.pinned (OpenSpec.upto stitchCountsSpec)

/-- 'pommellaw03.StitchPairs', WHERE WHAT IT READS IS OF BULK AT MOST 1048576: true; the input reads as it did. -/
def stitchPairsUptoRow : OpenClaim := { program := "ytjdlcokhlphmhaa", sum := "f3daa501b18f41fe46c3b60dda8f7cabe65008f5d1ba1d04709974ced380976c", func := "pommel/pommellaw03.StitchPairs", spec := "stitchPairs", unfollowed := true, recurses := true, apart := false, narrowed := true }
def StitchPairsUptoSaid : Prop := stitchPairsUptoRow.holds Try.pinned (OpenSpec.upto stitchPairsSpec)

/-- 'pommellaw03.StitchCartier', WHERE WHAT IT READS IS OF BULK AT MOST 1048576: true; the input reads as it did. -/
def stitchCartierUptoRow : OpenClaim := { program := "ytjdlcokhlphmhaa", sum := "f3daa501b18f41fe46c3b60dda8f7cabe65008f5d1ba1d04709974ced380976c", func := "pommel/pommellaw03.StitchCartier", spec := "stitchCartier", unfollowed := true, recurses := true, apart := false, narrowed := true }
def StitchCartierUptoSaid : Prop := stitchCartierUptoRow.holds Try.pinned (OpenSpec.upto stitchCartierSpec)

/-- 'pommellaw03.StitchFree', WHERE WHAT IT READS IS OF BULK AT MOST 1048576: true; the input reads as it did. -/
def stitchFreeUptoRow : OpenClaim := { program := "ytjdlcokhlphmhaa", sum := "f3daa501b18f41fe46c3b60dda8f7cabe65008f5d1ba1d04709974ced380976c", func := "pommel/pommellaw03.StitchFree", spec := "stitchFree", unfollowed := true, recurses := true, apart := false, narrowed := true }
def StitchFreeUptoSaid : Prop := stitchFreeUptoRow.holds Try.pinned (OpenSpec.upto stitchFreeSpec)

/-- 'pommellaw03.StitchSteps', WHERE WHAT IT READS IS OF BULK AT MOST 1048576: true; the input reads as it did. -/
def stitchStepsUptoRow : OpenClaim := { program := "ytjdlcokhlphmhaa", sum := "f3daa501b18f41fe46c3b60dda8f7cabe65008f5d1ba1d04709974ced380976c", func := "pommel/pommellaw03.StitchSteps", spec := "stitchSteps", unfollowed := true, recurses := true, apart := false, narrowed := true }
def StitchStepsUptoSaid : Prop := stitchStepsUptoRow.holds Try.pinned (OpenSpec.upto stitchStepsSpec)

/-- 'pommellaw03.StitchMeets', WHERE WHAT IT READS IS OF BULK AT MOST 1048576: true; the input reads as it did. -/
def stitchMeetsUptoRow : OpenClaim := { program := "ytjdlcokhlphmhaa", sum := "f3daa501b18f41fe46c3b60dda8f7cabe65008f5d1ba1d04709974ced380976c", func := "pommel/pommellaw03.StitchMeets", spec := "stitchMeets", unfollowed := true, recurses := true, apart := false, narrowed := true }
def StitchMeetsUptoSaid : Prop := stitchMeetsUptoRow.holds Try.pinned (OpenSpec.upto stitchMeetsSpec)

/-- 'pommellaw03.StitchRests', WHERE WHAT IT READS IS OF BULK AT MOST 1048576: true; the input reads as it did. -/
def stitchRestsUptoRow : OpenClaim := { program := "ytjdlcokhlphmhaa", sum := "f3daa501b18f41fe46c3b60dda8f7cabe65008f5d1ba1d04709974ced380976c", func := "pommel/pommellaw03.StitchRests", spec := "stitchRests", unfollowed := true, recurses := true, apart := false, narrowed := true }
def StitchRestsUptoSaid : Prop := stitchRestsUptoRow.holds Try.pinned (OpenSpec.upto stitchRestsSpec)

/-- 'pommellaw03.StitchLevi', WHERE WHAT IT READS IS OF BULK AT MOST 1048576: true; the input reads as it did. -/
def stitchLeviUptoRow : OpenClaim := { program := "ytjdlcokhlphmhaa", sum := "f3daa501b18f41fe46c3b60dda8f7cabe65008f5d1ba1d04709974ced380976c", func := "pommel/pommellaw03.StitchLevi", spec := "stitchLevi", unfollowed := true, recurses := true, apart := false, narrowed := true }
def StitchLeviUptoSaid : Prop := stitchLeviUptoRow.holds Try.pinned (OpenSpec.upto stitchLeviSpec)

/-- 'pommellaw03.StitchWays', WHERE WHAT IT READS IS OF BULK AT MOST 1048576: true; the input reads as it did. -/
def stitchWaysUptoRow : OpenClaim := { program := "ytjdlcokhlphmhaa", sum := "f3daa501b18f41fe46c3b60dda8f7cabe65008f5d1ba1d04709974ced380976c", func := "pommel/pommellaw03.StitchWays", spec := "stitchWays", unfollowed := true, recurses := true, apart := false, narrowed := true }
def StitchWaysUptoSaid : Prop := stitchWaysUptoRow.holds Try.pinned (OpenSpec.upto stitchWaysSpec)

/-- 'pommellaw03.StitchRest', WHERE WHAT IT READS IS OF BULK AT MOST 1048576: true; the input reads as it did. -/
def stitchRestUptoRow : OpenClaim := { program := "ytjdlcokhlphmhaa", sum := "f3daa501b18f41fe46c3b60dda8f7cabe65008f5d1ba1d04709974ced380976c", func := "pommel/pommellaw03.StitchRest", spec := "stitchRest", unfollowed := true, recurses := true, apart := false, narrowed := true }
def StitchRestUptoSaid : Prop := stitchRestUptoRow.holds Try.pinned (OpenSpec.upto stitchRestSpec)

/-- 'pommellaw03.StitchForms', WHERE WHAT IT READS IS OF BULK AT MOST 1048576: true; the input reads as it did. -/
def stitchFormsUptoRow : OpenClaim := { program := "ytjdlcokhlphmhaa", sum := "f3daa501b18f41fe46c3b60dda8f7cabe65008f5d1ba1d04709974ced380976c", func := "pommel/pommellaw03.StitchForms", spec := "stitchForms", unfollowed := true, recurses := true, apart := false, narrowed := true }
def StitchFormsUptoSaid : Prop := stitchFormsUptoRow.holds Try.pinned (OpenSpec.upto stitchFormsSpec)

/-- 'pommellaw03.StitchLattice', WHERE WHAT IT READS IS OF BULK AT MOST 1048576: true; the input reads as it did. -/
def stitchLatticeUptoRow : OpenClaim := { program := "ytjdlcokhlphmhaa", sum := "f3daa501b18f41fe46c3b60dda8f7cabe65008f5d1ba1d04709974ced380976c", func := "pommel/pommellaw03.StitchLattice", spec := "stitchLattice", unfollowed := true, recurses := true, apart := false, narrowed := true }
def StitchLatticeUptoSaid : Prop := stitchLatticeUptoRow.holds Try.pinned (OpenSpec.upto stitchLatticeSpec)

end Rows
end Go.Proofs.Ytjdlcokhlphmhaa
