/-
  No cell of these rows narrows 'for every input' (looked for: loops, veiled, ifaces, maps, wideKeys, modest, calm, conditions, laid).
  DERIVED. THE GIVEN ROWS OF THIS SEAT. 7 by the template 'for every input the law returns true; each argument reads behind the call as it read before'; 0 by the template 'total and deterministic' (their statements: YtelmdbpaoifmoaaTotals.lean).
  GIVEN WITH THE SEED: the statements are not yours to turn. If you find one false, say at which input.
  Laid BY PROGRAM, IN A SANDBOX (cutbox-rows.mjs): the forced cells as the released guide's own fill.sh prints them over the translation 52fbcfb47a5d3e18… (all of the seat's roots in one cut). By AI agents, Wed Nov 11 2026. No macro, syntax, notation, axiom, sorry.
-/
import Derived.Test.YtelmdbpaoifmoaaChecked
import GoSem.Claim
import GoSem.ClaimJoined
import GoSem.ClaimMapViews
import Derived.JoinedTies
import Derived.KernelRfl
namespace Go.Proofs.Ytelmdbpaoifmoaa
/- THE CELL 'sum', in the pinned program and in every row, IS THE sha256 OF THE DUMP (.gsa) THAT YtelmdbpaoifmoaaProg.lean LOADS. Nothing in Lean hashes anything: it is a label: what it is worth is what the hold of that sum in a sandbox is worth. -/
noncomputable def Try.pinned : Pinned := { name := "ytelmdbpaoifmoaa", sum := "52fbcfb47a5d3e189d3a78ae7d0322fe2bc547b9efc6f334c94f6680781036c4", checked := Try.checked }
namespace Rows
def none {H : Type} : Left H := { results := [], args := [] }

/-- 'pommellaw06.MendSmith': WHATEVER THE INPUT: true; the input reads as it did. -/
def mendSmithSpec : ChangeSpec := { name := "mendSmith", fn := fun _ => fun
  | [d] => { results := [.lit (.bool true)], args := [d] }
  | _ => none }
def mendSmithRow : OpenClaim := { program := "ytelmdbpaoifmoaa", sum := "52fbcfb47a5d3e189d3a78ae7d0322fe2bc547b9efc6f334c94f6680781036c4", func := "pommel/pommellaw06.MendSmith", spec := "mendSmith", inPlace := ["internal/bytealg.IndexByteString", "internal/bytealg.IndexString"], unfollowed := true, recurses := true, named := ["internal/bytealg.MaxLen"], plainKeys := false, apart := false }
def MendSmithSaid : Prop := mendSmithRow.holds Try.pinned (OpenSpec.ofChange mendSmithSpec)

/-- ITS FALSE NEIGHBOUR: 'it returns false'. Refute it at one input. -/
def mendSmithWrong : ChangeSpec := { name := "mendSmith", fn := fun _ => fun
  | [d] => { results := [.lit (.bool false)], args := [d] }
  | _ => none }
def MendSmithWrongFalsely : Prop := mendSmithRow.holds Try.pinned (OpenSpec.ofChange mendSmithWrong)

/-- 'pommellaw06.MendCosts': WHATEVER THE INPUT: true; the input reads as it did. -/
def mendCostsSpec : ChangeSpec := { name := "mendCosts", fn := fun _ => fun
  | [d1, d2] => { results := [.lit (.bool true)], args := [d1, d2] }
  | _ => none }
def mendCostsRow : OpenClaim := { program := "ytelmdbpaoifmoaa", sum := "52fbcfb47a5d3e189d3a78ae7d0322fe2bc547b9efc6f334c94f6680781036c4", func := "pommel/pommellaw06.MendCosts", spec := "mendCosts", inPlace := ["internal/bytealg.IndexByteString", "internal/bytealg.IndexString"], unfollowed := true, recurses := true, named := ["internal/bytealg.MaxLen"], plainKeys := false, apart := false }
def MendCostsSaid : Prop := mendCostsRow.holds Try.pinned (OpenSpec.ofChange mendCostsSpec)

/-- ITS FALSE NEIGHBOUR: 'it returns false'. Refute it at one input. -/
def mendCostsWrong : ChangeSpec := { name := "mendCosts", fn := fun _ => fun
  | [d1, d2] => { results := [.lit (.bool false)], args := [d1, d2] }
  | _ => none }
def MendCostsWrongFalsely : Prop := mendCostsRow.holds Try.pinned (OpenSpec.ofChange mendCostsWrong)

/-- 'pommellaw06.MendBests': WHATEVER THE INPUT: true; the input reads as it did. -/
def mendBestsSpec : ChangeSpec := { name := "mendBests", fn := fun _ => fun
  | [d] => { results := [.lit (.bool true)], args := [d] }
  | _ => none }
def mendBestsRow : OpenClaim := { program := "ytelmdbpaoifmoaa", sum := "52fbcfb47a5d3e189d3a78ae7d0322fe2bc547b9efc6f334c94f6680781036c4", func := "pommel/pommellaw06.MendBests", spec := "mendBests", inPlace := ["internal/bytealg.IndexByteString", "internal/bytealg.IndexString"], unfollowed := true, recurses := true, named := ["internal/bytealg.MaxLen"], plainKeys := false, apart := false }
def MendBestsSaid : Prop := mendBestsRow.holds Try.pinned (OpenSpec.ofChange mendBestsSpec)

/-- ITS FALSE NEIGHBOUR: 'it returns false'. Refute it at one input. -/
def mendBestsWrong : ChangeSpec := { name := "mendBests", fn := fun _ => fun
  | [d] => { results := [.lit (.bool false)], args := [d] }
  | _ => none }
def MendBestsWrongFalsely : Prop := mendBestsRow.holds Try.pinned (OpenSpec.ofChange mendBestsWrong)

/-- 'pommellaw06.MendLeast': WHATEVER THE INPUT: true; the input reads as it did. -/
def mendLeastSpec : ChangeSpec := { name := "mendLeast", fn := fun _ => fun
  | [d] => { results := [.lit (.bool true)], args := [d] }
  | _ => none }
def mendLeastRow : OpenClaim := { program := "ytelmdbpaoifmoaa", sum := "52fbcfb47a5d3e189d3a78ae7d0322fe2bc547b9efc6f334c94f6680781036c4", func := "pommel/pommellaw06.MendLeast", spec := "mendLeast", inPlace := ["internal/bytealg.IndexByteString", "internal/bytealg.IndexString"], unfollowed := true, recurses := true, named := ["internal/bytealg.MaxLen"], plainKeys := false, apart := false }
def MendLeastSaid : Prop := mendLeastRow.holds Try.pinned (OpenSpec.ofChange mendLeastSpec)

/-- ITS FALSE NEIGHBOUR: 'it returns false'. Refute it at one input. -/
def mendLeastWrong : ChangeSpec := { name := "mendLeast", fn := fun _ => fun
  | [d] => { results := [.lit (.bool false)], args := [d] }
  | _ => none }
def MendLeastWrongFalsely : Prop := mendLeastRow.holds Try.pinned (OpenSpec.ofChange mendLeastWrong)

/-- 'pommellaw06.MendPairs': WHATEVER THE INPUT: true; the input reads as it did. -/
def mendPairsSpec : ChangeSpec := { name := "mendPairs", fn := fun _ => fun
  | [d1, d2, d3] => { results := [.lit (.bool true)], args := [d1, d2, d3] }
  | _ => none }
def mendPairsRow : OpenClaim := { program := "ytelmdbpaoifmoaa", sum := "52fbcfb47a5d3e189d3a78ae7d0322fe2bc547b9efc6f334c94f6680781036c4", func := "pommel/pommellaw06.MendPairs", spec := "mendPairs", inPlace := ["internal/bytealg.IndexByteString", "internal/bytealg.IndexString"], unfollowed := true, recurses := true, named := ["internal/bytealg.MaxLen"], plainKeys := false, apart := false }
def MendPairsSaid : Prop := mendPairsRow.holds Try.pinned (OpenSpec.ofChange mendPairsSpec)

/-- ITS FALSE NEIGHBOUR: 'it returns false'. Refute it at one input. -/
def mendPairsWrong : ChangeSpec := { name := "mendPairs", fn := fun _ => fun
  | [d1, d2, d3] => { results := [.lit (.bool false)], args := [d1, d2, d3] }
  | _ => none }
def MendPairsWrongFalsely : Prop := mendPairsRow.holds Try.pinned (OpenSpec.ofChange mendPairsWrong)

/-- 'pommellaw06.MendTurned': WHATEVER THE INPUT: true; the input reads as it did. -/
def mendTurnedSpec : ChangeSpec := { name := "mendTurned", fn := fun _ => fun
  | [d1, d2] => { results := [.lit (.bool true)], args := [d1, d2] }
  | _ => none }
def mendTurnedRow : OpenClaim := { program := "ytelmdbpaoifmoaa", sum := "52fbcfb47a5d3e189d3a78ae7d0322fe2bc547b9efc6f334c94f6680781036c4", func := "pommel/pommellaw06.MendTurned", spec := "mendTurned", inPlace := ["internal/bytealg.IndexByteString", "internal/bytealg.IndexString"], unfollowed := true, recurses := true, named := ["internal/bytealg.MaxLen"], plainKeys := false, apart := false }
def MendTurnedSaid : Prop := mendTurnedRow.holds Try.pinned (OpenSpec.ofChange mendTurnedSpec)

/-- ITS FALSE NEIGHBOUR: 'it returns false'. Refute it at one input. -/
def mendTurnedWrong : ChangeSpec := { name := "mendTurned", fn := fun _ => fun
  | [d1, d2] => { results := [.lit (.bool false)], args := [d1, d2] }
  | _ => none }
def MendTurnedWrongFalsely : Prop := mendTurnedRow.holds Try.pinned (OpenSpec.ofChange mendTurnedWrong)

/-- 'pommellaw06.MendBlocks': WHATEVER THE INPUT: true; the input reads as it did. -/
def mendBlocksSpec : ChangeSpec := { name := "mendBlocks", fn := fun _ => fun
  | [d1, d2, d3] => { results := [.lit (.bool true)], args := [d1, d2, d3] }
  | _ => none }
def mendBlocksRow : OpenClaim := { program := "ytelmdbpaoifmoaa", sum := "52fbcfb47a5d3e189d3a78ae7d0322fe2bc547b9efc6f334c94f6680781036c4", func := "pommel/pommellaw06.MendBlocks", spec := "mendBlocks", inPlace := ["internal/bytealg.IndexByteString", "internal/bytealg.IndexString"], unfollowed := true, recurses := true, named := ["internal/bytealg.MaxLen"], plainKeys := false, apart := false }
def MendBlocksSaid : Prop := mendBlocksRow.holds Try.pinned (OpenSpec.ofChange mendBlocksSpec)

/-- ITS FALSE NEIGHBOUR: 'it returns false'. Refute it at one input. -/
def mendBlocksWrong : ChangeSpec := { name := "mendBlocks", fn := fun _ => fun
  | [d1, d2, d3] => { results := [.lit (.bool false)], args := [d1, d2, d3] }
  | _ => none }
def MendBlocksWrongFalsely : Prop := mendBlocksRow.holds Try.pinned (OpenSpec.ofChange mendBlocksWrong)

/- THE SECOND FORM. 'bulk': how many values and letters a reading holds, each counted each time it is reached (what is shared counts as often as it is met; a slice's spare places count too). A statement '..UptoSaid' is the law's where the arguments, and the package variables that the reading takes, are together of bulk at most 1048576: NARROWER than '..Said'. Prove '..Said' where nothing that the law and all that it calls make is longer than what came in: it says more and counts as full. Else prove '..UptoSaid'. A law counts once. -/
mutual
def uptoBulk {H : Type} : DataW H → Nat
  | .lit (.string bytes) => bytes.length + 1
  | .lit _ => 1
  | .nil => 1
  | .ptr d => uptoBulk d + 1
  | .slice elems spare => uptoBulkAll elems + uptoBulkAll spare + 1
  | .agg parts => uptoBulkAll parts + 1
  | .iface _ d => uptoBulk d + 1
  | .map entries => uptoBulkEntries entries + 1
  | .held _ => 1
def uptoBulkAll {H : Type} : List (DataW H) → Nat
  | [] => 0
  | d :: r => uptoBulk d + uptoBulkAll r
def uptoBulkEntries {H : Type} : List (Lit × DataW H) → Nat
  | [] => 0
  | x :: r => uptoBulkEntry x + uptoBulkEntries r
def uptoBulkEntry {H : Type} : Lit × DataW H → Nat
  | (.string bytes, d) => bytes.length + uptoBulk d + 1
  | (_, d) => uptoBulk d + 1
 end
def uptoSmall : (H : Type) → List (DataW H) → Bool := fun _ ds => decide (uptoBulkAll ds ≤ 1048576)
def OpenSpec.upto (s : _root_.Go.ChangeSpec) : _root_.Go.OpenSpec := { _root_.Go.OpenSpec.ofChange s with cond := some uptoSmall }

/-- 'pommellaw06.MendSmith', WHERE WHAT IT READS IS OF BULK AT MOST 1048576: true; the input reads as it did. -/
def mendSmithUptoRow : OpenClaim := { program := "ytelmdbpaoifmoaa", sum := "52fbcfb47a5d3e189d3a78ae7d0322fe2bc547b9efc6f334c94f6680781036c4", func := "pommel/pommellaw06.MendSmith", spec := "mendSmith", inPlace := ["internal/bytealg.IndexByteString", "internal/bytealg.IndexString"], unfollowed := true, recurses := true, named := ["internal/bytealg.MaxLen"], plainKeys := false, apart := false, narrowed := true }
def MendSmithUptoSaid : Prop := mendSmithUptoRow.holds Try.pinned (OpenSpec.upto mendSmithSpec)

/-- 'pommellaw06.MendCosts', WHERE WHAT IT READS IS OF BULK AT MOST 1048576: true; the input reads as it did. -/
def mendCostsUptoRow : OpenClaim := { program := "ytelmdbpaoifmoaa", sum := "52fbcfb47a5d3e189d3a78ae7d0322fe2bc547b9efc6f334c94f6680781036c4", func := "pommel/pommellaw06.MendCosts", spec := "mendCosts", inPlace := ["internal/bytealg.IndexByteString", "internal/bytealg.IndexString"], unfollowed := true, recurses := true, named := ["internal/bytealg.MaxLen"], plainKeys := false, apart := false, narrowed := true }
def MendCostsUptoSaid : Prop := mendCostsUptoRow.holds Try.pinned (OpenSpec.upto mendCostsSpec)

/-- 'pommellaw06.MendBests', WHERE WHAT IT READS IS OF BULK AT MOST 1048576: true; the input reads as it did. -/
def mendBestsUptoRow : OpenClaim := { program := "ytelmdbpaoifmoaa", sum := "52fbcfb47a5d3e189d3a78ae7d0322fe2bc547b9efc6f334c94f6680781036c4", func := "pommel/pommellaw06.MendBests", spec := "mendBests", inPlace := ["internal/bytealg.IndexByteString", "internal/bytealg.IndexString"], unfollowed := true, recurses := true, named := ["internal/bytealg.MaxLen"], plainKeys := false, apart := false, narrowed := true }
def MendBestsUptoSaid : Prop := mendBestsUptoRow.holds Try.pinned (OpenSpec.upto mendBestsSpec)

/-- 'pommellaw06.MendLeast', WHERE WHAT IT READS IS OF BULK AT MOST 1048576: true; the input reads as it did. -/
def mendLeastUptoRow : OpenClaim := { program := "ytelmdbpaoifmoaa", sum := "52fbcfb47a5d3e189d3a78ae7d0322fe2bc547b9efc6f334c94f6680781036c4", func := "pommel/pommellaw06.MendLeast", spec := "mendLeast", inPlace := ["internal/bytealg.IndexByteString", "internal/bytealg.IndexString"], unfollowed := true, recurses := true, named := ["internal/bytealg.MaxLen"], plainKeys := false, apart := false, narrowed := true }
def MendLeastUptoSaid : Prop := mendLeastUptoRow.holds Try.pinned (OpenSpec.upto mendLeastSpec)

/-- 'pommellaw06.MendPairs', WHERE WHAT IT READS IS OF BULK AT MOST 1048576: true; the input reads as it did. -/
def mendPairsUptoRow : OpenClaim := { program := "ytelmdbpaoifmoaa", sum := "52fbcfb47a5d3e189d3a78ae7d0322fe2bc547b9efc6f334c94f6680781036c4", func := "pommel/pommellaw06.MendPairs", spec := "mendPairs", inPlace := ["internal/bytealg.IndexByteString", "internal/bytealg.IndexString"], unfollowed := true, recurses := true, named := ["internal/bytealg.MaxLen"], plainKeys := false, apart := false, narrowed := true }
def MendPairsUptoSaid : Prop := mendPairsUptoRow.holds Try.pinned (OpenSpec.upto mendPairsSpec)

/-- 'pommellaw06.MendTurned', WHERE WHAT IT READS IS OF BULK AT MOST 1048576: true; the input reads as it did. -/
def mendTurnedUptoRow : OpenClaim := { program := "ytelmdbpaoifmoaa", sum := "52fbcfb47a5d3e189d3a78ae7d0322fe2bc547b9efc6f334c94f6680781036c4", func := "pommel/pommellaw06.MendTurned", spec := "mendTurned", inPlace := ["internal/bytealg.IndexByteString", "internal/bytealg.IndexString"], unfollowed := true, recurses := true, named := ["internal/bytealg.MaxLen"], plainKeys := false, apart := false, narrowed := true }
def MendTurnedUptoSaid : Prop := mendTurnedUptoRow.holds Try.pinned (OpenSpec.upto mendTurnedSpec)

/-- 'pommellaw06.MendBlocks', WHERE WHAT IT READS IS OF BULK AT MOST 1048576: true; the input reads as it did. -/
def mendBlocksUptoRow : OpenClaim := { program := "ytelmdbpaoifmoaa", sum := "52fbcfb47a5d3e189d3a78ae7d0322fe2bc547b9efc6f334c94f6680781036c4", func := "pommel/pommellaw06.MendBlocks", spec := "mendBlocks", inPlace := ["internal/bytealg.IndexByteString", "internal/bytealg.IndexString"], unfollowed := true, recurses := true, named := ["internal/bytealg.MaxLen"], plainKeys := false, apart := false, narrowed := true }
def MendBlocksUptoSaid : Prop := mendBlocksUptoRow.holds Try.pinned (OpenSpec.upto mendBlocksSpec)

end Rows
end Go.Proofs.Ytelmdbpaoifmoaa
