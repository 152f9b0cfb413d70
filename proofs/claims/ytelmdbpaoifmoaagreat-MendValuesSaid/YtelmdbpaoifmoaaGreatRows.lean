/-
  No cell of these rows narrows 'for every input' (looked for: loops, veiled, ifaces, maps, wideKeys, modest, calm, conditions, laid).
  DERIVED. THE GIVEN ROWS OF THIS SEAT. 8 by the template 'for every input the law returns true; each argument reads behind the call as it read before'; 0 by the template 'total and deterministic' (their statements: YtelmdbpaoifmoaaGreatTotals.lean).
  GIVEN WITH THE SEED: the statements are not yours to turn. If you find one false, say at which input.
  Laid BY PROGRAM, IN A SANDBOX (cutbox-rows.mjs): the forced cells as the released guide's own fill.sh prints them over the translation 9405b16eaa31b93f… (all of the seat's roots in one cut). By AI agents, Wed Nov 11 2026. No macro, syntax, notation, axiom, sorry.
-/
import Derived.Test.YtelmdbpaoifmoaaGreatChecked
import GoSem.Claim
import GoSem.ClaimJoined
import GoSem.ClaimMapViews
import Derived.JoinedTies
import Derived.KernelRfl
namespace Go.Proofs.YtelmdbpaoifmoaaGreat
/- THE CELL 'sum', in the pinned program and in every row, IS THE sha256 OF THE DUMP (.gsa) THAT YtelmdbpaoifmoaaGreatProg.lean LOADS. Nothing in Lean hashes anything: it is a label: what it is worth is what the hold of that sum in a sandbox is worth. -/
noncomputable def Tryz.pinned : Pinned := { name := "ytelmdbpaoifmoaagreat", sum := "9405b16eaa31b93f351efd2de44682c485c020cbef6b143743b37e7f1bd91cac", checked := Tryz.checked }
namespace Rows
def none {H : Type} : Left H := { results := [], args := [] }

/-- 'pommellaw06.MendIndices': WHATEVER THE INPUT: true; the input reads as it did. -/
def mendIndicesSpec : ChangeSpec := { name := "mendIndices", fn := fun _ => fun
  | [d1, d2] => { results := [.lit (.bool true)], args := [d1, d2] }
  | _ => none }
def mendIndicesRow : OpenClaim := { program := "ytelmdbpaoifmoaagreat", sum := "9405b16eaa31b93f351efd2de44682c485c020cbef6b143743b37e7f1bd91cac", func := "pommel/pommellaw06.MendIndices", spec := "mendIndices", inPlace := ["internal/bytealg.IndexByteString", "internal/bytealg.IndexString"], unfollowed := true, recurses := true, named := ["internal/bytealg.MaxLen"], plainKeys := false, apart := false }
def MendIndicesSaid : Prop := mendIndicesRow.holds Tryz.pinned (OpenSpec.ofChange mendIndicesSpec)

/-- ITS FALSE NEIGHBOUR: 'it returns false'. Refute it at one input. -/
def mendIndicesWrong : ChangeSpec := { name := "mendIndices", fn := fun _ => fun
  | [d1, d2] => { results := [.lit (.bool false)], args := [d1, d2] }
  | _ => none }
def MendIndicesWrongFalsely : Prop := mendIndicesRow.holds Tryz.pinned (OpenSpec.ofChange mendIndicesWrong)

/-- 'pommellaw06.MendSure': WHATEVER THE INPUT: true; the input reads as it did. -/
def mendSureSpec : ChangeSpec := { name := "mendSure", fn := fun _ => fun
  | [d] => { results := [.lit (.bool true)], args := [d] }
  | _ => none }
def mendSureRow : OpenClaim := { program := "ytelmdbpaoifmoaagreat", sum := "9405b16eaa31b93f351efd2de44682c485c020cbef6b143743b37e7f1bd91cac", func := "pommel/pommellaw06.MendSure", spec := "mendSure", inPlace := ["internal/bytealg.IndexByteString", "internal/bytealg.IndexString"], unfollowed := true, recurses := true, named := ["internal/bytealg.MaxLen"], plainKeys := false, apart := false }
def MendSureSaid : Prop := mendSureRow.holds Tryz.pinned (OpenSpec.ofChange mendSureSpec)

/-- ITS FALSE NEIGHBOUR: 'it returns false'. Refute it at one input. -/
def mendSureWrong : ChangeSpec := { name := "mendSure", fn := fun _ => fun
  | [d] => { results := [.lit (.bool false)], args := [d] }
  | _ => none }
def MendSureWrongFalsely : Prop := mendSureRow.holds Tryz.pinned (OpenSpec.ofChange mendSureWrong)

/-- 'pommellaw06.MendValues': WHATEVER THE INPUT: true; the input reads as it did. -/
def mendValuesSpec : ChangeSpec := { name := "mendValues", fn := fun _ => fun
  | [d] => { results := [.lit (.bool true)], args := [d] }
  | _ => none }
def mendValuesRow : OpenClaim := { program := "ytelmdbpaoifmoaagreat", sum := "9405b16eaa31b93f351efd2de44682c485c020cbef6b143743b37e7f1bd91cac", func := "pommel/pommellaw06.MendValues", spec := "mendValues", inPlace := ["internal/bytealg.IndexByteString", "internal/bytealg.IndexString"], unfollowed := true, recurses := true, named := ["internal/bytealg.MaxLen"], plainKeys := false, apart := false }
def MendValuesSaid : Prop := mendValuesRow.holds Tryz.pinned (OpenSpec.ofChange mendValuesSpec)

/-- ITS FALSE NEIGHBOUR: 'it returns false'. Refute it at one input. -/
def mendValuesWrong : ChangeSpec := { name := "mendValues", fn := fun _ => fun
  | [d] => { results := [.lit (.bool false)], args := [d] }
  | _ => none }
def MendValuesWrongFalsely : Prop := mendValuesRow.holds Tryz.pinned (OpenSpec.ofChange mendValuesWrong)

/-- 'pommellaw06.MendGittins': WHATEVER THE INPUT: true; the input reads as it did. -/
def mendGittinsSpec : ChangeSpec := { name := "mendGittins", fn := fun _ => fun
  | [d] => { results := [.lit (.bool true)], args := [d] }
  | _ => none }
def mendGittinsRow : OpenClaim := { program := "ytelmdbpaoifmoaagreat", sum := "9405b16eaa31b93f351efd2de44682c485c020cbef6b143743b37e7f1bd91cac", func := "pommel/pommellaw06.MendGittins", spec := "mendGittins", inPlace := ["internal/bytealg.IndexByteString", "internal/bytealg.IndexString"], unfollowed := true, recurses := true, named := ["internal/bytealg.MaxLen"], plainKeys := false, apart := false }
def MendGittinsSaid : Prop := mendGittinsRow.holds Tryz.pinned (OpenSpec.ofChange mendGittinsSpec)

/-- ITS FALSE NEIGHBOUR: 'it returns false'. Refute it at one input. -/
def mendGittinsWrong : ChangeSpec := { name := "mendGittins", fn := fun _ => fun
  | [d] => { results := [.lit (.bool false)], args := [d] }
  | _ => none }
def MendGittinsWrongFalsely : Prop := mendGittinsRow.holds Tryz.pinned (OpenSpec.ofChange mendGittinsWrong)

/-- 'pommellaw06.MendSidneys': WHATEVER THE INPUT: true; the input reads as it did. -/
def mendSidneysSpec : ChangeSpec := { name := "mendSidneys", fn := fun _ => fun
  | [d] => { results := [.lit (.bool true)], args := [d] }
  | _ => none }
def mendSidneysRow : OpenClaim := { program := "ytelmdbpaoifmoaagreat", sum := "9405b16eaa31b93f351efd2de44682c485c020cbef6b143743b37e7f1bd91cac", func := "pommel/pommellaw06.MendSidneys", spec := "mendSidneys", inPlace := ["internal/bytealg.IndexByteString", "internal/bytealg.IndexString"], unfollowed := true, recurses := true, named := ["internal/bytealg.MaxLen"], plainKeys := false, apart := false }
def MendSidneysSaid : Prop := mendSidneysRow.holds Tryz.pinned (OpenSpec.ofChange mendSidneysSpec)

/-- ITS FALSE NEIGHBOUR: 'it returns false'. Refute it at one input. -/
def mendSidneysWrong : ChangeSpec := { name := "mendSidneys", fn := fun _ => fun
  | [d] => { results := [.lit (.bool false)], args := [d] }
  | _ => none }
def MendSidneysWrongFalsely : Prop := mendSidneysRow.holds Tryz.pinned (OpenSpec.ofChange mendSidneysWrong)

/-- 'pommellaw06.MendSidney': WHATEVER THE INPUT: true; the input reads as it did. -/
def mendSidneySpec : ChangeSpec := { name := "mendSidney", fn := fun _ => fun
  | [d1, d2] => { results := [.lit (.bool true)], args := [d1, d2] }
  | _ => none }
def mendSidneyRow : OpenClaim := { program := "ytelmdbpaoifmoaagreat", sum := "9405b16eaa31b93f351efd2de44682c485c020cbef6b143743b37e7f1bd91cac", func := "pommel/pommellaw06.MendSidney", spec := "mendSidney", inPlace := ["internal/bytealg.IndexByteString", "internal/bytealg.IndexString"], unfollowed := true, recurses := true, named := ["internal/bytealg.MaxLen"], plainKeys := false, apart := false }
def MendSidneySaid : Prop := mendSidneyRow.holds Tryz.pinned (OpenSpec.ofChange mendSidneySpec)

/-- ITS FALSE NEIGHBOUR: 'it returns false'. Refute it at one input. -/
def mendSidneyWrong : ChangeSpec := { name := "mendSidney", fn := fun _ => fun
  | [d1, d2] => { results := [.lit (.bool false)], args := [d1, d2] }
  | _ => none }
def MendSidneyWrongFalsely : Prop := mendSidneyRow.holds Tryz.pinned (OpenSpec.ofChange mendSidneyWrong)

/-- 'pommellaw06.MendChoices': WHATEVER THE INPUT: true; the input reads as it did. -/
def mendChoicesSpec : ChangeSpec := { name := "mendChoices", fn := fun _ => fun
  | [d1, d2] => { results := [.lit (.bool true)], args := [d1, d2] }
  | _ => none }
def mendChoicesRow : OpenClaim := { program := "ytelmdbpaoifmoaagreat", sum := "9405b16eaa31b93f351efd2de44682c485c020cbef6b143743b37e7f1bd91cac", func := "pommel/pommellaw06.MendChoices", spec := "mendChoices", inPlace := ["internal/bytealg.IndexByteString", "internal/bytealg.IndexString"], unfollowed := true, recurses := true, named := ["internal/bytealg.MaxLen"], plainKeys := false, apart := false }
def MendChoicesSaid : Prop := mendChoicesRow.holds Tryz.pinned (OpenSpec.ofChange mendChoicesSpec)

/-- ITS FALSE NEIGHBOUR: 'it returns false'. Refute it at one input. -/
def mendChoicesWrong : ChangeSpec := { name := "mendChoices", fn := fun _ => fun
  | [d1, d2] => { results := [.lit (.bool false)], args := [d1, d2] }
  | _ => none }
def MendChoicesWrongFalsely : Prop := mendChoicesRow.holds Tryz.pinned (OpenSpec.ofChange mendChoicesWrong)

/-- 'pommellaw06.MendUnits': WHATEVER THE INPUT: true; the input reads as it did. -/
def mendUnitsSpec : ChangeSpec := { name := "mendUnits", fn := fun _ => fun
  | [d1, d2, d3] => { results := [.lit (.bool true)], args := [d1, d2, d3] }
  | _ => none }
def mendUnitsRow : OpenClaim := { program := "ytelmdbpaoifmoaagreat", sum := "9405b16eaa31b93f351efd2de44682c485c020cbef6b143743b37e7f1bd91cac", func := "pommel/pommellaw06.MendUnits", spec := "mendUnits", inPlace := ["internal/bytealg.IndexByteString", "internal/bytealg.IndexString"], unfollowed := true, recurses := true, named := ["internal/bytealg.MaxLen"], plainKeys := false, apart := false }
def MendUnitsSaid : Prop := mendUnitsRow.holds Tryz.pinned (OpenSpec.ofChange mendUnitsSpec)

/-- ITS FALSE NEIGHBOUR: 'it returns false'. Refute it at one input. -/
def mendUnitsWrong : ChangeSpec := { name := "mendUnits", fn := fun _ => fun
  | [d1, d2, d3] => { results := [.lit (.bool false)], args := [d1, d2, d3] }
  | _ => none }
def MendUnitsWrongFalsely : Prop := mendUnitsRow.holds Tryz.pinned (OpenSpec.ofChange mendUnitsWrong)

/- THE SECOND FORM. 'bulk': how many values and letters a reading holds, each counted each time it is reached (what is shared counts as often as it is met; a slice's spare places count too). A statement '..UptoSaid' is the law's where the arguments, and the package variables that the reading takes, are together of bulk at most 1048576: NARROWER than '..Said'. Prove '..Said' where nothing that the law and all that it calls make is longer than what came in: it says more and counts as full. Else prove '..UptoSaid'. A law counts once. -/
mutual
def uptoBulk {H : Type} : DataW H → Nat
  | .lit (.string bytes) => bytes.length + 1
  | .lit _ => 1
  | .nil => 1
  | .ptr d => uptoBulk d + 1
  | .slice elems spare => uptoBulkAll elems + uptoBulkAll spare + 1
  | .agg parts => uptoBulkAll parts + 1
  | .iface _ d => uptoBulk d + 1
  | .map entries => uptoBulkEntries entries + 1
  | .held _ => 1
def uptoBulkAll {H : Type} : List (DataW H) → Nat
  | [] => 0
  | d :: r => uptoBulk d + uptoBulkAll r
def uptoBulkEntries {H : Type} : List (Lit × DataW H) → Nat
  | [] => 0
  | x :: r => uptoBulkEntry x + uptoBulkEntries r
def uptoBulkEntry {H : Type} : Lit × DataW H → Nat
  | (.string bytes, d) => bytes.length + uptoBulk d + 1
  | (_, d) => uptoBulk d + 1
 end
def uptoSmall : (H : Type) → List (DataW H) → Bool := fun _ ds => decide (uptoBulkAll ds ≤ 1048576)
def OpenSpec.upto (s : _root_.Go.ChangeSpec) : _root_.Go.OpenSpec := { _root_.Go.OpenSpec.ofChange s with cond := some uptoSmall }

/-- 'pommellaw06.MendIndices', WHERE WHAT IT READS IS OF BULK AT MOST 1048576: true; the input reads as it did. -/
def mendIndicesUptoRow : OpenClaim := { program := "ytelmdbpaoifmoaagreat", sum := "9405b16eaa31b93f351efd2de44682c485c020cbef6b143743b37e7f1bd91cac", func := "pommel/pommellaw06.MendIndices", spec := "mendIndices", inPlace := ["internal/bytealg.IndexByteString", "internal/bytealg.IndexString"], unfollowed := true, recurses := true, named := ["internal/bytealg.MaxLen"], plainKeys := false, apart := false, narrowed := true }
def MendIndicesUptoSaid : Prop := mendIndicesUptoRow.holds Tryz.pinned (OpenSpec.upto mendIndicesSpec)

/-- 'pommellaw06.MendSure', WHERE WHAT IT READS IS OF BULK AT MOST 1048576: true; the input reads as it did. -/
def mendSureUptoRow : OpenClaim := { program := "ytelmdbpaoifmoaagreat", sum := "9405b16eaa31b93f351efd2de44682c485c020cbef6b143743b37e7f1bd91cac", func := "pommel/pommellaw06.MendSure", spec := "mendSure", inPlace := ["internal/bytealg.IndexByteString", "internal/bytealg.IndexString"], unfollowed := true, recurses := true, named := ["internal/bytealg.MaxLen"], plainKeys := false, apart := false, narrowed := true }
def MendSureUptoSaid : Prop := mendSureUptoRow.holds Tryz.pinned (OpenSpec.upto mendSureSpec)

/-- 'pommellaw06.MendValues', WHERE WHAT IT READS IS OF BULK AT MOST 1048576: true; the input reads as it did. -/
def mendValuesUptoRow : OpenClaim := { program := "ytelmdbpaoifmoaagreat", sum := "9405b16eaa31b93f351efd2de44682c485c020cbef6b143743b37e7f1bd91cac", func := "pommel/pommellaw06.MendValues", spec := "mendValues", inPlace := ["internal/bytealg.IndexByteString", "internal/bytealg.IndexString"], unfollowed := true, recurses := true, named := ["internal/bytealg.MaxLen"], plainKeys := false, apart := false, narrowed := true }
def MendValuesUptoSaid : Prop := mendValuesUptoRow.holds Tryz.pinned (OpenSpec.upto mendValuesSpec)

/-- 'pommellaw06.MendGittins', WHERE WHAT IT READS IS OF BULK AT MOST 1048576: true; the input reads as it did. -/
def mendGittinsUptoRow : OpenClaim := { program := "ytelmdbpaoifmoaagreat", sum := "9405b16eaa31b93f351efd2de44682c485c020cbef6b143743b37e7f1bd91cac", func := "pommel/pommellaw06.MendGittins", spec := "mendGittins", inPlace := ["internal/bytealg.IndexByteString", "internal/bytealg.IndexString"], unfollowed := true, recurses := true, named := ["internal/bytealg.MaxLen"], plainKeys := false, apart := false, narrowed := true }
def MendGittinsUptoSaid : Prop := mendGittinsUptoRow.holds Tryz.pinned (OpenSpec.upto mendGittinsSpec)

/-- 'pommellaw06.MendSidneys', WHERE WHAT IT READS IS OF BULK AT MOST 1048576: true; the input reads as it did. -/
def mendSidneysUptoRow : OpenClaim := { program := "ytelmdbpaoifmoaagreat", sum := "9405b16eaa31b93f351efd2de44682c485c020cbef6b143743b37e7f1bd91cac", func := "pommel/pommellaw06.MendSidneys", spec := "mendSidneys", inPlace := ["internal/bytealg.IndexByteString", "internal/bytealg.IndexString"], unfollowed := true, recurses := true, named := ["internal/bytealg.MaxLen"], plainKeys := false, apart := false, narrowed := true }
def MendSidneysUptoSaid : Prop := mendSidneysUptoRow.holds Tryz.pinned (OpenSpec.upto mendSidneysSpec)

/-- 'pommellaw06.MendSidney', WHERE WHAT IT READS IS OF BULK AT MOST 1048576: true; the input reads as it did. -/
def mendSidneyUptoRow : OpenClaim := { program := "ytelmdbpaoifmoaagreat", sum := "9405b16eaa31b93f351efd2de44682c485c020cbef6b143743b37e7f1bd91cac", func := "pommel/pommellaw06.MendSidney", spec := "mendSidney", inPlace := ["internal/bytealg.IndexByteString", "internal/bytealg.IndexString"], unfollowed := true, recurses := true, named := ["internal/bytealg.MaxLen"], plainKeys := false, apart := false, narrowed := true }
def MendSidneyUptoSaid : Prop := mendSidneyUptoRow.holds Tryz.pinned (OpenSpec.upto mendSidneySpec)

/-- 'pommellaw06.MendChoices', WHERE WHAT IT READS IS OF BULK AT MOST 1048576: true; the input reads as it did. -/
def mendChoicesUptoRow : OpenClaim := { program := "ytelmdbpaoifmoaagreat", sum := "9405b16eaa31b93f351efd2de44682c485c020cbef6b143743b37e7f1bd91cac", func := "pommel/pommellaw06.MendChoices", spec := "mendChoices", inPlace := ["internal/bytealg.IndexByteString", "internal/bytealg.IndexString"], unfollowed := true, recurses := true, named := ["internal/bytealg.MaxLen"], plainKeys := false, apart := false, narrowed := true }
def MendChoicesUptoSaid : Prop := mendChoicesUptoRow.holds Tryz.pinned (OpenSpec.upto mendChoicesSpec)

/-- 'pommellaw06.MendUnits', WHERE WHAT IT READS IS OF BULK AT MOST 1048576: true; the input reads as it did. -/
def mendUnitsUptoRow : OpenClaim := { program := "ytelmdbpaoifmoaagreat", sum := "9405b16eaa31b93f351efd2de44682c485c020cbef6b143743b37e7f1bd91cac", func := "pommel/pommellaw06.MendUnits", spec := "mendUnits", inPlace := ["internal/bytealg.IndexByteString", "internal/bytealg.IndexString"], unfollowed := true, recurses := true, named := ["internal/bytealg.MaxLen"], plainKeys := false, apart := false, narrowed := true }
def MendUnitsUptoSaid : Prop := mendUnitsUptoRow.holds Tryz.pinned (OpenSpec.upto mendUnitsSpec)

end Rows
end Go.Proofs.YtelmdbpaoifmoaaGreat
