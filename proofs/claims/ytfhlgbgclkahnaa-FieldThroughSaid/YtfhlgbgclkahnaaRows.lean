/-
  No cell of these rows narrows 'for every input' (looked for: loops, veiled, ifaces, maps, wideKeys, modest, calm, conditions, laid).
  DERIVED. THE GIVEN ROWS OF THIS SEAT. 16 by the template 'for every input the law returns true; each argument reads behind the call as it read before'; 0 by the template 'total and deterministic' (their statements: YtfhlgbgclkahnaaTotals.lean).
  GIVEN WITH THE SEED: the statements are not yours to turn. If you find one false, say at which input.
  Laid BY PROGRAM, IN A SANDBOX (cutbox-rows.mjs): the forced cells as the released guide's own fill.sh prints them over the translation a19164cb805e035a… (all of the seat's roots in one cut). By AI agents, Wed Nov 11 2026. No macro, syntax, notation, axiom, sorry.
-/
import Derived.Test.YtfhlgbgclkahnaaChecked
import GoSem.Claim
import GoSem.ClaimJoined
import GoSem.ClaimMapViews
import Derived.JoinedTies
import Derived.KernelRfl
namespace Go.Proofs.Ytfhlgbgclkahnaa
/- THE CELL 'sum', in the pinned program and in every row, IS THE sha256 OF THE DUMP (.gsa) THAT YtfhlgbgclkahnaaProg.lean LOADS. Nothing in Lean hashes anything: it is a label: what it is worth is what the hold of that sum in a sandbox is worth. -/
noncomputable def Try.pinned : Pinned := { name := "ytfhlgbgclkahnaa", sum := "a19164cb805e035aa78b7dfdb4036ced18d374f83e6f819b6582e6e166dcdffe", checked := Try.checked }
namespace Rows
def none {H : Type} : Left H := { results := [], args := [] }

/-- 'dauberlaw02.FieldRanks': WHATEVER THE INPUT: true; the input reads as it did. -/
def fieldRanksSpec : ChangeSpec := { name := "fieldRanks", fn := fun _ => fun
  | [d1, d2] => { results := [.lit (.bool true)], args := [d1, d2] }
  | _ => none }
def fieldRanksRow : OpenClaim := { program := "ytfhlgbgclkahnaa", sum := "a19164cb805e035aa78b7dfdb4036ced18d374f83e6f819b6582e6e166dcdffe", func := "dauber/dauberlaw02.FieldRanks", spec := "fieldRanks", unfollowed := true, recurses := true, apart := false }
def FieldRanksSaid : Prop := fieldRanksRow.holds Try.pinned (OpenSpec.ofChange fieldRanksSpec)

/-- ITS FALSE NEIGHBOUR: 'it returns false'. Refute it at one input. -/
def fieldRanksWrong : ChangeSpec := { name := "fieldRanks", fn := fun _ => fun
  | [d1, d2] => { results := [.lit (.bool false)], args := [d1, d2] }
  | _ => none }
def FieldRanksWrongFalsely : Prop := fieldRanksRow.holds Try.pinned (OpenSpec.ofChange fieldRanksWrong)

/-- 'dauberlaw02.FieldDenies': WHATEVER THE INPUT: true; the input reads as it did. -/
def fieldDeniesSpec : ChangeSpec := { name := "fieldDenies", fn := fun _ => fun
  | [d1, d2, d3] => { results := [.lit (.bool true)], args := [d1, d2, d3] }
  | _ => none }
def fieldDeniesRow : OpenClaim := { program := "ytfhlgbgclkahnaa", sum := "a19164cb805e035aa78b7dfdb4036ced18d374f83e6f819b6582e6e166dcdffe", func := "dauber/dauberlaw02.FieldDenies", spec := "fieldDenies", unfollowed := true, recurses := true, apart := false }
def FieldDeniesSaid : Prop := fieldDeniesRow.holds Try.pinned (OpenSpec.ofChange fieldDeniesSpec)

/-- ITS FALSE NEIGHBOUR: 'it returns false'. Refute it at one input. -/
def fieldDeniesWrong : ChangeSpec := { name := "fieldDenies", fn := fun _ => fun
  | [d1, d2, d3] => { results := [.lit (.bool false)], args := [d1, d2, d3] }
  | _ => none }
def FieldDeniesWrongFalsely : Prop := fieldDeniesRow.holds Try.pinned (OpenSpec.ofChange fieldDeniesWrong)

/-- 'dauberlaw02.FieldCalculates': WHATEVER THE INPUT: true; the input reads as it did. -/
def fieldCalculatesSpec : ChangeSpec := { name := "fieldCalculates", fn := fun _ => fun
  | [d1, d2, d3] => { results := [.lit (.bool true)], args := [d1, d2, d3] }
  | _ => none }
def fieldCalculatesRow : OpenClaim := { program := "ytfhlgbgclkahnaa", sum := "a19164cb805e035aa78b7dfdb4036ced18d374f83e6f819b6582e6e166dcdffe", func := "dauber/dauberlaw02.FieldCalculates", spec := "fieldCalculates", unfollowed := true, recurses := true, apart := false }
def FieldCalculatesSaid : Prop := fieldCalculatesRow.holds Try.pinned (OpenSpec.ofChange fieldCalculatesSpec)

/-- ITS FALSE NEIGHBOUR: 'it returns false'. Refute it at one input. -/
def fieldCalculatesWrong : ChangeSpec := { name := "fieldCalculates", fn := fun _ => fun
  | [d1, d2, d3] => { results := [.lit (.bool false)], args := [d1, d2, d3] }
  | _ => none }
def FieldCalculatesWrongFalsely : Prop := fieldCalculatesRow.holds Try.pinned (OpenSpec.ofChange fieldCalculatesWrong)

/-- 'dauberlaw02.FieldPowers': WHATEVER THE INPUT: true; the input reads as it did. -/
def fieldPowersSpec : ChangeSpec := { name := "fieldPowers", fn := fun _ => fun
  | [d1, d2, d3] => { results := [.lit (.bool true)], args := [d1, d2, d3] }
  | _ => none }
def fieldPowersRow : OpenClaim := { program := "ytfhlgbgclkahnaa", sum := "a19164cb805e035aa78b7dfdb4036ced18d374f83e6f819b6582e6e166dcdffe", func := "dauber/dauberlaw02.FieldPowers", spec := "fieldPowers", unfollowed := true, recurses := true, apart := false }
def FieldPowersSaid : Prop := fieldPowersRow.holds Try.pinned (OpenSpec.ofChange fieldPowersSpec)

/-- ITS FALSE NEIGHBOUR: 'it returns false'. Refute it at one input. -/
def fieldPowersWrong : ChangeSpec := { name := "fieldPowers", fn := fun _ => fun
  | [d1, d2, d3] => { results := [.lit (.bool false)], args := [d1, d2, d3] }
  | _ => none }
def FieldPowersWrongFalsely : Prop := fieldPowersRow.holds Try.pinned (OpenSpec.ofChange fieldPowersWrong)

/-- 'dauberlaw02.FieldOrders': WHATEVER THE INPUT: true; the input reads as it did. -/
def fieldOrdersSpec : ChangeSpec := { name := "fieldOrders", fn := fun _ => fun
  | [d1, d2, d3] => { results := [.lit (.bool true)], args := [d1, d2, d3] }
  | _ => none }
def fieldOrdersRow : OpenClaim := { program := "ytfhlgbgclkahnaa", sum := "a19164cb805e035aa78b7dfdb4036ced18d374f83e6f819b6582e6e166dcdffe", func := "dauber/dauberlaw02.FieldOrders", spec := "fieldOrders", unfollowed := true, recurses := true, apart := false }
def FieldOrdersSaid : Prop := fieldOrdersRow.holds Try.pinned (OpenSpec.ofChange fieldOrdersSpec)

/-- ITS FALSE NEIGHBOUR: 'it returns false'. Refute it at one input. -/
def fieldOrdersWrong : ChangeSpec := { name := "fieldOrders", fn := fun _ => fun
  | [d1, d2, d3] => { results := [.lit (.bool false)], args := [d1, d2, d3] }
  | _ => none }
def FieldOrdersWrongFalsely : Prop := fieldOrdersRow.holds Try.pinned (OpenSpec.ofChange fieldOrdersWrong)

/-- 'dauberlaw02.FieldMatrices': WHATEVER THE INPUT: true; the input reads as it did. -/
def fieldMatricesSpec : ChangeSpec := { name := "fieldMatrices", fn := fun _ => fun
  | [d1, d2, d3] => { results := [.lit (.bool true)], args := [d1, d2, d3] }
  | _ => none }
def fieldMatricesRow : OpenClaim := { program := "ytfhlgbgclkahnaa", sum := "a19164cb805e035aa78b7dfdb4036ced18d374f83e6f819b6582e6e166dcdffe", func := "dauber/dauberlaw02.FieldMatrices", spec := "fieldMatrices", unfollowed := true, recurses := true, apart := false }
def FieldMatricesSaid : Prop := fieldMatricesRow.holds Try.pinned (OpenSpec.ofChange fieldMatricesSpec)

/-- ITS FALSE NEIGHBOUR: 'it returns false'. Refute it at one input. -/
def fieldMatricesWrong : ChangeSpec := { name := "fieldMatrices", fn := fun _ => fun
  | [d1, d2, d3] => { results := [.lit (.bool false)], args := [d1, d2, d3] }
  | _ => none }
def FieldMatricesWrongFalsely : Prop := fieldMatricesRow.holds Try.pinned (OpenSpec.ofChange fieldMatricesWrong)

/-- 'dauberlaw02.FieldSolves': WHATEVER THE INPUT: true; the input reads as it did. -/
def fieldSolvesSpec : ChangeSpec := { name := "fieldSolves", fn := fun _ => fun
  | [d1, d2, d3] => { results := [.lit (.bool true)], args := [d1, d2, d3] }
  | _ => none }
def fieldSolvesRow : OpenClaim := { program := "ytfhlgbgclkahnaa", sum := "a19164cb805e035aa78b7dfdb4036ced18d374f83e6f819b6582e6e166dcdffe", func := "dauber/dauberlaw02.FieldSolves", spec := "fieldSolves", unfollowed := true, recurses := true, apart := false }
def FieldSolvesSaid : Prop := fieldSolvesRow.holds Try.pinned (OpenSpec.ofChange fieldSolvesSpec)

/-- ITS FALSE NEIGHBOUR: 'it returns false'. Refute it at one input. -/
def fieldSolvesWrong : ChangeSpec := { name := "fieldSolves", fn := fun _ => fun
  | [d1, d2, d3] => { results := [.lit (.bool false)], args := [d1, d2, d3] }
  | _ => none }
def FieldSolvesWrongFalsely : Prop := fieldSolvesRow.holds Try.pinned (OpenSpec.ofChange fieldSolvesWrong)

/-- 'dauberlaw02.FieldLaws': WHATEVER THE INPUT: true; the input reads as it did. -/
def fieldLawsSpec : ChangeSpec := { name := "fieldLaws", fn := fun _ => fun
  | [d1, d2] => { results := [.lit (.bool true)], args := [d1, d2] }
  | _ => none }
def fieldLawsRow : OpenClaim := { program := "ytfhlgbgclkahnaa", sum := "a19164cb805e035aa78b7dfdb4036ced18d374f83e6f819b6582e6e166dcdffe", func := "dauber/dauberlaw02.FieldLaws", spec := "fieldLaws", unfollowed := true, recurses := true, apart := false }
def FieldLawsSaid : Prop := fieldLawsRow.holds Try.pinned (OpenSpec.ofChange fieldLawsSpec)

/-- ITS FALSE NEIGHBOUR: 'it returns false'. Refute it at one input. -/
def fieldLawsWrong : ChangeSpec := { name := "fieldLaws", fn := fun _ => fun
  | [d1, d2] => { results := [.lit (.bool false)], args := [d1, d2] }
  | _ => none }
def FieldLawsWrongFalsely : Prop := fieldLawsRow.holds Try.pinned (OpenSpec.ofChange fieldLawsWrong)

/-- 'dauberlaw02.FieldTraces': WHATEVER THE INPUT: true; the input reads as it did. -/
def fieldTracesSpec : ChangeSpec := { name := "fieldTraces", fn := fun _ => fun
  | [d1, d2] => { results := [.lit (.bool true)], args := [d1, d2] }
  | _ => none }
def fieldTracesRow : OpenClaim := { program := "ytfhlgbgclkahnaa", sum := "a19164cb805e035aa78b7dfdb4036ced18d374f83e6f819b6582e6e166dcdffe", func := "dauber/dauberlaw02.FieldTraces", spec := "fieldTraces", unfollowed := true, recurses := true, apart := false }
def FieldTracesSaid : Prop := fieldTracesRow.holds Try.pinned (OpenSpec.ofChange fieldTracesSpec)

/-- ITS FALSE NEIGHBOUR: 'it returns false'. Refute it at one input. -/
def fieldTracesWrong : ChangeSpec := { name := "fieldTraces", fn := fun _ => fun
  | [d1, d2] => { results := [.lit (.bool false)], args := [d1, d2] }
  | _ => none }
def FieldTracesWrongFalsely : Prop := fieldTracesRow.holds Try.pinned (OpenSpec.ofChange fieldTracesWrong)

/-- 'dauberlaw02.FieldThrough': WHATEVER THE INPUT: true; the input reads as it did. -/
def fieldThroughSpec : ChangeSpec := { name := "fieldThrough", fn := fun _ => fun
  | [d1, d2, d3] => { results := [.lit (.bool true)], args := [d1, d2, d3] }
  | _ => none }
def fieldThroughRow : OpenClaim := { program := "ytfhlgbgclkahnaa", sum := "a19164cb805e035aa78b7dfdb4036ced18d374f83e6f819b6582e6e166dcdffe", func := "dauber/dauberlaw02.FieldThrough", spec := "fieldThrough", unfollowed := true, recurses := true, apart := false }
def FieldThroughSaid : Prop := fieldThroughRow.holds Try.pinned (OpenSpec.ofChange fieldThroughSpec)

/-- ITS FALSE NEIGHBOUR: 'it returns false'. Refute it at one input. -/
def fieldThroughWrong : ChangeSpec := { name := "fieldThrough", fn := fun _ => fun
  | [d1, d2, d3] => { results := [.lit (.bool false)], args := [d1, d2, d3] }
  | _ => none }
def FieldThroughWrongFalsely : Prop := fieldThroughRow.holds Try.pinned (OpenSpec.ofChange fieldThroughWrong)

/-- 'dauberlaw02.FieldPolys': WHATEVER THE INPUT: true; the input reads as it did. -/
def fieldPolysSpec : ChangeSpec := { name := "fieldPolys", fn := fun _ => fun
  | [d1, d2, d3] => { results := [.lit (.bool true)], args := [d1, d2, d3] }
  | _ => none }
def fieldPolysRow : OpenClaim := { program := "ytfhlgbgclkahnaa", sum := "a19164cb805e035aa78b7dfdb4036ced18d374f83e6f819b6582e6e166dcdffe", func := "dauber/dauberlaw02.FieldPolys", spec := "fieldPolys", unfollowed := true, recurses := true, apart := false }
def FieldPolysSaid : Prop := fieldPolysRow.holds Try.pinned (OpenSpec.ofChange fieldPolysSpec)

/-- ITS FALSE NEIGHBOUR: 'it returns false'. Refute it at one input. -/
def fieldPolysWrong : ChangeSpec := { name := "fieldPolys", fn := fun _ => fun
  | [d1, d2, d3] => { results := [.lit (.bool false)], args := [d1, d2, d3] }
  | _ => none }
def FieldPolysWrongFalsely : Prop := fieldPolysRow.holds Try.pinned (OpenSpec.ofChange fieldPolysWrong)

/-- 'dauberlaw02.FieldRoots': WHATEVER THE INPUT: true; the input reads as it did. -/
def fieldRootsSpec : ChangeSpec := { name := "fieldRoots", fn := fun _ => fun
  | [d1, d2] => { results := [.lit (.bool true)], args := [d1, d2] }
  | _ => none }
def fieldRootsRow : OpenClaim := { program := "ytfhlgbgclkahnaa", sum := "a19164cb805e035aa78b7dfdb4036ced18d374f83e6f819b6582e6e166dcdffe", func := "dauber/dauberlaw02.FieldRoots", spec := "fieldRoots", unfollowed := true, recurses := true, apart := false }
def FieldRootsSaid : Prop := fieldRootsRow.holds Try.pinned (OpenSpec.ofChange fieldRootsSpec)

/-- ITS FALSE NEIGHBOUR: 'it returns false'. Refute it at one input. -/
def fieldRootsWrong : ChangeSpec := { name := "fieldRoots", fn := fun _ => fun
  | [d1, d2] => { results := [.lit (.bool false)], args := [d1, d2] }
  | _ => none }
def FieldRootsWrongFalsely : Prop := fieldRootsRow.holds Try.pinned (OpenSpec.ofChange fieldRootsWrong)

/-- 'dauberlaw02.FieldChecks': WHATEVER THE INPUT: true; the input reads as it did. -/
def fieldChecksSpec : ChangeSpec := { name := "fieldChecks", fn := fun _ => fun
  | [d1, d2] => { results := [.lit (.bool true)], args := [d1, d2] }
  | _ => none }
def fieldChecksRow : OpenClaim := { program := "ytfhlgbgclkahnaa", sum := "a19164cb805e035aa78b7dfdb4036ced18d374f83e6f819b6582e6e166dcdffe", func := "dauber/dauberlaw02.FieldChecks", spec := "fieldChecks", unfollowed := true, recurses := true, apart := false }
def FieldChecksSaid : Prop := fieldChecksRow.holds Try.pinned (OpenSpec.ofChange fieldChecksSpec)

/-- ITS FALSE NEIGHBOUR: 'it returns false'. Refute it at one input. -/
def fieldChecksWrong : ChangeSpec := { name := "fieldChecks", fn := fun _ => fun
  | [d1, d2] => { results := [.lit (.bool false)], args := [d1, d2] }
  | _ => none }
def FieldChecksWrongFalsely : Prop := fieldChecksRow.holds Try.pinned (OpenSpec.ofChange fieldChecksWrong)

/-- 'dauberlaw02.FieldNorms': WHATEVER THE INPUT: true; the input reads as it did. -/
def fieldNormsSpec : ChangeSpec := { name := "fieldNorms", fn := fun _ => fun
  | [d1, d2, d3] => { results := [.lit (.bool true)], args := [d1, d2, d3] }
  | _ => none }
def fieldNormsRow : OpenClaim := { program := "ytfhlgbgclkahnaa", sum := "a19164cb805e035aa78b7dfdb4036ced18d374f83e6f819b6582e6e166dcdffe", func := "dauber/dauberlaw02.FieldNorms", spec := "fieldNorms", unfollowed := true, recurses := true, apart := false }
def FieldNormsSaid : Prop := fieldNormsRow.holds Try.pinned (OpenSpec.ofChange fieldNormsSpec)

/-- ITS FALSE NEIGHBOUR: 'it returns false'. Refute it at one input. -/
def fieldNormsWrong : ChangeSpec := { name := "fieldNorms", fn := fun _ => fun
  | [d1, d2, d3] => { results := [.lit (.bool false)], args := [d1, d2, d3] }
  | _ => none }
def FieldNormsWrongFalsely : Prop := fieldNormsRow.holds Try.pinned (OpenSpec.ofChange fieldNormsWrong)

/-- 'dauberlaw02.FieldMakes': WHATEVER THE INPUT: true; the input reads as it did. -/
def fieldMakesSpec : ChangeSpec := { name := "fieldMakes", fn := fun _ => fun
  | [d] => { results := [.lit (.bool true)], args := [d] }
  | _ => none }
def fieldMakesRow : OpenClaim := { program := "ytfhlgbgclkahnaa", sum := "a19164cb805e035aa78b7dfdb4036ced18d374f83e6f819b6582e6e166dcdffe", func := "dauber/dauberlaw02.FieldMakes", spec := "fieldMakes", unfollowed := true, recurses := true, apart := false }
def FieldMakesSaid : Prop := fieldMakesRow.holds Try.pinned (OpenSpec.ofChange fieldMakesSpec)

/-- ITS FALSE NEIGHBOUR: 'it returns false'. Refute it at one input. -/
def fieldMakesWrong : ChangeSpec := { name := "fieldMakes", fn := fun _ => fun
  | [d] => { results := [.lit (.bool false)], args := [d] }
  | _ => none }
def FieldMakesWrongFalsely : Prop := fieldMakesRow.holds Try.pinned (OpenSpec.ofChange fieldMakesWrong)

/-- 'daubertop.TopLogs': WHATEVER THE INPUT: true; the input reads as it did. -/
def topLogsSpec : ChangeSpec := { name := "topLogs", fn := fun _ => fun
  | [d1, d2] => { results := [.lit (.bool true)], args := [d1, d2] }
  | _ => none }
def topLogsRow : OpenClaim := { program := "ytfhlgbgclkahnaa", sum := "a19164cb805e035aa78b7dfdb4036ced18d374f83e6f819b6582e6e166dcdffe", func := "dauber/daubertop.TopLogs", spec := "topLogs", unfollowed := true, recurses := true, apart := false }
def TopLogsSaid : Prop := topLogsRow.holds Try.pinned (OpenSpec.ofChange topLogsSpec)

/-- ITS FALSE NEIGHBOUR: 'it returns false'. Refute it at one input. -/
def topLogsWrong : ChangeSpec := { name := "topLogs", fn := fun _ => fun
  | [d1, d2] => { results := [.lit (.bool false)], args := [d1, d2] }
  | _ => none }
def TopLogsWrongFalsely : Prop := topLogsRow.holds Try.pinned (OpenSpec.ofChange topLogsWrong)

/- THE SECOND FORM. 'bulk': how many values and letters a reading holds, each counted each time it is reached (what is shared counts as often as it is met; a slice's spare places count too). A statement '..UptoSaid' is the law's where the arguments, and the package variables that the reading takes, are together of bulk at most 1048576: NARROWER than '..Said'. Prove '..Said' where nothing that the law and all that it calls make is longer than what came in: it says more and counts as full. Else prove '..UptoSaid'. A law counts once. -/
mutual
def uptoBulk {H : Type} : DataW H → Nat
  | .lit (.string bytes) => bytes.length + 1
  | .lit _ => 1
  | .nil => 1
  | .ptr d => uptoBulk d + 1
  | .slice elems spare => uptoBulkAll elems + uptoBulkAll spare + 1
  | .agg parts => uptoBulkAll parts + 1
  | .iface _ d => uptoBulk d + 1
  | .map entries => uptoBulkEntries entries + 1
  | .held _ => 1
def uptoBulkAll {H : Type} : List (DataW H) → Nat
  | [] => 0
  | d :: r => uptoBulk d + uptoBulkAll r
def uptoBulkEntries {H : Type} : List (Lit × DataW H) → Nat
  | [] => 0
  | x :: r => uptoBulkEntry x + uptoBulkEntries r
def uptoBulkEntry {H : Type} : Lit × DataW H → Nat
  | (.string bytes, d) => bytes.length + uptoBulk d + 1
  | (_, d) => uptoBulk d + 1
 end
def uptoSmall : (H : Type) → List (DataW H) → Bool := fun _ ds => decide (uptoBulkAll ds ≤ 1048576)
def OpenSpec.upto (s : _root_.Go.ChangeSpec) : _root_.Go.OpenSpec := { _root_.Go.OpenSpec.ofChange s with cond := some uptoSmall }

/-- 'dauberlaw02.FieldRanks', WHERE WHAT IT READS IS OF BULK AT MOST 1048576: true; the input reads as it did. -/
def fieldRanksUptoRow : OpenClaim := { program := "ytfhlgbgclkahnaa", sum := "a19164cb805e035aa78b7dfdb4036ced18d374f83e6f819b6582e6e166dcdffe", func := "dauber/dauberlaw02.FieldRanks", spec := "fieldRanks", unfollowed := true, recurses := true, apart := false, narrowed := true }
def FieldRanksUptoSaid : Prop := fieldRanksUptoRow.holds Try.pinned (OpenSpec.upto fieldRanksSpec)

/-- 'dauberlaw02.FieldDenies', WHERE WHAT IT READS IS OF BULK AT MOST 1048576: true; the input reads as it did. -/
def fieldDeniesUptoRow : OpenClaim := { program := "ytfhlgbgclkahnaa", sum := "a19164cb805e035aa78b7dfdb4036ced18d374f83e6f819b6582e6e166dcdffe", func := "dauber/dauberlaw02.FieldDenies", spec := "fieldDenies", unfollowed := true, recurses := true, apart := false, narrowed := true }
def FieldDeniesUptoSaid : Prop := fieldDeniesUptoRow.holds Try.pinned (OpenSpec.upto fieldDeniesSpec)

/-- 'dauberlaw02.FieldCalculates', WHERE WHAT IT READS IS OF BULK AT MOST 1048576: true; the input reads as it did. -/
def fieldCalculatesUptoRow : OpenClaim := { program := "ytfhlgbgclkahnaa", sum := "a19164cb805e035aa78b7dfdb4036ced18d374f83e6f819b6582e6e166dcdffe", func := "dauber/dauberlaw02.FieldCalculates", spec := "fieldCalculates", unfollowed := true, recurses := true, apart := false, narrowed := true }
def FieldCalculatesUptoSaid : Prop := fieldCalculatesUptoRow.holds Try.pinned (OpenSpec.upto fieldCalculatesSpec)

/-- 'dauberlaw02.FieldPowers', WHERE WHAT IT READS IS OF BULK AT MOST 1048576: true; the input reads as it did. -/
def fieldPowersUptoRow : OpenClaim := { program := "ytfhlgbgclkahnaa", sum := "a19164cb805e035aa78b7dfdb4036ced18d374f83e6f819b6582e6e166dcdffe", func := "dauber/dauberlaw02.FieldPowers", spec := "fieldPowers", unfollowed := true, recurses := true, apart := false, narrowed := true }
def FieldPowersUptoSaid : Prop := fieldPowersUptoRow.holds Try.pinned (OpenSpec.upto fieldPowersSpec)

/-- 'dauberlaw02.FieldOrders', WHERE WHAT IT READS IS OF BULK AT MOST 1048576: true; the input reads as it did. -/
def fieldOrdersUptoRow : OpenClaim := { program := "ytfhlgbgclkahnaa", sum := "a19164cb805e035aa78b7dfdb4036ced18d374f83e6f819b6582e6e166dcdffe", func := "dauber/dauberlaw02.FieldOrders", spec := "fieldOrders", unfollowed := true, recurses := true, apart := false, narrowed := true }
def FieldOrdersUptoSaid : Prop := fieldOrdersUptoRow.holds Try.pinned (OpenSpec.upto fieldOrdersSpec)

/-- 'dauberlaw02.FieldMatrices', WHERE WHAT IT READS IS OF BULK AT MOST 1048576: true; the input reads as it did. -/
def fieldMatricesUptoRow : OpenClaim := { program := "ytfhlgbgclkahnaa", sum := "a19164cb805e035aa78b7dfdb4036ced18d374f83e6f819b6582e6e166dcdffe", func := "dauber/dauberlaw02.FieldMatrices", spec := "fieldMatrices", unfollowed := true, recurses := true, apart := false, narrowed := true }
def FieldMatricesUptoSaid : Prop := fieldMatricesUptoRow.holds Try.pinned (OpenSpec.upto fieldMatricesSpec)

/-- 'dauberlaw02.FieldSolves', WHERE WHAT IT READS IS OF BULK AT MOST 1048576: true; the input reads as it did. -/
def fieldSolvesUptoRow : OpenClaim := { program := "ytfhlgbgclkahnaa", sum := "a19164cb805e035aa78b7dfdb4036ced18d374f83e6f819b6582e6e166dcdffe", func := "dauber/dauberlaw02.FieldSolves", spec := "fieldSolves", unfollowed := true, recurses := true, apart := false, narrowed := true }
def FieldSolvesUptoSaid : Prop := fieldSolvesUptoRow.holds Try.pinned (OpenSpec.upto fieldSolvesSpec)

/-- 'dauberlaw02.FieldLaws', WHERE WHAT IT READS IS OF BULK AT MOST 1048576: true; the input reads as it did. -/
def fieldLawsUptoRow : OpenClaim := { program := "ytfhlgbgclkahnaa", sum := "a19164cb805e035aa78b7dfdb4036ced18d374f83e6f819b6582e6e166dcdffe", func := "dauber/dauberlaw02.FieldLaws", spec := "fieldLaws", unfollowed := true, recurses := true, apart := false, narrowed := true }
def FieldLawsUptoSaid : Prop := fieldLawsUptoRow.holds Try.pinned (OpenSpec.upto fieldLawsSpec)

/-- 'dauberlaw02.FieldTraces', WHERE WHAT IT READS IS OF BULK AT MOST 1048576: true; the input reads as it did. -/
def fieldTracesUptoRow : OpenClaim := { program := "ytfhlgbgclkahnaa", sum := "a19164cb805e035aa78b7dfdb4036ced18d374f83e6f819b6582e6e166dcdffe", func := "dauber/dauberlaw02.FieldTraces", spec := "fieldTraces", unfollowed := true, recurses := true, apart := false, narrowed := true }
def FieldTracesUptoSaid : Prop := fieldTracesUptoRow.holds Try.pinned (OpenSpec.upto fieldTracesSpec)

/-- 'dauberlaw02.FieldThrough', WHERE WHAT IT READS IS OF BULK AT MOST 1048576: true; the input reads as it did. -/
def fieldThroughUptoRow : OpenClaim := { program := "ytfhlgbgclkahnaa", sum := "a19164cb805e035aa78b7dfdb4036ced18d374f83e6f819b6582e6e166dcdffe", func := "dauber/dauberlaw02.FieldThrough", spec := "fieldThrough", unfollowed := true, recurses := true, apart := false, narrowed := true }
def FieldThroughUptoSaid : Prop := fieldThroughUptoRow.holds Try.pinned (OpenSpec.upto fieldThroughSpec)

/-- 'dauberlaw02.FieldPolys', WHERE WHAT IT READS IS OF BULK AT MOST 1048576: true; the input reads as it did. -/
def fieldPolysUptoRow : OpenClaim := { program := "ytfhlgbgclkahnaa", sum := "a19164cb805e035aa78b7dfdb4036ced18d374f83e6f819b6582e6e166dcdffe", func := "dauber/dauberlaw02.FieldPolys", spec := "fieldPolys", unfollowed := true, recurses := true, apart := false, narrowed := true }
def FieldPolysUptoSaid : Prop := fieldPolysUptoRow.holds Try.pinned (OpenSpec.upto fieldPolysSpec)

/-- 'dauberlaw02.FieldRoots', WHERE WHAT IT READS IS OF BULK AT MOST 1048576: true; the input reads as it did. -/
def fieldRootsUptoRow : OpenClaim := { program := "ytfhlgbgclkahnaa", sum := "a19164cb805e035aa78b7dfdb4036ced18d374f83e6f819b6582e6e166dcdffe", func := "dauber/dauberlaw02.FieldRoots", spec := "fieldRoots", unfollowed := true, recurses := true, apart := false, narrowed := true }
def FieldRootsUptoSaid : Prop := fieldRootsUptoRow.holds Try.pinned (OpenSpec.upto fieldRootsSpec)

/-- 'dauberlaw02.FieldChecks', WHERE WHAT IT READS IS OF BULK AT MOST 1048576: true; the input reads as it did. -/
def fieldChecksUptoRow : OpenClaim := { program := "ytfhlgbgclkahnaa", sum := "a19164cb805e035aa78b7dfdb4036ced18d374f83e6f819b6582e6e166dcdffe", func := "dauber/dauberlaw02.FieldChecks", spec := "fieldChecks", unfollowed := true, recurses := true, apart := false, narrowed := true }
def FieldChecksUptoSaid : Prop := fieldChecksUptoRow.holds Try.pinned (OpenSpec.upto fieldChecksSpec)

/-- 'dauberlaw02.FieldNorms', WHERE WHAT IT READS IS OF BULK AT MOST 1048576: true; the input reads as it did. -/
def fieldNormsUptoRow : OpenClaim := { program := "ytfhlgbgclkahnaa", sum := "a19164cb805e035aa78b7dfdb4036ced18d374f83e6f819b6582e6e166dcdffe", func := "dauber/dauberlaw02.FieldNorms", spec := "fieldNorms", unfollowed := true, recurses := true, apart := false, narrowed := true }
def FieldNormsUptoSaid : Prop := fieldNormsUptoRow.holds Try.pinned (OpenSpec.upto fieldNormsSpec)

/-- 'dauberlaw02.FieldMakes', WHERE WHAT IT READS IS OF BULK AT MOST 1048576: true; the input reads as it did. -/
def fieldMakesUptoRow : OpenClaim := { program := "ytfhlgbgclkahnaa", sum := "a19164cb805e035aa78b7dfdb4036ced18d374f83e6f819b6582e6e166dcdffe", func := "dauber/dauberlaw02.FieldMakes", spec := "fieldMakes", unfollowed := true, recurses := true, apart := false, narrowed := true }
def FieldMakesUptoSaid : Prop := fieldMakesUptoRow.holds Try.pinned (OpenSpec.upto fieldMakesSpec)

/-- 'daubertop.TopLogs', WHERE WHAT IT READS IS OF BULK AT MOST 1048576: true; the input reads as it did. -/
def topLogsUptoRow : OpenClaim := { program := "ytfhlgbgclkahnaa", sum := "a19164cb805e035aa78b7dfdb4036ced18d374f83e6f819b6582e6e166dcdffe", func := "dauber/daubertop.TopLogs", spec := "topLogs", unfollowed := true, recurses := true, apart := false, narrowed := true }
def TopLogsUptoSaid : Prop := topLogsUptoRow.holds Try.pinned (OpenSpec.upto topLogsSpec)

end Rows
end Go.Proofs.Ytfhlgbgclkahnaa
