/-
  No cell of these rows narrows 'for every input' (looked for: loops, veiled, ifaces, maps, wideKeys, modest, calm, conditions, laid).
  DERIVED. THE GIVEN ROWS OF THIS SEAT. 12 by the template 'for every input the law returns true; each argument reads behind the call as it read before'; 0 by the template 'total and deterministic' (their statements: YtahhmpaaggeakaaTotals.lean).
  GIVEN WITH THE SEED: the statements are not yours to turn. If you find one false, say at which input.
  Laid BY PROGRAM, IN A SANDBOX (cutbox-rows.mjs): the forced cells as the released guide's own fill.sh prints them over the translation ea12e80636fcb320… (all of the seat's roots in one cut). By AI agents, Wed Nov 11 2026. No macro, syntax, notation, axiom, sorry.
-/
import Derived.Test.YtahhmpaaggeakaaChecked
import GoSem.Claim
import GoSem.ClaimJoined
import GoSem.ClaimMapViews
import Derived.JoinedTies
import Derived.KernelRfl
namespace Go.Proofs.Ytahhmpaaggeakaa
/- THE CELL 'sum', in the pinned program and in every row, IS THE sha256 OF THE DUMP (.gsa) THAT YtahhmpaaggeakaaProg.lean LOADS. Nothing in Lean hashes anything: it is a label: what it is worth is what the hold of that sum in a sandbox is worth. -/
noncomputable def Try.pinned : Pinned := { name := "ytahhmpaaggeakaa", sum := "ea12e80636fcb3204ccd9fb5a8aafe75252f080a7bf9155f8fcddaba259a8a4f", checked := Try.checked }
namespace Rows
def none {H : Type} : Left H := { results := [], args := [] }

/-- 'laws.FnExactOnCalls': WHATEVER THE INPUT: true; the input reads as it did. -/
def fnExactOnCallsSpec : ChangeSpec := { name := "fnExactOnCalls", fn := fun _ => fun
  | [d1, d2, d3] => { results := [.lit (.bool true)], args := [d1, d2, d3] }
  | _ => none }
def fnExactOnCallsRow : OpenClaim := { program := "ytahhmpaaggeakaa", sum := "ea12e80636fcb3204ccd9fb5a8aafe75252f080a7bf9155f8fcddaba259a8a4f", func := "loop.example/g01389/laws.FnExactOnCalls", spec := "fnExactOnCalls", apart := false }
def FnExactOnCallsSaid : Prop := fnExactOnCallsRow.holds Try.pinned (OpenSpec.ofChange fnExactOnCallsSpec)

/-- ITS FALSE NEIGHBOUR: 'it returns false'. Refute it at one input. -/
def fnExactOnCallsWrong : ChangeSpec := { name := "fnExactOnCalls", fn := fun _ => fun
  | [d1, d2, d3] => { results := [.lit (.bool false)], args := [d1, d2, d3] }
  | _ => none }
def FnExactOnCallsWrongFalsely : Prop := fnExactOnCallsRow.holds Try.pinned (OpenSpec.ofChange fnExactOnCallsWrong)

/-- 'laws.FnExactHoistPeriod': WHATEVER THE INPUT: true; the input reads as it did. -/
def fnExactHoistPeriodSpec : ChangeSpec := { name := "fnExactHoistPeriod", fn := fun _ => fun
  | [d1, d2, d3] => { results := [.lit (.bool true)], args := [d1, d2, d3] }
  | _ => none }
def fnExactHoistPeriodRow : OpenClaim := { program := "ytahhmpaaggeakaa", sum := "ea12e80636fcb3204ccd9fb5a8aafe75252f080a7bf9155f8fcddaba259a8a4f", func := "loop.example/g01389/laws.FnExactHoistPeriod", spec := "fnExactHoistPeriod", apart := false }
def FnExactHoistPeriodSaid : Prop := fnExactHoistPeriodRow.holds Try.pinned (OpenSpec.ofChange fnExactHoistPeriodSpec)

/-- ITS FALSE NEIGHBOUR: 'it returns false'. Refute it at one input. -/
def fnExactHoistPeriodWrong : ChangeSpec := { name := "fnExactHoistPeriod", fn := fun _ => fun
  | [d1, d2, d3] => { results := [.lit (.bool false)], args := [d1, d2, d3] }
  | _ => none }
def FnExactHoistPeriodWrongFalsely : Prop := fnExactHoistPeriodRow.holds Try.pinned (OpenSpec.ofChange fnExactHoistPeriodWrong)

/-- 'laws.FnExactGreenShares': WHATEVER THE INPUT: true; the input reads as it did. -/
def fnExactGreenSharesSpec : ChangeSpec := { name := "fnExactGreenShares", fn := fun _ => fun
  | [d1, d2, d3] => { results := [.lit (.bool true)], args := [d1, d2, d3] }
  | _ => none }
def fnExactGreenSharesRow : OpenClaim := { program := "ytahhmpaaggeakaa", sum := "ea12e80636fcb3204ccd9fb5a8aafe75252f080a7bf9155f8fcddaba259a8a4f", func := "loop.example/g01389/laws.FnExactGreenShares", spec := "fnExactGreenShares", unfollowed := true, recurses := true, apart := false }
def FnExactGreenSharesSaid : Prop := fnExactGreenSharesRow.holds Try.pinned (OpenSpec.ofChange fnExactGreenSharesSpec)

/-- ITS FALSE NEIGHBOUR: 'it returns false'. Refute it at one input. -/
def fnExactGreenSharesWrong : ChangeSpec := { name := "fnExactGreenShares", fn := fun _ => fun
  | [d1, d2, d3] => { results := [.lit (.bool false)], args := [d1, d2, d3] }
  | _ => none }
def FnExactGreenSharesWrongFalsely : Prop := fnExactGreenSharesRow.holds Try.pinned (OpenSpec.ofChange fnExactGreenSharesWrong)

/-- 'laws.FnExactBlockTimes': WHATEVER THE INPUT: true; the input reads as it did. -/
def fnExactBlockTimesSpec : ChangeSpec := { name := "fnExactBlockTimes", fn := fun _ => fun
  | [d1, d2] => { results := [.lit (.bool true)], args := [d1, d2] }
  | _ => none }
def fnExactBlockTimesRow : OpenClaim := { program := "ytahhmpaaggeakaa", sum := "ea12e80636fcb3204ccd9fb5a8aafe75252f080a7bf9155f8fcddaba259a8a4f", func := "loop.example/g01389/laws.FnExactBlockTimes", spec := "fnExactBlockTimes", apart := false }
def FnExactBlockTimesSaid : Prop := fnExactBlockTimesRow.holds Try.pinned (OpenSpec.ofChange fnExactBlockTimesSpec)

/-- ITS FALSE NEIGHBOUR: 'it returns false'. Refute it at one input. -/
def fnExactBlockTimesWrong : ChangeSpec := { name := "fnExactBlockTimes", fn := fun _ => fun
  | [d1, d2] => { results := [.lit (.bool false)], args := [d1, d2] }
  | _ => none }
def FnExactBlockTimesWrongFalsely : Prop := fnExactBlockTimesRow.holds Try.pinned (OpenSpec.ofChange fnExactBlockTimesWrong)

/-- 'laws.FnExactCountTables': WHATEVER THE INPUT: true; the input reads as it did. -/
def fnExactCountTablesSpec : ChangeSpec := { name := "fnExactCountTables", fn := fun _ => fun
  | [d1, d2, d3] => { results := [.lit (.bool true)], args := [d1, d2, d3] }
  | _ => none }
def fnExactCountTablesRow : OpenClaim := { program := "ytahhmpaaggeakaa", sum := "ea12e80636fcb3204ccd9fb5a8aafe75252f080a7bf9155f8fcddaba259a8a4f", func := "loop.example/g01389/laws.FnExactCountTables", spec := "fnExactCountTables", unfollowed := true, recurses := true, apart := false }
def FnExactCountTablesSaid : Prop := fnExactCountTablesRow.holds Try.pinned (OpenSpec.ofChange fnExactCountTablesSpec)

/-- ITS FALSE NEIGHBOUR: 'it returns false'. Refute it at one input. -/
def fnExactCountTablesWrong : ChangeSpec := { name := "fnExactCountTables", fn := fun _ => fun
  | [d1, d2, d3] => { results := [.lit (.bool false)], args := [d1, d2, d3] }
  | _ => none }
def FnExactCountTablesWrongFalsely : Prop := fnExactCountTablesRow.holds Try.pinned (OpenSpec.ofChange fnExactCountTablesWrong)

/-- 'laws.FnExactCanFollow': WHATEVER THE INPUT: true; the input reads as it did. -/
def fnExactCanFollowSpec : ChangeSpec := { name := "fnExactCanFollow", fn := fun _ => fun
  | [d1, d2] => { results := [.lit (.bool true)], args := [d1, d2] }
  | _ => none }
def fnExactCanFollowRow : OpenClaim := { program := "ytahhmpaaggeakaa", sum := "ea12e80636fcb3204ccd9fb5a8aafe75252f080a7bf9155f8fcddaba259a8a4f", func := "loop.example/g01389/laws.FnExactCanFollow", spec := "fnExactCanFollow", apart := false }
def FnExactCanFollowSaid : Prop := fnExactCanFollowRow.holds Try.pinned (OpenSpec.ofChange fnExactCanFollowSpec)

/-- ITS FALSE NEIGHBOUR: 'it returns false'. Refute it at one input. -/
def fnExactCanFollowWrong : ChangeSpec := { name := "fnExactCanFollow", fn := fun _ => fun
  | [d1, d2] => { results := [.lit (.bool false)], args := [d1, d2] }
  | _ => none }
def FnExactCanFollowWrongFalsely : Prop := fnExactCanFollowRow.holds Try.pinned (OpenSpec.ofChange fnExactCanFollowWrong)

/-- 'laws.FnExactSpreadDelays': WHATEVER THE INPUT: true; the input reads as it did. -/
def fnExactSpreadDelaysSpec : ChangeSpec := { name := "fnExactSpreadDelays", fn := fun _ => fun
  | [d1, d2, d3] => { results := [.lit (.bool true)], args := [d1, d2, d3] }
  | _ => none }
def fnExactSpreadDelaysRow : OpenClaim := { program := "ytahhmpaaggeakaa", sum := "ea12e80636fcb3204ccd9fb5a8aafe75252f080a7bf9155f8fcddaba259a8a4f", func := "loop.example/g01389/laws.FnExactSpreadDelays", spec := "fnExactSpreadDelays", unfollowed := true, recurses := true, apart := false }
def FnExactSpreadDelaysSaid : Prop := fnExactSpreadDelaysRow.holds Try.pinned (OpenSpec.ofChange fnExactSpreadDelaysSpec)

/-- ITS FALSE NEIGHBOUR: 'it returns false'. Refute it at one input. -/
def fnExactSpreadDelaysWrong : ChangeSpec := { name := "fnExactSpreadDelays", fn := fun _ => fun
  | [d1, d2, d3] => { results := [.lit (.bool false)], args := [d1, d2, d3] }
  | _ => none }
def FnExactSpreadDelaysWrongFalsely : Prop := fnExactSpreadDelaysRow.holds Try.pinned (OpenSpec.ofChange fnExactSpreadDelaysWrong)

/-- 'laws.FnExactMatchSkills': WHATEVER THE INPUT: true; the input reads as it did. -/
def fnExactMatchSkillsSpec : ChangeSpec := { name := "fnExactMatchSkills", fn := fun _ => fun
  | [d1, d2] => { results := [.lit (.bool true)], args := [d1, d2] }
  | _ => none }
def fnExactMatchSkillsRow : OpenClaim := { program := "ytahhmpaaggeakaa", sum := "ea12e80636fcb3204ccd9fb5a8aafe75252f080a7bf9155f8fcddaba259a8a4f", func := "loop.example/g01389/laws.FnExactMatchSkills", spec := "fnExactMatchSkills", unfollowed := true, recurses := true, apart := false }
def FnExactMatchSkillsSaid : Prop := fnExactMatchSkillsRow.holds Try.pinned (OpenSpec.ofChange fnExactMatchSkillsSpec)

/-- ITS FALSE NEIGHBOUR: 'it returns false'. Refute it at one input. -/
def fnExactMatchSkillsWrong : ChangeSpec := { name := "fnExactMatchSkills", fn := fun _ => fun
  | [d1, d2] => { results := [.lit (.bool false)], args := [d1, d2] }
  | _ => none }
def FnExactMatchSkillsWrongFalsely : Prop := fnExactMatchSkillsRow.holds Try.pinned (OpenSpec.ofChange fnExactMatchSkillsWrong)

/-- 'laws.FnExactFirstTable': WHATEVER THE INPUT: true; the input reads as it did. -/
def fnExactFirstTableSpec : ChangeSpec := { name := "fnExactFirstTable", fn := fun _ => fun
  | [d1, d2, d3] => { results := [.lit (.bool true)], args := [d1, d2, d3] }
  | _ => none }
def fnExactFirstTableRow : OpenClaim := { program := "ytahhmpaaggeakaa", sum := "ea12e80636fcb3204ccd9fb5a8aafe75252f080a7bf9155f8fcddaba259a8a4f", func := "loop.example/g01389/laws.FnExactFirstTable", spec := "fnExactFirstTable", unfollowed := true, recurses := true, apart := false }
def FnExactFirstTableSaid : Prop := fnExactFirstTableRow.holds Try.pinned (OpenSpec.ofChange fnExactFirstTableSpec)

/-- ITS FALSE NEIGHBOUR: 'it returns false'. Refute it at one input. -/
def fnExactFirstTableWrong : ChangeSpec := { name := "fnExactFirstTable", fn := fun _ => fun
  | [d1, d2, d3] => { results := [.lit (.bool false)], args := [d1, d2, d3] }
  | _ => none }
def FnExactFirstTableWrongFalsely : Prop := fnExactFirstTableRow.holds Try.pinned (OpenSpec.ofChange fnExactFirstTableWrong)

/-- 'laws.FnExactBestTable': WHATEVER THE INPUT: true; the input reads as it did. -/
def fnExactBestTableSpec : ChangeSpec := { name := "fnExactBestTable", fn := fun _ => fun
  | [d1, d2, d3] => { results := [.lit (.bool true)], args := [d1, d2, d3] }
  | _ => none }
def fnExactBestTableRow : OpenClaim := { program := "ytahhmpaaggeakaa", sum := "ea12e80636fcb3204ccd9fb5a8aafe75252f080a7bf9155f8fcddaba259a8a4f", func := "loop.example/g01389/laws.FnExactBestTable", spec := "fnExactBestTable", unfollowed := true, recurses := true, apart := false }
def FnExactBestTableSaid : Prop := fnExactBestTableRow.holds Try.pinned (OpenSpec.ofChange fnExactBestTableSpec)

/-- ITS FALSE NEIGHBOUR: 'it returns false'. Refute it at one input. -/
def fnExactBestTableWrong : ChangeSpec := { name := "fnExactBestTable", fn := fun _ => fun
  | [d1, d2, d3] => { results := [.lit (.bool false)], args := [d1, d2, d3] }
  | _ => none }
def FnExactBestTableWrongFalsely : Prop := fnExactBestTableRow.holds Try.pinned (OpenSpec.ofChange fnExactBestTableWrong)

/-- 'laws.FnExactRingGap': WHATEVER THE INPUT: true; the input reads as it did. -/
def fnExactRingGapSpec : ChangeSpec := { name := "fnExactRingGap", fn := fun _ => fun
  | [d1, d2, d3, d4] => { results := [.lit (.bool true)], args := [d1, d2, d3, d4] }
  | _ => none }
def fnExactRingGapRow : OpenClaim := { program := "ytahhmpaaggeakaa", sum := "ea12e80636fcb3204ccd9fb5a8aafe75252f080a7bf9155f8fcddaba259a8a4f", func := "loop.example/g01389/laws.FnExactRingGap", spec := "fnExactRingGap", apart := false }
def FnExactRingGapSaid : Prop := fnExactRingGapRow.holds Try.pinned (OpenSpec.ofChange fnExactRingGapSpec)

/-- ITS FALSE NEIGHBOUR: 'it returns false'. Refute it at one input. -/
def fnExactRingGapWrong : ChangeSpec := { name := "fnExactRingGap", fn := fun _ => fun
  | [d1, d2, d3, d4] => { results := [.lit (.bool false)], args := [d1, d2, d3, d4] }
  | _ => none }
def FnExactRingGapWrongFalsely : Prop := fnExactRingGapRow.holds Try.pinned (OpenSpec.ofChange fnExactRingGapWrong)

/-- 'laws.FnExactIsPeriod': WHATEVER THE INPUT: true; the input reads as it did. -/
def fnExactIsPeriodSpec : ChangeSpec := { name := "fnExactIsPeriod", fn := fun _ => fun
  | [d1, d2, d3, d4] => { results := [.lit (.bool true)], args := [d1, d2, d3, d4] }
  | _ => none }
def fnExactIsPeriodRow : OpenClaim := { program := "ytahhmpaaggeakaa", sum := "ea12e80636fcb3204ccd9fb5a8aafe75252f080a7bf9155f8fcddaba259a8a4f", func := "loop.example/g01389/laws.FnExactIsPeriod", spec := "fnExactIsPeriod", apart := false }
def FnExactIsPeriodSaid : Prop := fnExactIsPeriodRow.holds Try.pinned (OpenSpec.ofChange fnExactIsPeriodSpec)

/-- ITS FALSE NEIGHBOUR: 'it returns false'. Refute it at one input. -/
def fnExactIsPeriodWrong : ChangeSpec := { name := "fnExactIsPeriod", fn := fun _ => fun
  | [d1, d2, d3, d4] => { results := [.lit (.bool false)], args := [d1, d2, d3, d4] }
  | _ => none }
def FnExactIsPeriodWrongFalsely : Prop := fnExactIsPeriodRow.holds Try.pinned (OpenSpec.ofChange fnExactIsPeriodWrong)

/- THE SECOND FORM. 'bulk': how many values and letters a reading holds, each counted each time it is reached (what is shared counts as often as it is met; a slice's spare places count too). A statement '..UptoSaid' is the law's where the arguments, and the package variables that the reading takes, are together of bulk at most 1048576: NARROWER than '..Said'. Prove '..Said' where nothing that the law and all that it calls make is longer than what came in: it says more and counts as full. Else prove '..UptoSaid'. A law counts once. -/
mutual
def uptoBulk {H : Type} : DataW H → Nat
  | .lit (.string bytes) => bytes.length + 1
  | .lit _ => 1
  | .nil => 1
  | .ptr d => uptoBulk d + 1
  | .slice elems spare => uptoBulkAll elems + uptoBulkAll spare + 1
  | .agg parts => uptoBulkAll parts + 1
  | .iface _ d => uptoBulk d + 1
  | .map entries => uptoBulkEntries entries + 1
  | .held _ => 1
def uptoBulkAll {H : Type} : List (DataW H) → Nat
  | [] => 0
  | d :: r => uptoBulk d + uptoBulkAll r
def uptoBulkEntries {H : Type} : List (Lit × DataW H) → Nat
  | [] => 0
  | x :: r => uptoBulkEntry x + uptoBulkEntries r
def uptoBulkEntry {H : Type} : Lit × DataW H → Nat
  | (.string bytes, d) => bytes.length + uptoBulk d + 1
  | (_, d) => uptoBulk d + 1
 end
def uptoSmall : (H : Type) → List (DataW H) → Bool := fun _ ds => decide (uptoBulkAll ds ≤ 1048576)
def OpenSpec.upto (s : _root_.Go.ChangeSpec) : _root_.Go.OpenSpec := { _root_.Go.OpenSpec.ofChange s with cond := some uptoSmall }

/-- 'laws.FnExactOnCalls', WHERE WHAT IT READS IS OF BULK AT MOST 1048576: true; the input reads as it did. -/
def fnExactOnCallsUptoRow : OpenClaim := { program := "ytahhmpaaggeakaa", sum := "ea12e80636fcb3204ccd9fb5a8aafe75252f080a7bf9155f8fcddaba259a8a4f", func := "loop.example/g01389/laws.FnExactOnCalls", spec := "fnExactOnCalls", apart := false, narrowed := true }
def FnExactOnCallsUptoSaid : Prop := fnExactOnCallsUptoRow.holds Try.pinned (OpenSpec.upto fnExactOnCallsSpec)

/-- 'laws.FnExactHoistPeriod', WHERE WHAT IT READS IS OF BULK AT MOST 1048576: true; the input reads as it did. -/
def fnExactHoistPeriodUptoRow : OpenClaim := { program := "ytahhmpaaggeakaa", sum := "ea12e80636fcb3204ccd9fb5a8aafe75252f080a7bf9155f8fcddaba259a8a4f", func := "loop.example/g01389/laws.FnExactHoistPeriod", spec := "fnExactHoistPeriod", apart := false, narrowed := true }
def FnExactHoistPeriodUptoSaid : Prop := fnExactHoistPeriodUptoRow.holds Try.pinned (OpenSpec.upto fnExactHoistPeriodSpec)

/-- 'laws.FnExactGreenShares', WHERE WHAT IT READS IS OF BULK AT MOST 1048576: true; the input reads as it did. -/
def fnExactGreenSharesUptoRow : OpenClaim := { program := "ytahhmpaaggeakaa", sum := "ea12e80636fcb3204ccd9fb5a8aafe75252f080a7bf9155f8fcddaba259a8a4f", func := "loop.example/g01389/laws.FnExactGreenShares", spec := "fnExactGreenShares", unfollowed := true, recurses := true, apart := false, narrowed := true }
def FnExactGreenSharesUptoSaid : Prop := fnExactGreenSharesUptoRow.holds Try.pinned (OpenSpec.upto fnExactGreenSharesSpec)

/-- 'laws.FnExactBlockTimes', WHERE WHAT IT READS IS OF BULK AT MOST 1048576: true; the input reads as it did. -/
def fnExactBlockTimesUptoRow : OpenClaim := { program := "ytahhmpaaggeakaa", sum := "ea12e80636fcb3204ccd9fb5a8aafe75252f080a7bf9155f8fcddaba259a8a4f", func := "loop.example/g01389/laws.FnExactBlockTimes", spec := "fnExactBlockTimes", apart := false, narrowed := true }
def FnExactBlockTimesUptoSaid : Prop := fnExactBlockTimesUptoRow.holds Try.pinned (OpenSpec.upto fnExactBlockTimesSpec)

/-- 'laws.FnExactCountTables', WHERE WHAT IT READS IS OF BULK AT MOST 1048576: true; the input reads as it did. -/
def fnExactCountTablesUptoRow : OpenClaim := { program := "ytahhmpaaggeakaa", sum := "ea12e80636fcb3204ccd9fb5a8aafe75252f080a7bf9155f8fcddaba259a8a4f", func := "loop.example/g01389/laws.FnExactCountTables", spec := "fnExactCountTables", unfollowed := true, recurses := true, apart := false, narrowed := true }
def FnExactCountTablesUptoSaid : Prop := fnExactCountTablesUptoRow.holds Try.pinned (OpenSpec.upto fnExactCountTablesSpec)

/-- 'laws.FnExactCanFollow', WHERE WHAT IT READS IS OF BULK AT MOST 1048576: true; the input reads as it did. -/
def fnExactCanFollowUptoRow : OpenClaim := { program := "ytahhmpaaggeakaa", sum := "ea12e80636fcb3204ccd9fb5a8aafe75252f080a7bf9155f8fcddaba259a8a4f", func := "loop.example/g01389/laws.FnExactCanFollow", spec := "fnExactCanFollow", apart := false, narrowed := true }
def FnExactCanFollowUptoSaid : Prop := fnExactCanFollowUptoRow.holds Try.pinned (OpenSpec.upto fnExactCanFollowSpec)

/-- 'laws.FnExactSpreadDelays', WHERE WHAT IT READS IS OF BULK AT MOST 1048576: true; the input reads as it did. -/
def fnExactSpreadDelaysUptoRow : OpenClaim := { program := "ytahhmpaaggeakaa", sum := "ea12e80636fcb3204ccd9fb5a8aafe75252f080a7bf9155f8fcddaba259a8a4f", func := "loop.example/g01389/laws.FnExactSpreadDelays", spec := "fnExactSpreadDelays", unfollowed := true, recurses := true, apart := false, narrowed := true }
def FnExactSpreadDelaysUptoSaid : Prop := fnExactSpreadDelaysUptoRow.holds Try.pinned (OpenSpec.upto fnExactSpreadDelaysSpec)

/-- 'laws.FnExactMatchSkills', WHERE WHAT IT READS IS OF BULK AT MOST 1048576: true; the input reads as it did. -/
def fnExactMatchSkillsUptoRow : OpenClaim := { program := "ytahhmpaaggeakaa", sum := "ea12e80636fcb3204ccd9fb5a8aafe75252f080a7bf9155f8fcddaba259a8a4f", func := "loop.example/g01389/laws.FnExactMatchSkills", spec := "fnExactMatchSkills", unfollowed := true, recurses := true, apart := false, narrowed := true }
def FnExactMatchSkillsUptoSaid : Prop := fnExactMatchSkillsUptoRow.holds Try.pinned (OpenSpec.upto fnExactMatchSkillsSpec)

/-- 'laws.FnExactFirstTable', WHERE WHAT IT READS IS OF BULK AT MOST 1048576: true; the input reads as it did. -/
def fnExactFirstTableUptoRow : OpenClaim := { program := "ytahhmpaaggeakaa", sum := "ea12e80636fcb3204ccd9fb5a8aafe75252f080a7bf9155f8fcddaba259a8a4f", func := "loop.example/g01389/laws.FnExactFirstTable", spec := "fnExactFirstTable", unfollowed := true, recurses := true, apart := false, narrowed := true }
def FnExactFirstTableUptoSaid : Prop := fnExactFirstTableUptoRow.holds Try.pinned (OpenSpec.upto fnExactFirstTableSpec)

/-- 'laws.FnExactBestTable', WHERE WHAT IT READS IS OF BULK AT MOST 1048576: true; the input reads as it did. -/
def fnExactBestTableUptoRow : OpenClaim := { program := "ytahhmpaaggeakaa", sum := "ea12e80636fcb3204ccd9fb5a8aafe75252f080a7bf9155f8fcddaba259a8a4f", func := "loop.example/g01389/laws.FnExactBestTable", spec := "fnExactBestTable", unfollowed := true, recurses := true, apart := false, narrowed := true }
def FnExactBestTableUptoSaid : Prop := fnExactBestTableUptoRow.holds Try.pinned (OpenSpec.upto fnExactBestTableSpec)

/-- 'laws.FnExactRingGap', WHERE WHAT IT READS IS OF BULK AT MOST 1048576: true; the input reads as it did. -/
def fnExactRingGapUptoRow : OpenClaim := { program := "ytahhmpaaggeakaa", sum := "ea12e80636fcb3204ccd9fb5a8aafe75252f080a7bf9155f8fcddaba259a8a4f", func := "loop.example/g01389/laws.FnExactRingGap", spec := "fnExactRingGap", apart := false, narrowed := true }
def FnExactRingGapUptoSaid : Prop := fnExactRingGapUptoRow.holds Try.pinned (OpenSpec.upto fnExactRingGapSpec)

/-- 'laws.FnExactIsPeriod', WHERE WHAT IT READS IS OF BULK AT MOST 1048576: true; the input reads as it did. -/
def fnExactIsPeriodUptoRow : OpenClaim := { program := "ytahhmpaaggeakaa", sum := "ea12e80636fcb3204ccd9fb5a8aafe75252f080a7bf9155f8fcddaba259a8a4f", func := "loop.example/g01389/laws.FnExactIsPeriod", spec := "fnExactIsPeriod", apart := false, narrowed := true }
def FnExactIsPeriodUptoSaid : Prop := fnExactIsPeriodUptoRow.holds Try.pinned (OpenSpec.upto fnExactIsPeriodSpec)

end Rows
end Go.Proofs.Ytahhmpaaggeakaa
