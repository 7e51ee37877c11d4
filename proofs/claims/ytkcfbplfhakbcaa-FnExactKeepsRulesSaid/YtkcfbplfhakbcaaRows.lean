/-
  No cell of these rows narrows 'for every input' (looked for: loops, veiled, ifaces, maps, wideKeys, modest, calm, conditions, laid).
  DERIVED. THE GIVEN ROWS OF THIS SEAT. 12 by the template 'for every input the law returns true; each argument reads behind the call as it read before'; 0 by the template 'total and deterministic' (their statements: YtkcfbplfhakbcaaTotals.lean).
  GIVEN WITH THE SEED: the statements are not yours to turn. If you find one false, say at which input.
  Laid BY PROGRAM, IN A SANDBOX (cutbox-rows.mjs): the forced cells as the released guide's own fill.sh prints them over the translation 58ea4b8405308e5f… (all of the seat's roots in one cut). By AI agents, Wed Nov 11 2026. No macro, syntax, notation, axiom, sorry.
-/
import Derived.Test.YtkcfbplfhakbcaaChecked
import GoSem.Claim
import GoSem.ClaimJoined
import GoSem.ClaimMapViews
import Derived.JoinedTies
import Derived.KernelRfl
namespace Go.Proofs.Ytkcfbplfhakbcaa
/- THE CELL 'sum', in the pinned program and in every row, IS THE sha256 OF THE DUMP (.gsa) THAT YtkcfbplfhakbcaaProg.lean LOADS. Nothing in Lean hashes anything: it is a label: what it is worth is what the hold of that sum in a sandbox is worth. -/
noncomputable def Try.pinned : Pinned := { name := "ytkcfbplfhakbcaa", sum := "58ea4b8405308e5f947e1a4ca3ab93e321e519b9a61077bbcfc5c160be0ba20c", checked := Try.checked }
namespace Rows
def none {H : Type} : Left H := { results := [], args := [] }

/-- 'laws.FnExactBlockTimes': WHATEVER THE INPUT: true; the input reads as it did. -/
def fnExactBlockTimesSpec : ChangeSpec := { name := "fnExactBlockTimes", fn := fun _ => fun
  | [d1, d2] => { results := [.lit (.bool true)], args := [d1, d2] }
  | _ => none }
def fnExactBlockTimesRow : OpenClaim := { program := "ytkcfbplfhakbcaa", sum := "58ea4b8405308e5f947e1a4ca3ab93e321e519b9a61077bbcfc5c160be0ba20c", func := "loop.example/g01389/laws.FnExactBlockTimes", spec := "fnExactBlockTimes", plainKeys := false, apart := false }
def FnExactBlockTimesSaid : Prop := fnExactBlockTimesRow.holds Try.pinned (OpenSpec.ofChange fnExactBlockTimesSpec)

/-- ITS FALSE NEIGHBOUR: 'it returns false'. Refute it at one input. -/
def fnExactBlockTimesWrong : ChangeSpec := { name := "fnExactBlockTimes", fn := fun _ => fun
  | [d1, d2] => { results := [.lit (.bool false)], args := [d1, d2] }
  | _ => none }
def FnExactBlockTimesWrongFalsely : Prop := fnExactBlockTimesRow.holds Try.pinned (OpenSpec.ofChange fnExactBlockTimesWrong)

/-- 'laws.FnExactVehicleBound': WHATEVER THE INPUT: true; the input reads as it did. -/
def fnExactVehicleBoundSpec : ChangeSpec := { name := "fnExactVehicleBound", fn := fun _ => fun
  | [d] => { results := [.lit (.bool true)], args := [d] }
  | _ => none }
def fnExactVehicleBoundRow : OpenClaim := { program := "ytkcfbplfhakbcaa", sum := "58ea4b8405308e5f947e1a4ca3ab93e321e519b9a61077bbcfc5c160be0ba20c", func := "loop.example/g01389/laws.FnExactVehicleBound", spec := "fnExactVehicleBound", plainKeys := false, apart := false }
def FnExactVehicleBoundSaid : Prop := fnExactVehicleBoundRow.holds Try.pinned (OpenSpec.ofChange fnExactVehicleBoundSpec)

/-- ITS FALSE NEIGHBOUR: 'it returns false'. Refute it at one input. -/
def fnExactVehicleBoundWrong : ChangeSpec := { name := "fnExactVehicleBound", fn := fun _ => fun
  | [d] => { results := [.lit (.bool false)], args := [d] }
  | _ => none }
def FnExactVehicleBoundWrongFalsely : Prop := fnExactVehicleBoundRow.holds Try.pinned (OpenSpec.ofChange fnExactVehicleBoundWrong)

/-- 'laws.FnExactOnCalls': WHATEVER THE INPUT: true; the input reads as it did. -/
def fnExactOnCallsSpec : ChangeSpec := { name := "fnExactOnCalls", fn := fun _ => fun
  | [d1, d2, d3] => { results := [.lit (.bool true)], args := [d1, d2, d3] }
  | _ => none }
def fnExactOnCallsRow : OpenClaim := { program := "ytkcfbplfhakbcaa", sum := "58ea4b8405308e5f947e1a4ca3ab93e321e519b9a61077bbcfc5c160be0ba20c", func := "loop.example/g01389/laws.FnExactOnCalls", spec := "fnExactOnCalls", plainKeys := false, apart := false }
def FnExactOnCallsSaid : Prop := fnExactOnCallsRow.holds Try.pinned (OpenSpec.ofChange fnExactOnCallsSpec)

/-- ITS FALSE NEIGHBOUR: 'it returns false'. Refute it at one input. -/
def fnExactOnCallsWrong : ChangeSpec := { name := "fnExactOnCalls", fn := fun _ => fun
  | [d1, d2, d3] => { results := [.lit (.bool false)], args := [d1, d2, d3] }
  | _ => none }
def FnExactOnCallsWrongFalsely : Prop := fnExactOnCallsRow.holds Try.pinned (OpenSpec.ofChange fnExactOnCallsWrong)

/-- 'laws.FnExactHoistPeriod': WHATEVER THE INPUT: true; the input reads as it did. -/
def fnExactHoistPeriodSpec : ChangeSpec := { name := "fnExactHoistPeriod", fn := fun _ => fun
  | [d1, d2, d3] => { results := [.lit (.bool true)], args := [d1, d2, d3] }
  | _ => none }
def fnExactHoistPeriodRow : OpenClaim := { program := "ytkcfbplfhakbcaa", sum := "58ea4b8405308e5f947e1a4ca3ab93e321e519b9a61077bbcfc5c160be0ba20c", func := "loop.example/g01389/laws.FnExactHoistPeriod", spec := "fnExactHoistPeriod", plainKeys := false, apart := false }
def FnExactHoistPeriodSaid : Prop := fnExactHoistPeriodRow.holds Try.pinned (OpenSpec.ofChange fnExactHoistPeriodSpec)

/-- ITS FALSE NEIGHBOUR: 'it returns false'. Refute it at one input. -/
def fnExactHoistPeriodWrong : ChangeSpec := { name := "fnExactHoistPeriod", fn := fun _ => fun
  | [d1, d2, d3] => { results := [.lit (.bool false)], args := [d1, d2, d3] }
  | _ => none }
def FnExactHoistPeriodWrongFalsely : Prop := fnExactHoistPeriodRow.holds Try.pinned (OpenSpec.ofChange fnExactHoistPeriodWrong)

/-- 'laws.FnExactGreenShares': WHATEVER THE INPUT: true; the input reads as it did. -/
def fnExactGreenSharesSpec : ChangeSpec := { name := "fnExactGreenShares", fn := fun _ => fun
  | [d1, d2, d3] => { results := [.lit (.bool true)], args := [d1, d2, d3] }
  | _ => none }
def fnExactGreenSharesRow : OpenClaim := { program := "ytkcfbplfhakbcaa", sum := "58ea4b8405308e5f947e1a4ca3ab93e321e519b9a61077bbcfc5c160be0ba20c", func := "loop.example/g01389/laws.FnExactGreenShares", spec := "fnExactGreenShares", unfollowed := true, recurses := true, plainKeys := false, apart := false }
def FnExactGreenSharesSaid : Prop := fnExactGreenSharesRow.holds Try.pinned (OpenSpec.ofChange fnExactGreenSharesSpec)

/-- ITS FALSE NEIGHBOUR: 'it returns false'. Refute it at one input. -/
def fnExactGreenSharesWrong : ChangeSpec := { name := "fnExactGreenShares", fn := fun _ => fun
  | [d1, d2, d3] => { results := [.lit (.bool false)], args := [d1, d2, d3] }
  | _ => none }
def FnExactGreenSharesWrongFalsely : Prop := fnExactGreenSharesRow.holds Try.pinned (OpenSpec.ofChange fnExactGreenSharesWrong)

/-- 'laws.FnExactCountShifts': WHATEVER THE INPUT: true; the input reads as it did. -/
def fnExactCountShiftsSpec : ChangeSpec := { name := "fnExactCountShifts", fn := fun _ => fun
  | [d] => { results := [.lit (.bool true)], args := [d] }
  | _ => none }
def fnExactCountShiftsRow : OpenClaim := { program := "ytkcfbplfhakbcaa", sum := "58ea4b8405308e5f947e1a4ca3ab93e321e519b9a61077bbcfc5c160be0ba20c", func := "loop.example/g01389/laws.FnExactCountShifts", spec := "fnExactCountShifts", recurses := true, plainKeys := false, apart := false }
def FnExactCountShiftsSaid : Prop := fnExactCountShiftsRow.holds Try.pinned (OpenSpec.ofChange fnExactCountShiftsSpec)

/-- ITS FALSE NEIGHBOUR: 'it returns false'. Refute it at one input. -/
def fnExactCountShiftsWrong : ChangeSpec := { name := "fnExactCountShifts", fn := fun _ => fun
  | [d] => { results := [.lit (.bool false)], args := [d] }
  | _ => none }
def FnExactCountShiftsWrongFalsely : Prop := fnExactCountShiftsRow.holds Try.pinned (OpenSpec.ofChange fnExactCountShiftsWrong)

/-- 'laws.FnCountsSharedOfAll': WHATEVER THE INPUT: true; the input reads as it did. -/
def fnCountsSharedOfAllSpec : ChangeSpec := { name := "fnCountsSharedOfAll", fn := fun _ => fun
  | [d1, d2, d3] => { results := [.lit (.bool true)], args := [d1, d2, d3] }
  | _ => none }
def fnCountsSharedOfAllRow : OpenClaim := { program := "ytkcfbplfhakbcaa", sum := "58ea4b8405308e5f947e1a4ca3ab93e321e519b9a61077bbcfc5c160be0ba20c", func := "loop.example/g01389/laws.FnCountsSharedOfAll", spec := "fnCountsSharedOfAll", recurses := true, plainKeys := false, apart := false }
def FnCountsSharedOfAllSaid : Prop := fnCountsSharedOfAllRow.holds Try.pinned (OpenSpec.ofChange fnCountsSharedOfAllSpec)

/-- ITS FALSE NEIGHBOUR: 'it returns false'. Refute it at one input. -/
def fnCountsSharedOfAllWrong : ChangeSpec := { name := "fnCountsSharedOfAll", fn := fun _ => fun
  | [d1, d2, d3] => { results := [.lit (.bool false)], args := [d1, d2, d3] }
  | _ => none }
def FnCountsSharedOfAllWrongFalsely : Prop := fnCountsSharedOfAllRow.holds Try.pinned (OpenSpec.ofChange fnCountsSharedOfAllWrong)

/-- 'laws.FnExactKeepsRules': WHATEVER THE INPUT: true; the input reads as it did. -/
def fnExactKeepsRulesSpec : ChangeSpec := { name := "fnExactKeepsRules", fn := fun _ => fun
  | [d1, d2, d3, d4] => { results := [.lit (.bool true)], args := [d1, d2, d3, d4] }
  | _ => none }
def fnExactKeepsRulesRow : OpenClaim := { program := "ytkcfbplfhakbcaa", sum := "58ea4b8405308e5f947e1a4ca3ab93e321e519b9a61077bbcfc5c160be0ba20c", func := "loop.example/g01389/laws.FnExactKeepsRules", spec := "fnExactKeepsRules", plainKeys := false, apart := false }
def FnExactKeepsRulesSaid : Prop := fnExactKeepsRulesRow.holds Try.pinned (OpenSpec.ofChange fnExactKeepsRulesSpec)

/-- ITS FALSE NEIGHBOUR: 'it returns false'. Refute it at one input. -/
def fnExactKeepsRulesWrong : ChangeSpec := { name := "fnExactKeepsRules", fn := fun _ => fun
  | [d1, d2, d3, d4] => { results := [.lit (.bool false)], args := [d1, d2, d3, d4] }
  | _ => none }
def FnExactKeepsRulesWrongFalsely : Prop := fnExactKeepsRulesRow.holds Try.pinned (OpenSpec.ofChange fnExactKeepsRulesWrong)

/-- 'laws.FnBlocks': WHATEVER THE INPUT: true; the input reads as it did. -/
def fnBlocksSpec : ChangeSpec := { name := "fnBlocks", fn := fun _ => fun
  | [d1, d2] => { results := [.lit (.bool true)], args := [d1, d2] }
  | _ => none }
def fnBlocksRow : OpenClaim := { program := "ytkcfbplfhakbcaa", sum := "58ea4b8405308e5f947e1a4ca3ab93e321e519b9a61077bbcfc5c160be0ba20c", func := "loop.example/g01389/laws.FnBlocks", spec := "fnBlocks", unfollowed := true, recurses := true, plainKeys := false, apart := false }
def FnBlocksSaid : Prop := fnBlocksRow.holds Try.pinned (OpenSpec.ofChange fnBlocksSpec)

/-- ITS FALSE NEIGHBOUR: 'it returns false'. Refute it at one input. -/
def fnBlocksWrong : ChangeSpec := { name := "fnBlocks", fn := fun _ => fun
  | [d1, d2] => { results := [.lit (.bool false)], args := [d1, d2] }
  | _ => none }
def FnBlocksWrongFalsely : Prop := fnBlocksRow.holds Try.pinned (OpenSpec.ofChange fnBlocksWrong)

/-- 'laws.FnDots': WHATEVER THE INPUT: true; the input reads as it did. -/
def fnDotsSpec : ChangeSpec := { name := "fnDots", fn := fun _ => fun
  | [d1, d2] => { results := [.lit (.bool true)], args := [d1, d2] }
  | _ => none }
def fnDotsRow : OpenClaim := { program := "ytkcfbplfhakbcaa", sum := "58ea4b8405308e5f947e1a4ca3ab93e321e519b9a61077bbcfc5c160be0ba20c", func := "loop.example/g01389/laws.FnDots", spec := "fnDots", inPlace := ["math.Float32frombits", "math.Float32bits"], unfollowed := true, recurses := true, plainKeys := false, apart := false }
def FnDotsSaid : Prop := fnDotsRow.holds Try.pinned (OpenSpec.ofChange fnDotsSpec)

/-- ITS FALSE NEIGHBOUR: 'it returns false'. Refute it at one input. -/
def fnDotsWrong : ChangeSpec := { name := "fnDots", fn := fun _ => fun
  | [d1, d2] => { results := [.lit (.bool false)], args := [d1, d2] }
  | _ => none }
def FnDotsWrongFalsely : Prop := fnDotsRow.holds Try.pinned (OpenSpec.ofChange fnDotsWrong)

/-- 'laws.FnExactFirstShifts': WHATEVER THE INPUT: true; the input reads as it did. -/
def fnExactFirstShiftsSpec : ChangeSpec := { name := "fnExactFirstShifts", fn := fun _ => fun
  | [d1, d2] => { results := [.lit (.bool true)], args := [d1, d2] }
  | _ => none }
def fnExactFirstShiftsRow : OpenClaim := { program := "ytkcfbplfhakbcaa", sum := "58ea4b8405308e5f947e1a4ca3ab93e321e519b9a61077bbcfc5c160be0ba20c", func := "loop.example/g01389/laws.FnExactFirstShifts", spec := "fnExactFirstShifts", recurses := true, plainKeys := false, apart := false }
def FnExactFirstShiftsSaid : Prop := fnExactFirstShiftsRow.holds Try.pinned (OpenSpec.ofChange fnExactFirstShiftsSpec)

/-- ITS FALSE NEIGHBOUR: 'it returns false'. Refute it at one input. -/
def fnExactFirstShiftsWrong : ChangeSpec := { name := "fnExactFirstShifts", fn := fun _ => fun
  | [d1, d2] => { results := [.lit (.bool false)], args := [d1, d2] }
  | _ => none }
def FnExactFirstShiftsWrongFalsely : Prop := fnExactFirstShiftsRow.holds Try.pinned (OpenSpec.ofChange fnExactFirstShiftsWrong)

/-- 'laws.FnTablesSharedOfAll': WHATEVER THE INPUT: true; the input reads as it did. -/
def fnTablesSharedOfAllSpec : ChangeSpec := { name := "fnTablesSharedOfAll", fn := fun _ => fun
  | [d1, d2, d3, d4, d5] => { results := [.lit (.bool true)], args := [d1, d2, d3, d4, d5] }
  | _ => none }
def fnTablesSharedOfAllRow : OpenClaim := { program := "ytkcfbplfhakbcaa", sum := "58ea4b8405308e5f947e1a4ca3ab93e321e519b9a61077bbcfc5c160be0ba20c", func := "loop.example/g01389/laws.FnTablesSharedOfAll", spec := "fnTablesSharedOfAll", unfollowed := true, recurses := true, plainKeys := false, apart := false }
def FnTablesSharedOfAllSaid : Prop := fnTablesSharedOfAllRow.holds Try.pinned (OpenSpec.ofChange fnTablesSharedOfAllSpec)

/-- ITS FALSE NEIGHBOUR: 'it returns false'. Refute it at one input. -/
def fnTablesSharedOfAllWrong : ChangeSpec := { name := "fnTablesSharedOfAll", fn := fun _ => fun
  | [d1, d2, d3, d4, d5] => { results := [.lit (.bool false)], args := [d1, d2, d3, d4, d5] }
  | _ => none }
def FnTablesSharedOfAllWrongFalsely : Prop := fnTablesSharedOfAllRow.holds Try.pinned (OpenSpec.ofChange fnTablesSharedOfAllWrong)

/- THE SECOND FORM. 'bulk': how many values and letters a reading holds, each counted each time it is reached (what is shared counts as often as it is met; a slice's spare places count too). A statement '..UptoSaid' is the law's where the arguments, and the package variables that the reading takes, are together of bulk at most 1048576: NARROWER than '..Said'. Prove '..Said' where nothing that the law and all that it calls make is longer than what came in: it says more and counts as full. Else prove '..UptoSaid'. A law counts once. -/
mutual
def uptoBulk {H : Type} : DataW H → Nat
  | .lit (.string bytes) => bytes.length + 1
  | .lit _ => 1
  | .nil => 1
  | .ptr d => uptoBulk d + 1
  | .slice elems spare => uptoBulkAll elems + uptoBulkAll spare + 1
  | .agg parts => uptoBulkAll parts + 1
  | .iface _ d => uptoBulk d + 1
  | .map entries => uptoBulkEntries entries + 1
  | .held _ => 1
def uptoBulkAll {H : Type} : List (DataW H) → Nat
  | [] => 0
  | d :: r => uptoBulk d + uptoBulkAll r
def uptoBulkEntries {H : Type} : List (Lit × DataW H) → Nat
  | [] => 0
  | x :: r => uptoBulkEntry x + uptoBulkEntries r
def uptoBulkEntry {H : Type} : Lit × DataW H → Nat
  | (.string bytes, d) => bytes.length + uptoBulk d + 1
  | (_, d) => uptoBulk d + 1
 end
def uptoSmall : (H : Type) → List (DataW H) → Bool := fun _ ds => decide (uptoBulkAll ds ≤ 1048576)
def OpenSpec.upto (s : _root_.Go.ChangeSpec) : _root_.Go.OpenSpec := { _root_.Go.OpenSpec.ofChange s with cond := some uptoSmall }

/-- 'laws.FnExactBlockTimes', WHERE WHAT IT READS IS OF BULK AT MOST 1048576: true; the input reads as it did. -/
def fnExactBlockTimesUptoRow : OpenClaim := { program := "ytkcfbplfhakbcaa", sum := "58ea4b8405308e5f947e1a4ca3ab93e321e519b9a61077bbcfc5c160be0ba20c", func := "loop.example/g01389/laws.FnExactBlockTimes", spec := "fnExactBlockTimes", plainKeys := false, apart := false, narrowed := true }
def FnExactBlockTimesUptoSaid : Prop := fnExactBlockTimesUptoRow.holds Try.pinned (OpenSpec.upto fnExactBlockTimesSpec)

/-- 'laws.FnExactVehicleBound', WHERE WHAT IT READS IS OF BULK AT MOST 1048576: true; the input reads as it did. -/
def fnExactVehicleBoundUptoRow : OpenClaim := { program := "ytkcfbplfhakbcaa", sum := "58ea4b8405308e5f947e1a4ca3ab93e321e519b9a61077bbcfc5c160be0ba20c", func := "loop.example/g01389/laws.FnExactVehicleBound", spec := "fnExactVehicleBound", plainKeys := false, apart := false, narrowed := true }
def FnExactVehicleBoundUptoSaid : Prop := fnExactVehicleBoundUptoRow.holds Try.pinned (OpenSpec.upto fnExactVehicleBoundSpec)

/-- 'laws.FnExactOnCalls', WHERE WHAT IT READS IS OF BULK AT MOST 1048576: true; the input reads as it did. -/
def fnExactOnCallsUptoRow : OpenClaim := { program := "ytkcfbplfhakbcaa", sum := "58ea4b8405308e5f947e1a4ca3ab93e321e519b9a61077bbcfc5c160be0ba20c", func := "loop.example/g01389/laws.FnExactOnCalls", spec := "fnExactOnCalls", plainKeys := false, apart := false, narrowed := true }
def FnExactOnCallsUptoSaid : Prop := fnExactOnCallsUptoRow.holds Try.pinned (OpenSpec.upto fnExactOnCallsSpec)

/-- 'laws.FnExactHoistPeriod', WHERE WHAT IT READS IS OF BULK AT MOST 1048576: true; the input reads as it did. -/
def fnExactHoistPeriodUptoRow : OpenClaim := { program := "ytkcfbplfhakbcaa", sum := "58ea4b8405308e5f947e1a4ca3ab93e321e519b9a61077bbcfc5c160be0ba20c", func := "loop.example/g01389/laws.FnExactHoistPeriod", spec := "fnExactHoistPeriod", plainKeys := false, apart := false, narrowed := true }
def FnExactHoistPeriodUptoSaid : Prop := fnExactHoistPeriodUptoRow.holds Try.pinned (OpenSpec.upto fnExactHoistPeriodSpec)

/-- 'laws.FnExactGreenShares', WHERE WHAT IT READS IS OF BULK AT MOST 1048576: true; the input reads as it did. -/
def fnExactGreenSharesUptoRow : OpenClaim := { program := "ytkcfbplfhakbcaa", sum := "58ea4b8405308e5f947e1a4ca3ab93e321e519b9a61077bbcfc5c160be0ba20c", func := "loop.example/g01389/laws.FnExactGreenShares", spec := "fnExactGreenShares", unfollowed := true, recurses := true, plainKeys := false, apart := false, narrowed := true }
def FnExactGreenSharesUptoSaid : Prop := fnExactGreenSharesUptoRow.holds Try.pinned (OpenSpec.upto fnExactGreenSharesSpec)

/-- 'laws.FnExactCountShifts', WHERE WHAT IT READS IS OF BULK AT MOST 1048576: true; the input reads as it did. -/
def fnExactCountShiftsUptoRow : OpenClaim := { program := "ytkcfbplfhakbcaa", sum := "58ea4b8405308e5f947e1a4ca3ab93e321e519b9a61077bbcfc5c160be0ba20c", func := "loop.example/g01389/laws.FnExactCountShifts", spec := "fnExactCountShifts", recurses := true, plainKeys := false, apart := false, narrowed := true }
def FnExactCountShiftsUptoSaid : Prop := fnExactCountShiftsUptoRow.holds Try.pinned (OpenSpec.upto fnExactCountShiftsSpec)

/-- 'laws.FnCountsSharedOfAll', WHERE WHAT IT READS IS OF BULK AT MOST 1048576: true; the input reads as it did. -/
def fnCountsSharedOfAllUptoRow : OpenClaim := { program := "ytkcfbplfhakbcaa", sum := "58ea4b8405308e5f947e1a4ca3ab93e321e519b9a61077bbcfc5c160be0ba20c", func := "loop.example/g01389/laws.FnCountsSharedOfAll", spec := "fnCountsSharedOfAll", recurses := true, plainKeys := false, apart := false, narrowed := true }
def FnCountsSharedOfAllUptoSaid : Prop := fnCountsSharedOfAllUptoRow.holds Try.pinned (OpenSpec.upto fnCountsSharedOfAllSpec)

/-- 'laws.FnExactKeepsRules', WHERE WHAT IT READS IS OF BULK AT MOST 1048576: true; the input reads as it did. -/
def fnExactKeepsRulesUptoRow : OpenClaim := { program := "ytkcfbplfhakbcaa", sum := "58ea4b8405308e5f947e1a4ca3ab93e321e519b9a61077bbcfc5c160be0ba20c", func := "loop.example/g01389/laws.FnExactKeepsRules", spec := "fnExactKeepsRules", plainKeys := false, apart := false, narrowed := true }
def FnExactKeepsRulesUptoSaid : Prop := fnExactKeepsRulesUptoRow.holds Try.pinned (OpenSpec.upto fnExactKeepsRulesSpec)

/-- 'laws.FnBlocks', WHERE WHAT IT READS IS OF BULK AT MOST 1048576: true; the input reads as it did. -/
def fnBlocksUptoRow : OpenClaim := { program := "ytkcfbplfhakbcaa", sum := "58ea4b8405308e5f947e1a4ca3ab93e321e519b9a61077bbcfc5c160be0ba20c", func := "loop.example/g01389/laws.FnBlocks", spec := "fnBlocks", unfollowed := true, recurses := true, plainKeys := false, apart := false, narrowed := true }
def FnBlocksUptoSaid : Prop := fnBlocksUptoRow.holds Try.pinned (OpenSpec.upto fnBlocksSpec)

/-- 'laws.FnDots', WHERE WHAT IT READS IS OF BULK AT MOST 1048576: true; the input reads as it did. -/
def fnDotsUptoRow : OpenClaim := { program := "ytkcfbplfhakbcaa", sum := "58ea4b8405308e5f947e1a4ca3ab93e321e519b9a61077bbcfc5c160be0ba20c", func := "loop.example/g01389/laws.FnDots", spec := "fnDots", inPlace := ["math.Float32frombits", "math.Float32bits"], unfollowed := true, recurses := true, plainKeys := false, apart := false, narrowed := true }
def FnDotsUptoSaid : Prop := fnDotsUptoRow.holds Try.pinned (OpenSpec.upto fnDotsSpec)

/-- 'laws.FnExactFirstShifts', WHERE WHAT IT READS IS OF BULK AT MOST 1048576: true; the input reads as it did. -/
def fnExactFirstShiftsUptoRow : OpenClaim := { program := "ytkcfbplfhakbcaa", sum := "58ea4b8405308e5f947e1a4ca3ab93e321e519b9a61077bbcfc5c160be0ba20c", func := "loop.example/g01389/laws.FnExactFirstShifts", spec := "fnExactFirstShifts", recurses := true, plainKeys := false, apart := false, narrowed := true }
def FnExactFirstShiftsUptoSaid : Prop := fnExactFirstShiftsUptoRow.holds Try.pinned (OpenSpec.upto fnExactFirstShiftsSpec)

/-- 'laws.FnTablesSharedOfAll', WHERE WHAT IT READS IS OF BULK AT MOST 1048576: true; the input reads as it did. -/
def fnTablesSharedOfAllUptoRow : OpenClaim := { program := "ytkcfbplfhakbcaa", sum := "58ea4b8405308e5f947e1a4ca3ab93e321e519b9a61077bbcfc5c160be0ba20c", func := "loop.example/g01389/laws.FnTablesSharedOfAll", spec := "fnTablesSharedOfAll", unfollowed := true, recurses := true, plainKeys := false, apart := false, narrowed := true }
def FnTablesSharedOfAllUptoSaid : Prop := fnTablesSharedOfAllUptoRow.holds Try.pinned (OpenSpec.upto fnTablesSharedOfAllSpec)

end Rows
end Go.Proofs.Ytkcfbplfhakbcaa
