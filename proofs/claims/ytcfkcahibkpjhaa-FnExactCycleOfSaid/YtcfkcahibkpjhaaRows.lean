/-
  No cell of these rows narrows 'for every input' (looked for: loops, veiled, ifaces, maps, wideKeys, modest, calm, conditions, laid).
  DERIVED. THE GIVEN ROWS OF THIS SEAT. 12 by the template 'for every input the law returns true; each argument reads behind the call as it read before'; 0 by the template 'total and deterministic' (their statements: YtcfkcahibkpjhaaTotals.lean).
  GIVEN WITH THE SEED: the statements are not yours to turn. If you find one false, say at which input.
  Laid BY PROGRAM, IN A SANDBOX (cutbox-rows.mjs): the forced cells as the released guide's own fill.sh prints them over the translation 324bfe38cb33da57… (all of the seat's roots in one cut). By AI agents, Wed Nov 11 2026. No macro, syntax, notation, axiom, sorry.
-/
import Derived.Test.YtcfkcahibkpjhaaChecked
import GoSem.Claim
import GoSem.ClaimJoined
import GoSem.ClaimMapViews
import Derived.JoinedTies
import Derived.KernelRfl
namespace Go.Proofs.Ytcfkcahibkpjhaa
/- THE CELL 'sum', in the pinned program and in every row, IS THE sha256 OF THE DUMP (.gsa) THAT YtcfkcahibkpjhaaProg.lean LOADS. Nothing in Lean hashes anything: it is a label: what it is worth is what the hold of that sum in a sandbox is worth. -/
noncomputable def Try.pinned : Pinned := { name := "ytcfkcahibkpjhaa", sum := "324bfe38cb33da57f00ad8c04171366c30f638af26991556d68cf0150dfd3cb3", checked := Try.checked }
namespace Rows
def none {H : Type} : Left H := { results := [], args := [] }

/-- 'laws.FnExactRosterRuns': WHATEVER THE INPUT: true; the input reads as it did. -/
def fnExactRosterRunsSpec : ChangeSpec := { name := "fnExactRosterRuns", fn := fun _ => fun
  | [d] => { results := [.lit (.bool true)], args := [d] }
  | _ => none }
def fnExactRosterRunsRow : OpenClaim := { program := "ytcfkcahibkpjhaa", sum := "324bfe38cb33da57f00ad8c04171366c30f638af26991556d68cf0150dfd3cb3", func := "loop.example/g01389/laws.FnExactRosterRuns", spec := "fnExactRosterRuns", apart := false }
def FnExactRosterRunsSaid : Prop := fnExactRosterRunsRow.holds Try.pinned (OpenSpec.ofChange fnExactRosterRunsSpec)

/-- ITS FALSE NEIGHBOUR: 'it returns false'. Refute it at one input. -/
def fnExactRosterRunsWrong : ChangeSpec := { name := "fnExactRosterRuns", fn := fun _ => fun
  | [d] => { results := [.lit (.bool false)], args := [d] }
  | _ => none }
def FnExactRosterRunsWrongFalsely : Prop := fnExactRosterRunsRow.holds Try.pinned (OpenSpec.ofChange fnExactRosterRunsWrong)

/-- 'laws.FnShopsOf': WHATEVER THE INPUT: true; the input reads as it did. -/
def fnShopsOfSpec : ChangeSpec := { name := "fnShopsOf", fn := fun _ => fun
  | [d1, d2] => { results := [.lit (.bool true)], args := [d1, d2] }
  | _ => none }
def fnShopsOfRow : OpenClaim := { program := "ytcfkcahibkpjhaa", sum := "324bfe38cb33da57f00ad8c04171366c30f638af26991556d68cf0150dfd3cb3", func := "loop.example/g01389/laws.FnShopsOf", spec := "fnShopsOf", unfollowed := true, recurses := true, apart := false }
def FnShopsOfSaid : Prop := fnShopsOfRow.holds Try.pinned (OpenSpec.ofChange fnShopsOfSpec)

/-- ITS FALSE NEIGHBOUR: 'it returns false'. Refute it at one input. -/
def fnShopsOfWrong : ChangeSpec := { name := "fnShopsOf", fn := fun _ => fun
  | [d1, d2] => { results := [.lit (.bool false)], args := [d1, d2] }
  | _ => none }
def FnShopsOfWrongFalsely : Prop := fnShopsOfRow.holds Try.pinned (OpenSpec.ofChange fnShopsOfWrong)

/-- 'laws.FnExactWaitChance': WHATEVER THE INPUT: true; the input reads as it did. -/
def fnExactWaitChanceSpec : ChangeSpec := { name := "fnExactWaitChance", fn := fun _ => fun
  | [d1, d2] => { results := [.lit (.bool true)], args := [d1, d2] }
  | _ => none }
def fnExactWaitChanceRow : OpenClaim := { program := "ytcfkcahibkpjhaa", sum := "324bfe38cb33da57f00ad8c04171366c30f638af26991556d68cf0150dfd3cb3", func := "loop.example/g01389/laws.FnExactWaitChance", spec := "fnExactWaitChance", apart := false }
def FnExactWaitChanceSaid : Prop := fnExactWaitChanceRow.holds Try.pinned (OpenSpec.ofChange fnExactWaitChanceSpec)

/-- ITS FALSE NEIGHBOUR: 'it returns false'. Refute it at one input. -/
def fnExactWaitChanceWrong : ChangeSpec := { name := "fnExactWaitChance", fn := fun _ => fun
  | [d1, d2] => { results := [.lit (.bool false)], args := [d1, d2] }
  | _ => none }
def FnExactWaitChanceWrongFalsely : Prop := fnExactWaitChanceRow.holds Try.pinned (OpenSpec.ofChange fnExactWaitChanceWrong)

/-- 'laws.FnExactAreTrips': WHATEVER THE INPUT: true; the input reads as it did. -/
def fnExactAreTripsSpec : ChangeSpec := { name := "fnExactAreTrips", fn := fun _ => fun
  | [d] => { results := [.lit (.bool true)], args := [d] }
  | _ => none }
def fnExactAreTripsRow : OpenClaim := { program := "ytcfkcahibkpjhaa", sum := "324bfe38cb33da57f00ad8c04171366c30f638af26991556d68cf0150dfd3cb3", func := "loop.example/g01389/laws.FnExactAreTrips", spec := "fnExactAreTrips", apart := false }
def FnExactAreTripsSaid : Prop := fnExactAreTripsRow.holds Try.pinned (OpenSpec.ofChange fnExactAreTripsSpec)

/-- ITS FALSE NEIGHBOUR: 'it returns false'. Refute it at one input. -/
def fnExactAreTripsWrong : ChangeSpec := { name := "fnExactAreTrips", fn := fun _ => fun
  | [d] => { results := [.lit (.bool false)], args := [d] }
  | _ => none }
def FnExactAreTripsWrongFalsely : Prop := fnExactAreTripsRow.holds Try.pinned (OpenSpec.ofChange fnExactAreTripsWrong)

/-- 'laws.FnExactSameTrips': WHATEVER THE INPUT: true; the input reads as it did. -/
def fnExactSameTripsSpec : ChangeSpec := { name := "fnExactSameTrips", fn := fun _ => fun
  | [d1, d2] => { results := [.lit (.bool true)], args := [d1, d2] }
  | _ => none }
def fnExactSameTripsRow : OpenClaim := { program := "ytcfkcahibkpjhaa", sum := "324bfe38cb33da57f00ad8c04171366c30f638af26991556d68cf0150dfd3cb3", func := "loop.example/g01389/laws.FnExactSameTrips", spec := "fnExactSameTrips", apart := false }
def FnExactSameTripsSaid : Prop := fnExactSameTripsRow.holds Try.pinned (OpenSpec.ofChange fnExactSameTripsSpec)

/-- ITS FALSE NEIGHBOUR: 'it returns false'. Refute it at one input. -/
def fnExactSameTripsWrong : ChangeSpec := { name := "fnExactSameTrips", fn := fun _ => fun
  | [d1, d2] => { results := [.lit (.bool false)], args := [d1, d2] }
  | _ => none }
def FnExactSameTripsWrongFalsely : Prop := fnExactSameTripsRow.holds Try.pinned (OpenSpec.ofChange fnExactSameTripsWrong)

/-- 'laws.FnExactMeanWait': WHATEVER THE INPUT: true; the input reads as it did. -/
def fnExactMeanWaitSpec : ChangeSpec := { name := "fnExactMeanWait", fn := fun _ => fun
  | [d1, d2] => { results := [.lit (.bool true)], args := [d1, d2] }
  | _ => none }
def fnExactMeanWaitRow : OpenClaim := { program := "ytcfkcahibkpjhaa", sum := "324bfe38cb33da57f00ad8c04171366c30f638af26991556d68cf0150dfd3cb3", func := "loop.example/g01389/laws.FnExactMeanWait", spec := "fnExactMeanWait", apart := false }
def FnExactMeanWaitSaid : Prop := fnExactMeanWaitRow.holds Try.pinned (OpenSpec.ofChange fnExactMeanWaitSpec)

/-- ITS FALSE NEIGHBOUR: 'it returns false'. Refute it at one input. -/
def fnExactMeanWaitWrong : ChangeSpec := { name := "fnExactMeanWait", fn := fun _ => fun
  | [d1, d2] => { results := [.lit (.bool false)], args := [d1, d2] }
  | _ => none }
def FnExactMeanWaitWrongFalsely : Prop := fnExactMeanWaitRow.holds Try.pinned (OpenSpec.ofChange fnExactMeanWaitWrong)

/-- 'laws.FnExactAreRules': WHATEVER THE INPUT: true; the input reads as it did. -/
def fnExactAreRulesSpec : ChangeSpec := { name := "fnExactAreRules", fn := fun _ => fun
  | [d1, d2, d3] => { results := [.lit (.bool true)], args := [d1, d2, d3] }
  | _ => none }
def fnExactAreRulesRow : OpenClaim := { program := "ytcfkcahibkpjhaa", sum := "324bfe38cb33da57f00ad8c04171366c30f638af26991556d68cf0150dfd3cb3", func := "loop.example/g01389/laws.FnExactAreRules", spec := "fnExactAreRules", apart := false }
def FnExactAreRulesSaid : Prop := fnExactAreRulesRow.holds Try.pinned (OpenSpec.ofChange fnExactAreRulesSpec)

/-- ITS FALSE NEIGHBOUR: 'it returns false'. Refute it at one input. -/
def fnExactAreRulesWrong : ChangeSpec := { name := "fnExactAreRules", fn := fun _ => fun
  | [d1, d2, d3] => { results := [.lit (.bool false)], args := [d1, d2, d3] }
  | _ => none }
def FnExactAreRulesWrongFalsely : Prop := fnExactAreRulesRow.holds Try.pinned (OpenSpec.ofChange fnExactAreRulesWrong)

/-- 'laws.FnExactTurnTable': WHATEVER THE INPUT: true; the input reads as it did. -/
def fnExactTurnTableSpec : ChangeSpec := { name := "fnExactTurnTable", fn := fun _ => fun
  | [d1, d2, d3] => { results := [.lit (.bool true)], args := [d1, d2, d3] }
  | _ => none }
def fnExactTurnTableRow : OpenClaim := { program := "ytcfkcahibkpjhaa", sum := "324bfe38cb33da57f00ad8c04171366c30f638af26991556d68cf0150dfd3cb3", func := "loop.example/g01389/laws.FnExactTurnTable", spec := "fnExactTurnTable", apart := false }
def FnExactTurnTableSaid : Prop := fnExactTurnTableRow.holds Try.pinned (OpenSpec.ofChange fnExactTurnTableSpec)

/-- ITS FALSE NEIGHBOUR: 'it returns false'. Refute it at one input. -/
def fnExactTurnTableWrong : ChangeSpec := { name := "fnExactTurnTable", fn := fun _ => fun
  | [d1, d2, d3] => { results := [.lit (.bool false)], args := [d1, d2, d3] }
  | _ => none }
def FnExactTurnTableWrongFalsely : Prop := fnExactTurnTableRow.holds Try.pinned (OpenSpec.ofChange fnExactTurnTableWrong)

/-- 'laws.FnExactRotateRoster': WHATEVER THE INPUT: true; the input reads as it did. -/
def fnExactRotateRosterSpec : ChangeSpec := { name := "fnExactRotateRoster", fn := fun _ => fun
  | [d1, d2, d3, d4] => { results := [.lit (.bool true)], args := [d1, d2, d3, d4] }
  | _ => none }
def fnExactRotateRosterRow : OpenClaim := { program := "ytcfkcahibkpjhaa", sum := "324bfe38cb33da57f00ad8c04171366c30f638af26991556d68cf0150dfd3cb3", func := "loop.example/g01389/laws.FnExactRotateRoster", spec := "fnExactRotateRoster", apart := false }
def FnExactRotateRosterSaid : Prop := fnExactRotateRosterRow.holds Try.pinned (OpenSpec.ofChange fnExactRotateRosterSpec)

/-- ITS FALSE NEIGHBOUR: 'it returns false'. Refute it at one input. -/
def fnExactRotateRosterWrong : ChangeSpec := { name := "fnExactRotateRoster", fn := fun _ => fun
  | [d1, d2, d3, d4] => { results := [.lit (.bool false)], args := [d1, d2, d3, d4] }
  | _ => none }
def FnExactRotateRosterWrongFalsely : Prop := fnExactRotateRosterRow.holds Try.pinned (OpenSpec.ofChange fnExactRotateRosterWrong)

/-- 'laws.FnRings': WHATEVER THE INPUT: true; the input reads as it did. -/
def fnRingsSpec : ChangeSpec := { name := "fnRings", fn := fun _ => fun
  | [d1, d2] => { results := [.lit (.bool true)], args := [d1, d2] }
  | _ => none }
def fnRingsRow : OpenClaim := { program := "ytcfkcahibkpjhaa", sum := "324bfe38cb33da57f00ad8c04171366c30f638af26991556d68cf0150dfd3cb3", func := "loop.example/g01389/laws.FnRings", spec := "fnRings", unfollowed := true, recurses := true, apart := false }
def FnRingsSaid : Prop := fnRingsRow.holds Try.pinned (OpenSpec.ofChange fnRingsSpec)

/-- ITS FALSE NEIGHBOUR: 'it returns false'. Refute it at one input. -/
def fnRingsWrong : ChangeSpec := { name := "fnRings", fn := fun _ => fun
  | [d1, d2] => { results := [.lit (.bool false)], args := [d1, d2] }
  | _ => none }
def FnRingsWrongFalsely : Prop := fnRingsRow.holds Try.pinned (OpenSpec.ofChange fnRingsWrong)

/-- 'laws.FnExactCycleOf': WHATEVER THE INPUT: true; the input reads as it did. -/
def fnExactCycleOfSpec : ChangeSpec := { name := "fnExactCycleOf", fn := fun _ => fun
  | [d1, d2] => { results := [.lit (.bool true)], args := [d1, d2] }
  | _ => none }
def fnExactCycleOfRow : OpenClaim := { program := "ytcfkcahibkpjhaa", sum := "324bfe38cb33da57f00ad8c04171366c30f638af26991556d68cf0150dfd3cb3", func := "loop.example/g01389/laws.FnExactCycleOf", spec := "fnExactCycleOf", unfollowed := true, recurses := true, apart := false }
def FnExactCycleOfSaid : Prop := fnExactCycleOfRow.holds Try.pinned (OpenSpec.ofChange fnExactCycleOfSpec)

/-- ITS FALSE NEIGHBOUR: 'it returns false'. Refute it at one input. -/
def fnExactCycleOfWrong : ChangeSpec := { name := "fnExactCycleOf", fn := fun _ => fun
  | [d1, d2] => { results := [.lit (.bool false)], args := [d1, d2] }
  | _ => none }
def FnExactCycleOfWrongFalsely : Prop := fnExactCycleOfRow.holds Try.pinned (OpenSpec.ofChange fnExactCycleOfWrong)

/-- 'laws.FnExactCallGap': WHATEVER THE INPUT: true; the input reads as it did. -/
def fnExactCallGapSpec : ChangeSpec := { name := "fnExactCallGap", fn := fun _ => fun
  | [d1, d2] => { results := [.lit (.bool true)], args := [d1, d2] }
  | _ => none }
def fnExactCallGapRow : OpenClaim := { program := "ytcfkcahibkpjhaa", sum := "324bfe38cb33da57f00ad8c04171366c30f638af26991556d68cf0150dfd3cb3", func := "loop.example/g01389/laws.FnExactCallGap", spec := "fnExactCallGap", apart := false }
def FnExactCallGapSaid : Prop := fnExactCallGapRow.holds Try.pinned (OpenSpec.ofChange fnExactCallGapSpec)

/-- ITS FALSE NEIGHBOUR: 'it returns false'. Refute it at one input. -/
def fnExactCallGapWrong : ChangeSpec := { name := "fnExactCallGap", fn := fun _ => fun
  | [d1, d2] => { results := [.lit (.bool false)], args := [d1, d2] }
  | _ => none }
def FnExactCallGapWrongFalsely : Prop := fnExactCallGapRow.holds Try.pinned (OpenSpec.ofChange fnExactCallGapWrong)

/- THE SECOND FORM. 'bulk': how many values and letters a reading holds, each counted each time it is reached (what is shared counts as often as it is met; a slice's spare places count too). A statement '..UptoSaid' is the law's where the arguments, and the package variables that the reading takes, are together of bulk at most 1048576: NARROWER than '..Said'. Prove '..Said' where nothing that the law and all that it calls make is longer than what came in: it says more and counts as full. Else prove '..UptoSaid'. A law counts once. -/
mutual
def uptoBulk {H : Type} : DataW H → Nat
  | .lit (.string bytes) => bytes.length + 1
  | .lit _ => 1
  | .nil => 1
  | .ptr d => uptoBulk d + 1
  | .slice elems spare => uptoBulkAll elems + uptoBulkAll spare + 1
  | .agg parts => uptoBulkAll parts + 1
  | .iface _ d => uptoBulk d + 1
  | .map entries => uptoBulkEntries entries + 1
  | .held _ => 1
def uptoBulkAll {H : Type} : List (DataW H) → Nat
  | [] => 0
  | d :: r => uptoBulk d + uptoBulkAll r
def uptoBulkEntries {H : Type} : List (Lit × DataW H) → Nat
  | [] => 0
  | x :: r => uptoBulkEntry x + uptoBulkEntries r
def uptoBulkEntry {H : Type} : Lit × DataW H → Nat
  | (.string bytes, d) => bytes.length + uptoBulk d + 1
  | (_, d) => uptoBulk d + 1
 end
def uptoSmall : (H : Type) → List (DataW H) → Bool := fun _ ds => decide (uptoBulkAll ds ≤ 1048576)
def OpenSpec.upto (s : _root_.Go.ChangeSpec) : _root_.Go.OpenSpec := { _root_.Go.OpenSpec.ofChange s with cond := some uptoSmall }

/-- 'laws.FnExactRosterRuns', WHERE WHAT IT READS IS OF BULK AT MOST 1048576: true; the input reads as it did. -/
def fnExactRosterRunsUptoRow : OpenClaim := { program := "ytcfkcahibkpjhaa", sum := "324bfe38cb33da57f00ad8c04171366c30f638af26991556d68cf0150dfd3cb3", func := "loop.example/g01389/laws.FnExactRosterRuns", spec := "fnExactRosterRuns", apart := false, narrowed := true }
def FnExactRosterRunsUptoSaid : Prop := fnExactRosterRunsUptoRow.holds Try.pinned (OpenSpec.upto fnExactRosterRunsSpec)

/-- 'laws.FnShopsOf', WHERE WHAT IT READS IS OF BULK AT MOST 1048576: true; the input reads as it did. -/
def fnShopsOfUptoRow : OpenClaim := { program := "ytcfkcahibkpjhaa", sum := "324bfe38cb33da57f00ad8c04171366c30f638af26991556d68cf0150dfd3cb3", func := "loop.example/g01389/laws.FnShopsOf", spec := "fnShopsOf", unfollowed := true, recurses := true, apart := false, narrowed := true }
def FnShopsOfUptoSaid : Prop := fnShopsOfUptoRow.holds Try.pinned (OpenSpec.upto fnShopsOfSpec)

/-- 'laws.FnExactWaitChance', WHERE WHAT IT READS IS OF BULK AT MOST 1048576: true; the input reads as it did. -/
def fnExactWaitChanceUptoRow : OpenClaim := { program := "ytcfkcahibkpjhaa", sum := "324bfe38cb33da57f00ad8c04171366c30f638af26991556d68cf0150dfd3cb3", func := "loop.example/g01389/laws.FnExactWaitChance", spec := "fnExactWaitChance", apart := false, narrowed := true }
def FnExactWaitChanceUptoSaid : Prop := fnExactWaitChanceUptoRow.holds Try.pinned (OpenSpec.upto fnExactWaitChanceSpec)

/-- 'laws.FnExactAreTrips', WHERE WHAT IT READS IS OF BULK AT MOST 1048576: true; the input reads as it did. -/
def fnExactAreTripsUptoRow : OpenClaim := { program := "ytcfkcahibkpjhaa", sum := "324bfe38cb33da57f00ad8c04171366c30f638af26991556d68cf0150dfd3cb3", func := "loop.example/g01389/laws.FnExactAreTrips", spec := "fnExactAreTrips", apart := false, narrowed := true }
def FnExactAreTripsUptoSaid : Prop := fnExactAreTripsUptoRow.holds Try.pinned (OpenSpec.upto fnExactAreTripsSpec)

/-- 'laws.FnExactSameTrips', WHERE WHAT IT READS IS OF BULK AT MOST 1048576: true; the input reads as it did. -/
def fnExactSameTripsUptoRow : OpenClaim := { program := "ytcfkcahibkpjhaa", sum := "324bfe38cb33da57f00ad8c04171366c30f638af26991556d68cf0150dfd3cb3", func := "loop.example/g01389/laws.FnExactSameTrips", spec := "fnExactSameTrips", apart := false, narrowed := true }
def FnExactSameTripsUptoSaid : Prop := fnExactSameTripsUptoRow.holds Try.pinned (OpenSpec.upto fnExactSameTripsSpec)

/-- 'laws.FnExactMeanWait', WHERE WHAT IT READS IS OF BULK AT MOST 1048576: true; the input reads as it did. -/
def fnExactMeanWaitUptoRow : OpenClaim := { program := "ytcfkcahibkpjhaa", sum := "324bfe38cb33da57f00ad8c04171366c30f638af26991556d68cf0150dfd3cb3", func := "loop.example/g01389/laws.FnExactMeanWait", spec := "fnExactMeanWait", apart := false, narrowed := true }
def FnExactMeanWaitUptoSaid : Prop := fnExactMeanWaitUptoRow.holds Try.pinned (OpenSpec.upto fnExactMeanWaitSpec)

/-- 'laws.FnExactAreRules', WHERE WHAT IT READS IS OF BULK AT MOST 1048576: true; the input reads as it did. -/
def fnExactAreRulesUptoRow : OpenClaim := { program := "ytcfkcahibkpjhaa", sum := "324bfe38cb33da57f00ad8c04171366c30f638af26991556d68cf0150dfd3cb3", func := "loop.example/g01389/laws.FnExactAreRules", spec := "fnExactAreRules", apart := false, narrowed := true }
def FnExactAreRulesUptoSaid : Prop := fnExactAreRulesUptoRow.holds Try.pinned (OpenSpec.upto fnExactAreRulesSpec)

/-- 'laws.FnExactTurnTable', WHERE WHAT IT READS IS OF BULK AT MOST 1048576: true; the input reads as it did. -/
def fnExactTurnTableUptoRow : OpenClaim := { program := "ytcfkcahibkpjhaa", sum := "324bfe38cb33da57f00ad8c04171366c30f638af26991556d68cf0150dfd3cb3", func := "loop.example/g01389/laws.FnExactTurnTable", spec := "fnExactTurnTable", apart := false, narrowed := true }
def FnExactTurnTableUptoSaid : Prop := fnExactTurnTableUptoRow.holds Try.pinned (OpenSpec.upto fnExactTurnTableSpec)

/-- 'laws.FnExactRotateRoster', WHERE WHAT IT READS IS OF BULK AT MOST 1048576: true; the input reads as it did. -/
def fnExactRotateRosterUptoRow : OpenClaim := { program := "ytcfkcahibkpjhaa", sum := "324bfe38cb33da57f00ad8c04171366c30f638af26991556d68cf0150dfd3cb3", func := "loop.example/g01389/laws.FnExactRotateRoster", spec := "fnExactRotateRoster", apart := false, narrowed := true }
def FnExactRotateRosterUptoSaid : Prop := fnExactRotateRosterUptoRow.holds Try.pinned (OpenSpec.upto fnExactRotateRosterSpec)

/-- 'laws.FnRings', WHERE WHAT IT READS IS OF BULK AT MOST 1048576: true; the input reads as it did. -/
def fnRingsUptoRow : OpenClaim := { program := "ytcfkcahibkpjhaa", sum := "324bfe38cb33da57f00ad8c04171366c30f638af26991556d68cf0150dfd3cb3", func := "loop.example/g01389/laws.FnRings", spec := "fnRings", unfollowed := true, recurses := true, apart := false, narrowed := true }
def FnRingsUptoSaid : Prop := fnRingsUptoRow.holds Try.pinned (OpenSpec.upto fnRingsSpec)

/-- 'laws.FnExactCycleOf', WHERE WHAT IT READS IS OF BULK AT MOST 1048576: true; the input reads as it did. -/
def fnExactCycleOfUptoRow : OpenClaim := { program := "ytcfkcahibkpjhaa", sum := "324bfe38cb33da57f00ad8c04171366c30f638af26991556d68cf0150dfd3cb3", func := "loop.example/g01389/laws.FnExactCycleOf", spec := "fnExactCycleOf", unfollowed := true, recurses := true, apart := false, narrowed := true }
def FnExactCycleOfUptoSaid : Prop := fnExactCycleOfUptoRow.holds Try.pinned (OpenSpec.upto fnExactCycleOfSpec)

/-- 'laws.FnExactCallGap', WHERE WHAT IT READS IS OF BULK AT MOST 1048576: true; the input reads as it did. -/
def fnExactCallGapUptoRow : OpenClaim := { program := "ytcfkcahibkpjhaa", sum := "324bfe38cb33da57f00ad8c04171366c30f638af26991556d68cf0150dfd3cb3", func := "loop.example/g01389/laws.FnExactCallGap", spec := "fnExactCallGap", apart := false, narrowed := true }
def FnExactCallGapUptoSaid : Prop := fnExactCallGapUptoRow.holds Try.pinned (OpenSpec.upto fnExactCallGapSpec)

end Rows
end Go.Proofs.Ytcfkcahibkpjhaa
