/-
  No cell of these rows narrows 'for every input' (looked for: loops, veiled, ifaces, maps, wideKeys, modest, calm, conditions, laid).
  DERIVED. THE GIVEN ROWS OF THIS SEAT. 5 by the template 'for every input the law returns true; each argument reads behind the call as it read before'; 0 by the template 'total and deterministic' (their statements: YtldehffhpblliaaTotals.lean).
  GIVEN WITH THE SEED: the statements are not yours to turn. If you find one false, say at which input.
  Laid BY PROGRAM, IN A SANDBOX (cutbox-rows.mjs): the forced cells as the released guide's own fill.sh prints them over the translation 1860783f6d421af3… (all of the seat's roots in one cut). By AI agents, Wed Nov 11 2026. No macro, syntax, notation, axiom, sorry.
-/
import Derived.Test.YtldehffhpblliaaChecked
import GoSem.Claim
import GoSem.ClaimJoined
import GoSem.ClaimMapViews
import Derived.JoinedTies
import Derived.KernelRfl
namespace Go.Proofs.Ytldehffhpblliaa
/- THE CELL 'sum', in the pinned program and in every row, IS THE sha256 OF THE DUMP (.gsa) THAT YtldehffhpblliaaProg.lean LOADS. Nothing in Lean hashes anything: it is a label: what it is worth is what the hold of that sum in a sandbox is worth. -/
noncomputable def Try.pinned : Pinned := { name := "ytldehffhpblliaa", sum := "1860783f6d421af3c790fd50cbf7fbc9f4df576b5ecd05ee25857d315a55c221", checked := Try.checked }
namespace Rows
def none {H : Type} : Left H := { results := [], args := [] }

/-- 'laws.FnExactTablesShared': WHATEVER THE INPUT: true; the input reads as it did. -/
def fnExactTablesSharedSpec : ChangeSpec := { name := "fnExactTablesShared", fn := fun _ => fun
  | [d1, d2, d3, d4] => { results := [.lit (.bool true)], args := [d1, d2, d3, d4] }
  | _ => none }
def fnExactTablesSharedRow : OpenClaim := { program := "ytldehffhpblliaa", sum := "1860783f6d421af3c790fd50cbf7fbc9f4df576b5ecd05ee25857d315a55c221", func := "loop.example/g01389/laws.FnExactTablesShared", spec := "fnExactTablesShared", unfollowed := true, recurses := true, plainKeys := false, apart := false }
def FnExactTablesSharedSaid : Prop := fnExactTablesSharedRow.holds Try.pinned (OpenSpec.ofChange fnExactTablesSharedSpec)

/-- ITS FALSE NEIGHBOUR: 'it returns false'. Refute it at one input. -/
def fnExactTablesSharedWrong : ChangeSpec := { name := "fnExactTablesShared", fn := fun _ => fun
  | [d1, d2, d3, d4] => { results := [.lit (.bool false)], args := [d1, d2, d3, d4] }
  | _ => none }
def FnExactTablesSharedWrongFalsely : Prop := fnExactTablesSharedRow.holds Try.pinned (OpenSpec.ofChange fnExactTablesSharedWrong)

/-- 'laws.FnExactCountShifts': WHATEVER THE INPUT: true; the input reads as it did. -/
def fnExactCountShiftsSpec : ChangeSpec := { name := "fnExactCountShifts", fn := fun _ => fun
  | [d] => { results := [.lit (.bool true)], args := [d] }
  | _ => none }
def fnExactCountShiftsRow : OpenClaim := { program := "ytldehffhpblliaa", sum := "1860783f6d421af3c790fd50cbf7fbc9f4df576b5ecd05ee25857d315a55c221", func := "loop.example/g01389/laws.FnExactCountShifts", spec := "fnExactCountShifts", recurses := true, plainKeys := false, apart := false }
def FnExactCountShiftsSaid : Prop := fnExactCountShiftsRow.holds Try.pinned (OpenSpec.ofChange fnExactCountShiftsSpec)

/-- ITS FALSE NEIGHBOUR: 'it returns false'. Refute it at one input. -/
def fnExactCountShiftsWrong : ChangeSpec := { name := "fnExactCountShifts", fn := fun _ => fun
  | [d] => { results := [.lit (.bool false)], args := [d] }
  | _ => none }
def FnExactCountShiftsWrongFalsely : Prop := fnExactCountShiftsRow.holds Try.pinned (OpenSpec.ofChange fnExactCountShiftsWrong)

/-- 'laws.FnCountsSharedOfAll': WHATEVER THE INPUT: true; the input reads as it did. -/
def fnCountsSharedOfAllSpec : ChangeSpec := { name := "fnCountsSharedOfAll", fn := fun _ => fun
  | [d1, d2, d3] => { results := [.lit (.bool true)], args := [d1, d2, d3] }
  | _ => none }
def fnCountsSharedOfAllRow : OpenClaim := { program := "ytldehffhpblliaa", sum := "1860783f6d421af3c790fd50cbf7fbc9f4df576b5ecd05ee25857d315a55c221", func := "loop.example/g01389/laws.FnCountsSharedOfAll", spec := "fnCountsSharedOfAll", recurses := true, plainKeys := false, apart := false }
def FnCountsSharedOfAllSaid : Prop := fnCountsSharedOfAllRow.holds Try.pinned (OpenSpec.ofChange fnCountsSharedOfAllSpec)

/-- ITS FALSE NEIGHBOUR: 'it returns false'. Refute it at one input. -/
def fnCountsSharedOfAllWrong : ChangeSpec := { name := "fnCountsSharedOfAll", fn := fun _ => fun
  | [d1, d2, d3] => { results := [.lit (.bool false)], args := [d1, d2, d3] }
  | _ => none }
def FnCountsSharedOfAllWrongFalsely : Prop := fnCountsSharedOfAllRow.holds Try.pinned (OpenSpec.ofChange fnCountsSharedOfAllWrong)

/-- 'laws.FnExactFirstShifts': WHATEVER THE INPUT: true; the input reads as it did. -/
def fnExactFirstShiftsSpec : ChangeSpec := { name := "fnExactFirstShifts", fn := fun _ => fun
  | [d1, d2] => { results := [.lit (.bool true)], args := [d1, d2] }
  | _ => none }
def fnExactFirstShiftsRow : OpenClaim := { program := "ytldehffhpblliaa", sum := "1860783f6d421af3c790fd50cbf7fbc9f4df576b5ecd05ee25857d315a55c221", func := "loop.example/g01389/laws.FnExactFirstShifts", spec := "fnExactFirstShifts", recurses := true, plainKeys := false, apart := false }
def FnExactFirstShiftsSaid : Prop := fnExactFirstShiftsRow.holds Try.pinned (OpenSpec.ofChange fnExactFirstShiftsSpec)

/-- ITS FALSE NEIGHBOUR: 'it returns false'. Refute it at one input. -/
def fnExactFirstShiftsWrong : ChangeSpec := { name := "fnExactFirstShifts", fn := fun _ => fun
  | [d1, d2] => { results := [.lit (.bool false)], args := [d1, d2] }
  | _ => none }
def FnExactFirstShiftsWrongFalsely : Prop := fnExactFirstShiftsRow.holds Try.pinned (OpenSpec.ofChange fnExactFirstShiftsWrong)

/-- 'laws.FnExactCountsShared': WHATEVER THE INPUT: true; the input reads as it did. -/
def fnExactCountsSharedSpec : ChangeSpec := { name := "fnExactCountsShared", fn := fun _ => fun
  | [d1, d2] => { results := [.lit (.bool true)], args := [d1, d2] }
  | _ => none }
def fnExactCountsSharedRow : OpenClaim := { program := "ytldehffhpblliaa", sum := "1860783f6d421af3c790fd50cbf7fbc9f4df576b5ecd05ee25857d315a55c221", func := "loop.example/g01389/laws.FnExactCountsShared", spec := "fnExactCountsShared", recurses := true, plainKeys := false, apart := false }
def FnExactCountsSharedSaid : Prop := fnExactCountsSharedRow.holds Try.pinned (OpenSpec.ofChange fnExactCountsSharedSpec)

/-- ITS FALSE NEIGHBOUR: 'it returns false'. Refute it at one input. -/
def fnExactCountsSharedWrong : ChangeSpec := { name := "fnExactCountsShared", fn := fun _ => fun
  | [d1, d2] => { results := [.lit (.bool false)], args := [d1, d2] }
  | _ => none }
def FnExactCountsSharedWrongFalsely : Prop := fnExactCountsSharedRow.holds Try.pinned (OpenSpec.ofChange fnExactCountsSharedWrong)

/- THE SECOND FORM. 'bulk': how many values and letters a reading holds, each counted each time it is reached (what is shared counts as often as it is met; a slice's spare places count too). A statement '..UptoSaid' is the law's where the arguments, and the package variables that the reading takes, are together of bulk at most 1048576: NARROWER than '..Said'. Prove '..Said' where nothing that the law and all that it calls make is longer than what came in: it says more and counts as full. Else prove '..UptoSaid'. A law counts once. -/
mutual
def uptoBulk {H : Type} : DataW H → Nat
  | .lit (.string bytes) => bytes.length + 1
  | .lit _ => 1
  | .nil => 1
  | .ptr d => uptoBulk d + 1
  | .slice elems spare => uptoBulkAll elems + uptoBulkAll spare + 1
  | .agg parts => uptoBulkAll parts + 1
  | .iface _ d => uptoBulk d + 1
  | .map entries => uptoBulkEntries entries + 1
  | .held _ => 1
def uptoBulkAll {H : Type} : List (DataW H) → Nat
  | [] => 0
  | d :: r => uptoBulk d + uptoBulkAll r
def uptoBulkEntries {H : Type} : List (Lit × DataW H) → Nat
  | [] => 0
  | x :: r => uptoBulkEntry x + uptoBulkEntries r
def uptoBulkEntry {H : Type} : Lit × DataW H → Nat
  | (.string bytes, d) => bytes.length + uptoBulk d + 1
  | (_, d) => uptoBulk d + 1
 end
def uptoSmall : (H : Type) → List (DataW H) → Bool := fun _ ds => decide (uptoBulkAll ds ≤ 1048576)
def OpenSpec.upto (s : _root_.Go.ChangeSpec) : _root_.Go.OpenSpec := { _root_.Go.OpenSpec.ofChange s with cond := some uptoSmall }

/-- 'laws.FnExactTablesShared', WHERE WHAT IT READS IS OF BULK AT MOST 1048576: true; the input reads as it did. -/
def fnExactTablesSharedUptoRow : OpenClaim := { program := "ytldehffhpblliaa", sum := "1860783f6d421af3c790fd50cbf7fbc9f4df576b5ecd05ee25857d315a55c221", func := "loop.example/g01389/laws.FnExactTablesShared", spec := "fnExactTablesShared", unfollowed := true, recurses := true, plainKeys := false, apart := false, narrowed := true }
def FnExactTablesSharedUptoSaid : Prop := fnExactTablesSharedUptoRow.holds Try.pinned (OpenSpec.upto fnExactTablesSharedSpec)

/-- 'laws.FnExactCountShifts', WHERE WHAT IT READS IS OF BULK AT MOST 1048576: true; the input reads as it did. -/
def fnExactCountShiftsUptoRow : OpenClaim := { program := "ytldehffhpblliaa", sum := "1860783f6d421af3c790fd50cbf7fbc9f4df576b5ecd05ee25857d315a55c221", func := "loop.example/g01389/laws.FnExactCountShifts", spec := "fnExactCountShifts", recurses := true, plainKeys := false, apart := false, narrowed := true }
def FnExactCountShiftsUptoSaid : Prop := fnExactCountShiftsUptoRow.holds Try.pinned (OpenSpec.upto fnExactCountShiftsSpec)

/-- 'laws.FnCountsSharedOfAll', WHERE WHAT IT READS IS OF BULK AT MOST 1048576: true; the input reads as it did. -/
def fnCountsSharedOfAllUptoRow : OpenClaim := { program := "ytldehffhpblliaa", sum := "1860783f6d421af3c790fd50cbf7fbc9f4df576b5ecd05ee25857d315a55c221", func := "loop.example/g01389/laws.FnCountsSharedOfAll", spec := "fnCountsSharedOfAll", recurses := true, plainKeys := false, apart := false, narrowed := true }
def FnCountsSharedOfAllUptoSaid : Prop := fnCountsSharedOfAllUptoRow.holds Try.pinned (OpenSpec.upto fnCountsSharedOfAllSpec)

/-- 'laws.FnExactFirstShifts', WHERE WHAT IT READS IS OF BULK AT MOST 1048576: true; the input reads as it did. -/
def fnExactFirstShiftsUptoRow : OpenClaim := { program := "ytldehffhpblliaa", sum := "1860783f6d421af3c790fd50cbf7fbc9f4df576b5ecd05ee25857d315a55c221", func := "loop.example/g01389/laws.FnExactFirstShifts", spec := "fnExactFirstShifts", recurses := true, plainKeys := false, apart := false, narrowed := true }
def FnExactFirstShiftsUptoSaid : Prop := fnExactFirstShiftsUptoRow.holds Try.pinned (OpenSpec.upto fnExactFirstShiftsSpec)

/-- 'laws.FnExactCountsShared', WHERE WHAT IT READS IS OF BULK AT MOST 1048576: true; the input reads as it did. -/
def fnExactCountsSharedUptoRow : OpenClaim := { program := "ytldehffhpblliaa", sum := "1860783f6d421af3c790fd50cbf7fbc9f4df576b5ecd05ee25857d315a55c221", func := "loop.example/g01389/laws.FnExactCountsShared", spec := "fnExactCountsShared", recurses := true, plainKeys := false, apart := false, narrowed := true }
def FnExactCountsSharedUptoSaid : Prop := fnExactCountsSharedUptoRow.holds Try.pinned (OpenSpec.upto fnExactCountsSharedSpec)

end Rows
end Go.Proofs.Ytldehffhpblliaa
