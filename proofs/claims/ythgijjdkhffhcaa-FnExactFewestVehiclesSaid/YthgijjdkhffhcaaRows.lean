/-
  No cell of these rows narrows 'for every input' (looked for: loops, veiled, ifaces, maps, wideKeys, modest, calm, conditions, laid).
  DERIVED. THE GIVEN ROWS OF THIS SEAT. 5 by the template 'for every input the law returns true; each argument reads behind the call as it read before'; 0 by the template 'total and deterministic' (their statements: YthgijjdkhffhcaaTotals.lean).
  GIVEN WITH THE SEED: the statements are not yours to turn. If you find one false, say at which input.
  Laid BY PROGRAM, IN A SANDBOX (cutbox-rows.mjs): the forced cells as the released guide's own fill.sh prints them over the translation 43d18a1d344f4d2f… (all of the seat's roots in one cut). By AI agents, Wed Nov 11 2026. No macro, syntax, notation, axiom, sorry.
-/
import Derived.Test.YthgijjdkhffhcaaChecked
import GoSem.Claim
import GoSem.ClaimJoined
import GoSem.ClaimMapViews
import Derived.JoinedTies
import Derived.KernelRfl
namespace Go.Proofs.Ythgijjdkhffhcaa
/- THE CELL 'sum', in the pinned program and in every row, IS THE sha256 OF THE DUMP (.gsa) THAT YthgijjdkhffhcaaProg.lean LOADS. Nothing in Lean hashes anything: it is a label: what it is worth is what the hold of that sum in a sandbox is worth. -/
noncomputable def Try.pinned : Pinned := { name := "ythgijjdkhffhcaa", sum := "43d18a1d344f4d2fd34d8dee21485d637e8405f6f96f7bd5b0781e1ac0e0c82a", checked := Try.checked }
namespace Rows
def none {H : Type} : Left H := { results := [], args := [] }

/-- 'laws.FnExactPeriodOf': WHATEVER THE INPUT: true; the input reads as it did. -/
def fnExactPeriodOfSpec : ChangeSpec := { name := "fnExactPeriodOf", fn := fun _ => fun
  | [d1, d2] => { results := [.lit (.bool true)], args := [d1, d2] }
  | _ => none }
def fnExactPeriodOfRow : OpenClaim := { program := "ythgijjdkhffhcaa", sum := "43d18a1d344f4d2fd34d8dee21485d637e8405f6f96f7bd5b0781e1ac0e0c82a", func := "loop.example/g01389/laws.FnExactPeriodOf", spec := "fnExactPeriodOf", plainKeys := false, apart := false }
def FnExactPeriodOfSaid : Prop := fnExactPeriodOfRow.holds Try.pinned (OpenSpec.ofChange fnExactPeriodOfSpec)

/-- ITS FALSE NEIGHBOUR: 'it returns false'. Refute it at one input. -/
def fnExactPeriodOfWrong : ChangeSpec := { name := "fnExactPeriodOf", fn := fun _ => fun
  | [d1, d2] => { results := [.lit (.bool false)], args := [d1, d2] }
  | _ => none }
def FnExactPeriodOfWrongFalsely : Prop := fnExactPeriodOfRow.holds Try.pinned (OpenSpec.ofChange fnExactPeriodOfWrong)

/-- 'laws.FnExactMatchSkills': WHATEVER THE INPUT: true; the input reads as it did. -/
def fnExactMatchSkillsSpec : ChangeSpec := { name := "fnExactMatchSkills", fn := fun _ => fun
  | [d1, d2] => { results := [.lit (.bool true)], args := [d1, d2] }
  | _ => none }
def fnExactMatchSkillsRow : OpenClaim := { program := "ythgijjdkhffhcaa", sum := "43d18a1d344f4d2fd34d8dee21485d637e8405f6f96f7bd5b0781e1ac0e0c82a", func := "loop.example/g01389/laws.FnExactMatchSkills", spec := "fnExactMatchSkills", unfollowed := true, recurses := true, plainKeys := false, apart := false }
def FnExactMatchSkillsSaid : Prop := fnExactMatchSkillsRow.holds Try.pinned (OpenSpec.ofChange fnExactMatchSkillsSpec)

/-- ITS FALSE NEIGHBOUR: 'it returns false'. Refute it at one input. -/
def fnExactMatchSkillsWrong : ChangeSpec := { name := "fnExactMatchSkills", fn := fun _ => fun
  | [d1, d2] => { results := [.lit (.bool false)], args := [d1, d2] }
  | _ => none }
def FnExactMatchSkillsWrongFalsely : Prop := fnExactMatchSkillsRow.holds Try.pinned (OpenSpec.ofChange fnExactMatchSkillsWrong)

/-- 'laws.FnExactFirstShifts': WHATEVER THE INPUT: true; the input reads as it did. -/
def fnExactFirstShiftsSpec : ChangeSpec := { name := "fnExactFirstShifts", fn := fun _ => fun
  | [d1, d2] => { results := [.lit (.bool true)], args := [d1, d2] }
  | _ => none }
def fnExactFirstShiftsRow : OpenClaim := { program := "ythgijjdkhffhcaa", sum := "43d18a1d344f4d2fd34d8dee21485d637e8405f6f96f7bd5b0781e1ac0e0c82a", func := "loop.example/g01389/laws.FnExactFirstShifts", spec := "fnExactFirstShifts", recurses := true, plainKeys := false, apart := false }
def FnExactFirstShiftsSaid : Prop := fnExactFirstShiftsRow.holds Try.pinned (OpenSpec.ofChange fnExactFirstShiftsSpec)

/-- ITS FALSE NEIGHBOUR: 'it returns false'. Refute it at one input. -/
def fnExactFirstShiftsWrong : ChangeSpec := { name := "fnExactFirstShifts", fn := fun _ => fun
  | [d1, d2] => { results := [.lit (.bool false)], args := [d1, d2] }
  | _ => none }
def FnExactFirstShiftsWrongFalsely : Prop := fnExactFirstShiftsRow.holds Try.pinned (OpenSpec.ofChange fnExactFirstShiftsWrong)

/-- 'laws.FnExactFewestVehicles': WHATEVER THE INPUT: true; the input reads as it did. -/
def fnExactFewestVehiclesSpec : ChangeSpec := { name := "fnExactFewestVehicles", fn := fun _ => fun
  | [d1, d2] => { results := [.lit (.bool true)], args := [d1, d2] }
  | _ => none }
def fnExactFewestVehiclesRow : OpenClaim := { program := "ythgijjdkhffhcaa", sum := "43d18a1d344f4d2fd34d8dee21485d637e8405f6f96f7bd5b0781e1ac0e0c82a", func := "loop.example/g01389/laws.FnExactFewestVehicles", spec := "fnExactFewestVehicles", unfollowed := true, recurses := true, plainKeys := false, apart := false }
def FnExactFewestVehiclesSaid : Prop := fnExactFewestVehiclesRow.holds Try.pinned (OpenSpec.ofChange fnExactFewestVehiclesSpec)

/-- ITS FALSE NEIGHBOUR: 'it returns false'. Refute it at one input. -/
def fnExactFewestVehiclesWrong : ChangeSpec := { name := "fnExactFewestVehicles", fn := fun _ => fun
  | [d1, d2] => { results := [.lit (.bool false)], args := [d1, d2] }
  | _ => none }
def FnExactFewestVehiclesWrongFalsely : Prop := fnExactFewestVehiclesRow.holds Try.pinned (OpenSpec.ofChange fnExactFewestVehiclesWrong)

/-- 'laws.FnExactSlowRing': WHATEVER THE INPUT: true; the input reads as it did. -/
def fnExactSlowRingSpec : ChangeSpec := { name := "fnExactSlowRing", fn := fun _ => fun
  | [d1, d2] => { results := [.lit (.bool true)], args := [d1, d2] }
  | _ => none }
def fnExactSlowRingRow : OpenClaim := { program := "ythgijjdkhffhcaa", sum := "43d18a1d344f4d2fd34d8dee21485d637e8405f6f96f7bd5b0781e1ac0e0c82a", func := "loop.example/g01389/laws.FnExactSlowRing", spec := "fnExactSlowRing", unfollowed := true, recurses := true, plainKeys := false, apart := false }
def FnExactSlowRingSaid : Prop := fnExactSlowRingRow.holds Try.pinned (OpenSpec.ofChange fnExactSlowRingSpec)

/-- ITS FALSE NEIGHBOUR: 'it returns false'. Refute it at one input. -/
def fnExactSlowRingWrong : ChangeSpec := { name := "fnExactSlowRing", fn := fun _ => fun
  | [d1, d2] => { results := [.lit (.bool false)], args := [d1, d2] }
  | _ => none }
def FnExactSlowRingWrongFalsely : Prop := fnExactSlowRingRow.holds Try.pinned (OpenSpec.ofChange fnExactSlowRingWrong)

/- THE SECOND FORM. 'bulk': how many values and letters a reading holds, each counted each time it is reached (what is shared counts as often as it is met; a slice's spare places count too). A statement '..UptoSaid' is the law's where the arguments, and the package variables that the reading takes, are together of bulk at most 1048576: NARROWER than '..Said'. Prove '..Said' where nothing that the law and all that it calls make is longer than what came in: it says more and counts as full. Else prove '..UptoSaid'. A law counts once. -/
mutual
def uptoBulk {H : Type} : DataW H → Nat
  | .lit (.string bytes) => bytes.length + 1
  | .lit _ => 1
  | .nil => 1
  | .ptr d => uptoBulk d + 1
  | .slice elems spare => uptoBulkAll elems + uptoBulkAll spare + 1
  | .agg parts => uptoBulkAll parts + 1
  | .iface _ d => uptoBulk d + 1
  | .map entries => uptoBulkEntries entries + 1
  | .held _ => 1
def uptoBulkAll {H : Type} : List (DataW H) → Nat
  | [] => 0
  | d :: r => uptoBulk d + uptoBulkAll r
def uptoBulkEntries {H : Type} : List (Lit × DataW H) → Nat
  | [] => 0
  | x :: r => uptoBulkEntry x + uptoBulkEntries r
def uptoBulkEntry {H : Type} : Lit × DataW H → Nat
  | (.string bytes, d) => bytes.length + uptoBulk d + 1
  | (_, d) => uptoBulk d + 1
 end
def uptoSmall : (H : Type) → List (DataW H) → Bool := fun _ ds => decide (uptoBulkAll ds ≤ 1048576)
def OpenSpec.upto (s : _root_.Go.ChangeSpec) : _root_.Go.OpenSpec := { _root_.Go.OpenSpec.ofChange s with cond := some uptoSmall }

/-- 'laws.FnExactPeriodOf', WHERE WHAT IT READS IS OF BULK AT MOST 1048576: true; the input reads as it did. -/
def fnExactPeriodOfUptoRow : OpenClaim := { program := "ythgijjdkhffhcaa", sum := "43d18a1d344f4d2fd34d8dee21485d637e8405f6f96f7bd5b0781e1ac0e0c82a", func := "loop.example/g01389/laws.FnExactPeriodOf", spec := "fnExactPeriodOf", plainKeys := false, apart := false, narrowed := true }
def FnExactPeriodOfUptoSaid : Prop := fnExactPeriodOfUptoRow.holds Try.pinned (OpenSpec.upto fnExactPeriodOfSpec)

/-- 'laws.FnExactMatchSkills', WHERE WHAT IT READS IS OF BULK AT MOST 1048576: true; the input reads as it did. -/
def fnExactMatchSkillsUptoRow : OpenClaim := { program := "ythgijjdkhffhcaa", sum := "43d18a1d344f4d2fd34d8dee21485d637e8405f6f96f7bd5b0781e1ac0e0c82a", func := "loop.example/g01389/laws.FnExactMatchSkills", spec := "fnExactMatchSkills", unfollowed := true, recurses := true, plainKeys := false, apart := false, narrowed := true }
def FnExactMatchSkillsUptoSaid : Prop := fnExactMatchSkillsUptoRow.holds Try.pinned (OpenSpec.upto fnExactMatchSkillsSpec)

/-- 'laws.FnExactFirstShifts', WHERE WHAT IT READS IS OF BULK AT MOST 1048576: true; the input reads as it did. -/
def fnExactFirstShiftsUptoRow : OpenClaim := { program := "ythgijjdkhffhcaa", sum := "43d18a1d344f4d2fd34d8dee21485d637e8405f6f96f7bd5b0781e1ac0e0c82a", func := "loop.example/g01389/laws.FnExactFirstShifts", spec := "fnExactFirstShifts", recurses := true, plainKeys := false, apart := false, narrowed := true }
def FnExactFirstShiftsUptoSaid : Prop := fnExactFirstShiftsUptoRow.holds Try.pinned (OpenSpec.upto fnExactFirstShiftsSpec)

/-- 'laws.FnExactFewestVehicles', WHERE WHAT IT READS IS OF BULK AT MOST 1048576: true; the input reads as it did. -/
def fnExactFewestVehiclesUptoRow : OpenClaim := { program := "ythgijjdkhffhcaa", sum := "43d18a1d344f4d2fd34d8dee21485d637e8405f6f96f7bd5b0781e1ac0e0c82a", func := "loop.example/g01389/laws.FnExactFewestVehicles", spec := "fnExactFewestVehicles", unfollowed := true, recurses := true, plainKeys := false, apart := false, narrowed := true }
def FnExactFewestVehiclesUptoSaid : Prop := fnExactFewestVehiclesUptoRow.holds Try.pinned (OpenSpec.upto fnExactFewestVehiclesSpec)

/-- 'laws.FnExactSlowRing', WHERE WHAT IT READS IS OF BULK AT MOST 1048576: true; the input reads as it did. -/
def fnExactSlowRingUptoRow : OpenClaim := { program := "ythgijjdkhffhcaa", sum := "43d18a1d344f4d2fd34d8dee21485d637e8405f6f96f7bd5b0781e1ac0e0c82a", func := "loop.example/g01389/laws.FnExactSlowRing", spec := "fnExactSlowRing", unfollowed := true, recurses := true, plainKeys := false, apart := false, narrowed := true }
def FnExactSlowRingUptoSaid : Prop := fnExactSlowRingUptoRow.holds Try.pinned (OpenSpec.upto fnExactSlowRingSpec)

end Rows
end Go.Proofs.Ythgijjdkhffhcaa
