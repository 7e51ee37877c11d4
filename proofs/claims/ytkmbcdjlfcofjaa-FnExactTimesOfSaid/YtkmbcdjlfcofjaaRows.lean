/-
  No cell of these rows narrows 'for every input' (looked for: loops, veiled, ifaces, maps, wideKeys, modest, calm, conditions, laid).
  DERIVED. THE GIVEN ROWS OF THIS SEAT. 6 by the template 'for every input the law returns true; each argument reads behind the call as it read before'; 0 by the template 'total and deterministic' (their statements: YtkmbcdjlfcofjaaTotals.lean).
  GIVEN WITH THE SEED: the statements are not yours to turn. If you find one false, say at which input.
  Laid BY PROGRAM, IN A SANDBOX (cutbox-rows.mjs): the forced cells as the released guide's own fill.sh prints them over the translation 05af4244af59cc23… (all of the seat's roots in one cut). By AI agents, Wed Nov 11 2026. No macro, syntax, notation, axiom, sorry.
-/
import Derived.Test.YtkmbcdjlfcofjaaChecked
import GoSem.Claim
import GoSem.ClaimJoined
import GoSem.ClaimMapViews
import Derived.JoinedTies
import Derived.KernelRfl
namespace Go.Proofs.Ytkmbcdjlfcofjaa
/- THE CELL 'sum', in the pinned program and in every row, IS THE sha256 OF THE DUMP (.gsa) THAT YtkmbcdjlfcofjaaProg.lean LOADS. Nothing in Lean hashes anything: it is a label: what it is worth is what the hold of that sum in a sandbox is worth. -/
noncomputable def Try.pinned : Pinned := { name := "ytkmbcdjlfcofjaa", sum := "05af4244af59cc23da1d2566366e57c59a3a8be6694392cbcf40ad648c410352", checked := Try.checked }
namespace Rows
def none {H : Type} : Left H := { results := [], args := [] }

/-- 'laws.FnExactRotateRoster': WHATEVER THE INPUT: true; the input reads as it did. -/
def fnExactRotateRosterSpec : ChangeSpec := { name := "fnExactRotateRoster", fn := fun _ => fun
  | [d1, d2, d3, d4] => { results := [.lit (.bool true)], args := [d1, d2, d3, d4] }
  | _ => none }
def fnExactRotateRosterRow : OpenClaim := { program := "ytkmbcdjlfcofjaa", sum := "05af4244af59cc23da1d2566366e57c59a3a8be6694392cbcf40ad648c410352", func := "loop.example/g01389/laws.FnExactRotateRoster", spec := "fnExactRotateRoster", apart := false }
def FnExactRotateRosterSaid : Prop := fnExactRotateRosterRow.holds Try.pinned (OpenSpec.ofChange fnExactRotateRosterSpec)

/-- ITS FALSE NEIGHBOUR: 'it returns false'. Refute it at one input. -/
def fnExactRotateRosterWrong : ChangeSpec := { name := "fnExactRotateRoster", fn := fun _ => fun
  | [d1, d2, d3, d4] => { results := [.lit (.bool false)], args := [d1, d2, d3, d4] }
  | _ => none }
def FnExactRotateRosterWrongFalsely : Prop := fnExactRotateRosterRow.holds Try.pinned (OpenSpec.ofChange fnExactRotateRosterWrong)

/-- 'laws.FnExactIsPeriod': WHATEVER THE INPUT: true; the input reads as it did. -/
def fnExactIsPeriodSpec : ChangeSpec := { name := "fnExactIsPeriod", fn := fun _ => fun
  | [d1, d2, d3, d4] => { results := [.lit (.bool true)], args := [d1, d2, d3, d4] }
  | _ => none }
def fnExactIsPeriodRow : OpenClaim := { program := "ytkmbcdjlfcofjaa", sum := "05af4244af59cc23da1d2566366e57c59a3a8be6694392cbcf40ad648c410352", func := "loop.example/g01389/laws.FnExactIsPeriod", spec := "fnExactIsPeriod", apart := false }
def FnExactIsPeriodSaid : Prop := fnExactIsPeriodRow.holds Try.pinned (OpenSpec.ofChange fnExactIsPeriodSpec)

/-- ITS FALSE NEIGHBOUR: 'it returns false'. Refute it at one input. -/
def fnExactIsPeriodWrong : ChangeSpec := { name := "fnExactIsPeriod", fn := fun _ => fun
  | [d1, d2, d3, d4] => { results := [.lit (.bool false)], args := [d1, d2, d3, d4] }
  | _ => none }
def FnExactIsPeriodWrongFalsely : Prop := fnExactIsPeriodRow.holds Try.pinned (OpenSpec.ofChange fnExactIsPeriodWrong)

/-- 'laws.FnExactPeriodOf': WHATEVER THE INPUT: true; the input reads as it did. -/
def fnExactPeriodOfSpec : ChangeSpec := { name := "fnExactPeriodOf", fn := fun _ => fun
  | [d1, d2] => { results := [.lit (.bool true)], args := [d1, d2] }
  | _ => none }
def fnExactPeriodOfRow : OpenClaim := { program := "ytkmbcdjlfcofjaa", sum := "05af4244af59cc23da1d2566366e57c59a3a8be6694392cbcf40ad648c410352", func := "loop.example/g01389/laws.FnExactPeriodOf", spec := "fnExactPeriodOf", apart := false }
def FnExactPeriodOfSaid : Prop := fnExactPeriodOfRow.holds Try.pinned (OpenSpec.ofChange fnExactPeriodOfSpec)

/-- ITS FALSE NEIGHBOUR: 'it returns false'. Refute it at one input. -/
def fnExactPeriodOfWrong : ChangeSpec := { name := "fnExactPeriodOf", fn := fun _ => fun
  | [d1, d2] => { results := [.lit (.bool false)], args := [d1, d2] }
  | _ => none }
def FnExactPeriodOfWrongFalsely : Prop := fnExactPeriodOfRow.holds Try.pinned (OpenSpec.ofChange fnExactPeriodOfWrong)

/-- 'laws.FnExactTimesOf': WHATEVER THE INPUT: true; the input reads as it did. -/
def fnExactTimesOfSpec : ChangeSpec := { name := "fnExactTimesOf", fn := fun _ => fun
  | [d1, d2, d3, d4] => { results := [.lit (.bool true)], args := [d1, d2, d3, d4] }
  | _ => none }
def fnExactTimesOfRow : OpenClaim := { program := "ytkmbcdjlfcofjaa", sum := "05af4244af59cc23da1d2566366e57c59a3a8be6694392cbcf40ad648c410352", func := "loop.example/g01389/laws.FnExactTimesOf", spec := "fnExactTimesOf", apart := false }
def FnExactTimesOfSaid : Prop := fnExactTimesOfRow.holds Try.pinned (OpenSpec.ofChange fnExactTimesOfSpec)

/-- ITS FALSE NEIGHBOUR: 'it returns false'. Refute it at one input. -/
def fnExactTimesOfWrong : ChangeSpec := { name := "fnExactTimesOf", fn := fun _ => fun
  | [d1, d2, d3, d4] => { results := [.lit (.bool false)], args := [d1, d2, d3, d4] }
  | _ => none }
def FnExactTimesOfWrongFalsely : Prop := fnExactTimesOfRow.holds Try.pinned (OpenSpec.ofChange fnExactTimesOfWrong)

/-- 'laws.FnBlocks': WHATEVER THE INPUT: true; the input reads as it did. -/
def fnBlocksSpec : ChangeSpec := { name := "fnBlocks", fn := fun _ => fun
  | [d1, d2] => { results := [.lit (.bool true)], args := [d1, d2] }
  | _ => none }
def fnBlocksRow : OpenClaim := { program := "ytkmbcdjlfcofjaa", sum := "05af4244af59cc23da1d2566366e57c59a3a8be6694392cbcf40ad648c410352", func := "loop.example/g01389/laws.FnBlocks", spec := "fnBlocks", unfollowed := true, recurses := true, apart := false }
def FnBlocksSaid : Prop := fnBlocksRow.holds Try.pinned (OpenSpec.ofChange fnBlocksSpec)

/-- ITS FALSE NEIGHBOUR: 'it returns false'. Refute it at one input. -/
def fnBlocksWrong : ChangeSpec := { name := "fnBlocks", fn := fun _ => fun
  | [d1, d2] => { results := [.lit (.bool false)], args := [d1, d2] }
  | _ => none }
def FnBlocksWrongFalsely : Prop := fnBlocksRow.holds Try.pinned (OpenSpec.ofChange fnBlocksWrong)

/-- 'laws.FnExactMatchSkills': WHATEVER THE INPUT: true; the input reads as it did. -/
def fnExactMatchSkillsSpec : ChangeSpec := { name := "fnExactMatchSkills", fn := fun _ => fun
  | [d1, d2] => { results := [.lit (.bool true)], args := [d1, d2] }
  | _ => none }
def fnExactMatchSkillsRow : OpenClaim := { program := "ytkmbcdjlfcofjaa", sum := "05af4244af59cc23da1d2566366e57c59a3a8be6694392cbcf40ad648c410352", func := "loop.example/g01389/laws.FnExactMatchSkills", spec := "fnExactMatchSkills", unfollowed := true, recurses := true, apart := false }
def FnExactMatchSkillsSaid : Prop := fnExactMatchSkillsRow.holds Try.pinned (OpenSpec.ofChange fnExactMatchSkillsSpec)

/-- ITS FALSE NEIGHBOUR: 'it returns false'. Refute it at one input. -/
def fnExactMatchSkillsWrong : ChangeSpec := { name := "fnExactMatchSkills", fn := fun _ => fun
  | [d1, d2] => { results := [.lit (.bool false)], args := [d1, d2] }
  | _ => none }
def FnExactMatchSkillsWrongFalsely : Prop := fnExactMatchSkillsRow.holds Try.pinned (OpenSpec.ofChange fnExactMatchSkillsWrong)

/- THE SECOND FORM. 'bulk': how many values and letters a reading holds, each counted each time it is reached (what is shared counts as often as it is met; a slice's spare places count too). A statement '..UptoSaid' is the law's where the arguments, and the package variables that the reading takes, are together of bulk at most 1048576: NARROWER than '..Said'. Prove '..Said' where nothing that the law and all that it calls make is longer than what came in: it says more and counts as full. Else prove '..UptoSaid'. A law counts once. -/
mutual
def uptoBulk {H : Type} : DataW H → Nat
  | .lit (.string bytes) => bytes.length + 1
  | .lit _ => 1
  | .nil => 1
  | .ptr d => uptoBulk d + 1
  | .slice elems spare => uptoBulkAll elems + uptoBulkAll spare + 1
  | .agg parts => uptoBulkAll parts + 1
  | .iface _ d => uptoBulk d + 1
  | .map entries => uptoBulkEntries entries + 1
  | .held _ => 1
def uptoBulkAll {H : Type} : List (DataW H) → Nat
  | [] => 0
  | d :: r => uptoBulk d + uptoBulkAll r
def uptoBulkEntries {H : Type} : List (Lit × DataW H) → Nat
  | [] => 0
  | x :: r => uptoBulkEntry x + uptoBulkEntries r
def uptoBulkEntry {H : Type} : Lit × DataW H → Nat
  | (.string bytes, d) => bytes.length + uptoBulk d + 1
  | (_, d) => uptoBulk d + 1
 end
def uptoSmall : (H : Type) → List (DataW H) → Bool := fun _ ds => decide (uptoBulkAll ds ≤ 1048576)
def OpenSpec.upto (s : _root_.Go.ChangeSpec) : _root_.Go.OpenSpec := { _root_.Go.OpenSpec.ofChange s with cond := some uptoSmall }

/-- 'laws.FnExactRotateRoster', WHERE WHAT IT READS IS OF BULK AT MOST 1048576: true; the input reads as it did. -/
def fnExactRotateRosterUptoRow : OpenClaim := { program := "ytkmbcdjlfcofjaa", sum := "05af4244af59cc23da1d2566366e57c59a3a8be6694392cbcf40ad648c410352", func := "loop.example/g01389/laws.FnExactRotateRoster", spec := "fnExactRotateRoster", apart := false, narrowed := true }
def FnExactRotateRosterUptoSaid : Prop := fnExactRotateRosterUptoRow.holds Try.pinned (OpenSpec.upto fnExactRotateRosterSpec)

/-- 'laws.FnExactIsPeriod', WHERE WHAT IT READS IS OF BULK AT MOST 1048576: true; the input reads as it did. -/
def fnExactIsPeriodUptoRow : OpenClaim := { program := "ytkmbcdjlfcofjaa", sum := "05af4244af59cc23da1d2566366e57c59a3a8be6694392cbcf40ad648c410352", func := "loop.example/g01389/laws.FnExactIsPeriod", spec := "fnExactIsPeriod", apart := false, narrowed := true }
def FnExactIsPeriodUptoSaid : Prop := fnExactIsPeriodUptoRow.holds Try.pinned (OpenSpec.upto fnExactIsPeriodSpec)

/-- 'laws.FnExactPeriodOf', WHERE WHAT IT READS IS OF BULK AT MOST 1048576: true; the input reads as it did. -/
def fnExactPeriodOfUptoRow : OpenClaim := { program := "ytkmbcdjlfcofjaa", sum := "05af4244af59cc23da1d2566366e57c59a3a8be6694392cbcf40ad648c410352", func := "loop.example/g01389/laws.FnExactPeriodOf", spec := "fnExactPeriodOf", apart := false, narrowed := true }
def FnExactPeriodOfUptoSaid : Prop := fnExactPeriodOfUptoRow.holds Try.pinned (OpenSpec.upto fnExactPeriodOfSpec)

/-- 'laws.FnExactTimesOf', WHERE WHAT IT READS IS OF BULK AT MOST 1048576: true; the input reads as it did. -/
def fnExactTimesOfUptoRow : OpenClaim := { program := "ytkmbcdjlfcofjaa", sum := "05af4244af59cc23da1d2566366e57c59a3a8be6694392cbcf40ad648c410352", func := "loop.example/g01389/laws.FnExactTimesOf", spec := "fnExactTimesOf", apart := false, narrowed := true }
def FnExactTimesOfUptoSaid : Prop := fnExactTimesOfUptoRow.holds Try.pinned (OpenSpec.upto fnExactTimesOfSpec)

/-- 'laws.FnBlocks', WHERE WHAT IT READS IS OF BULK AT MOST 1048576: true; the input reads as it did. -/
def fnBlocksUptoRow : OpenClaim := { program := "ytkmbcdjlfcofjaa", sum := "05af4244af59cc23da1d2566366e57c59a3a8be6694392cbcf40ad648c410352", func := "loop.example/g01389/laws.FnBlocks", spec := "fnBlocks", unfollowed := true, recurses := true, apart := false, narrowed := true }
def FnBlocksUptoSaid : Prop := fnBlocksUptoRow.holds Try.pinned (OpenSpec.upto fnBlocksSpec)

/-- 'laws.FnExactMatchSkills', WHERE WHAT IT READS IS OF BULK AT MOST 1048576: true; the input reads as it did. -/
def fnExactMatchSkillsUptoRow : OpenClaim := { program := "ytkmbcdjlfcofjaa", sum := "05af4244af59cc23da1d2566366e57c59a3a8be6694392cbcf40ad648c410352", func := "loop.example/g01389/laws.FnExactMatchSkills", spec := "fnExactMatchSkills", unfollowed := true, recurses := true, apart := false, narrowed := true }
def FnExactMatchSkillsUptoSaid : Prop := fnExactMatchSkillsUptoRow.holds Try.pinned (OpenSpec.upto fnExactMatchSkillsSpec)

end Rows
end Go.Proofs.Ytkmbcdjlfcofjaa
