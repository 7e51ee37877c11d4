/- The program's records as plain ones. -/
import Derived.Test.YtomiakmlapaclaaBase
import Derived.Test.YtomiakmlapaclaaPlain
namespace Go.Proofs.Ytomiakmlapaclaa
open Go.RowKit Plain
set_option linter.unusedVariables false

/-- in the range of an int64 -/
def I64 (n : Int) : Prop := -9223372036854775808 ≤ n ∧ n ≤ 9223372036854775807

/-- a rule of shifts -/
structure SR where
  slots : Int
  least : Int
  most : Int
  row : Int
  pause : Int
def SR.cells (r : SR) : List Value := [vi r.slots, vi r.least, vi r.most, vi r.row, vi r.pause]
def SR.val (r : SR) : Value := .agg #[.int .i64 r.slots, .int .i64 r.least, .int .i64 r.most, .int .i64 r.row, .int .i64 r.pause]
/-- all fields in the range of an int64 -/
def SR.I64 (r : SR) : Prop := Go.Proofs.Ytomiakmlapaclaa.I64 r.slots ∧ Go.Proofs.Ytomiakmlapaclaa.I64 r.least ∧ Go.Proofs.Ytomiakmlapaclaa.I64 r.most ∧ Go.Proofs.Ytomiakmlapaclaa.I64 r.row ∧ Go.Proofs.Ytomiakmlapaclaa.I64 r.pause
end Go.Proofs.Ytomiakmlapaclaa
