/- Comparison of int64, the keys of trips, the numbers from 0 on: contracts. -/
import Derived.Test.YtkaopdpdfbkchaaProg
import Derived.Test.YtkaopdpdfbkchaaUpT
import Derived.Test.YtkaopdpdfbkchaaApp
import Derived.Test.YtkaopdpdfbkchaaWords
import Derived.Sort.AtCall
import Derived.Deep.CutRange
namespace Go.Proofs.Ytkaopdpdfbkchaa
open Go.RowKit Plain
set_option linter.unusedVariables false
set_option linter.unusedSimpArgs false
attribute [local go_sem ↓] Go.wp_at_zero Go.wp_at_succ
def cmpI (x y : Int) : Int := if x < y then -1 else if y < x then 1 else 0
end Go.Proofs.Ytkaopdpdfbkchaa
