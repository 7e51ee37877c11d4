/- Least starts and last ends of tasks, on both sides: contracts. -/
import Derived.Test.YtkdjeneogclocaaProA
import Derived.Test.YtkdjeneogclocaaSlice
namespace Go.Proofs.Ytkdjeneogclocaa
open Go.RowKit Plain
set_option linter.unusedVariables false
set_option linter.unusedSimpArgs false
attribute [local go_sem ↓] Go.wp_at_zero Go.wp_at_succ
end Go.Proofs.Ytkdjeneogclocaa
