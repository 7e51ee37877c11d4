/- The ends of jobs in an order: a contract. -/
import Derived.Test.YtkdjeneogclocaaJobB
namespace Go.Proofs.Ytkdjeneogclocaa
open Go.RowKit Plain
set_option linter.unusedVariables false
set_option linter.unusedSimpArgs false
attribute [local go_sem ↓] Go.wp_at_zero Go.wp_at_succ
theorem max_if (a b : Int) : max a b = if a < b then b else a := by split <;> omega
end Go.Proofs.Ytkdjeneogclocaa
