/- Late starts and slacks: contracts of the program's functions. -/
import Derived.Test.YtdbojkanelmlkaaProD
import Derived.Test.YtdbojkanelmlkaaStepApp
namespace Go.Proofs.Ytdbojkanelmlkaa
open Go.RowKit Plain
set_option linter.unusedVariables false
set_option linter.unusedSimpArgs false
attribute [local go_sem ↓] Go.wp_at_zero Go.wp_at_succ
end Go.Proofs.Ytdbojkanelmlkaa
