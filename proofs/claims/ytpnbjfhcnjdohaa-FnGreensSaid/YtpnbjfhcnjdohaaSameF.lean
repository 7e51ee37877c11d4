/- The laws' comparison of two floats. -/
import Derived.Test.YtpnbjfhcnjdohaaFloats
import Derived.Test.YtpnbjfhcnjdohaaSlice
namespace Go.Proofs.Ytpnbjfhcnjdohaa
open Go.RowKit Plain
set_option linter.unusedVariables false
set_option linter.unusedSimpArgs false
attribute [local go_sem ↓] Go.wp_at_zero Go.wp_at_succ

end Go.Proofs.Ytpnbjfhcnjdohaa
