/- The library's stable sort of a short row, with the closure that compares keys: a contract. -/
import Derived.Test.YtkdjeneogclocaaProg
import Derived.Test.YtkdjeneogclocaaCmpI
import Derived.Test.YtkdjeneogclocaaSortT
import Derived.Test.YtkdjeneogclocaaStoreOwn
import Derived.Test.YtkdjeneogclocaaJobA
namespace Go.Proofs.Ytkdjeneogclocaa
open Go.RowKit Plain
set_option linter.unusedVariables false
set_option linter.unusedSimpArgs false
attribute [local go_sem ↓] Go.wp_at_zero Go.wp_at_succ
end Go.Proofs.Ytkdjeneogclocaa
