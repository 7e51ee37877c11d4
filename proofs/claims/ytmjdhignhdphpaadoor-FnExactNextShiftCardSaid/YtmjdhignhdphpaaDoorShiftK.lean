/- Shifts, the reference's side: how many shifts there are, place by place. -/
import Derived.Test.YtmjdhignhdphpaaDoorProg
import Derived.Test.YtmjdhignhdphpaaDoorShiftA
import Derived.StillTailTactics
namespace Go.Proofs.YtmjdhignhdphpaaDoor
open Go.RowKit Plain
set_option linter.unusedVariables false
set_option linter.unusedSimpArgs false
attribute [local go_sem ↓] Go.wp_at_zero Go.wp_at_succ

theorem l06Start_any (w : World) : Calls Tryd.prog 15 #[] w fun r w' => r = .returned (.agg #[.int .i64 0, .int .i64 0, .int .i64 (-1)]) ∧ Below w.heap.size w w' := by
  go_enter Tryd.func15, Tryd.ntmps15
  go_wp2
  refine bodyPost_ret (by simp [results, Tryd.results15, go_sem] <;> rfl) rfl ⟨rfl, ?_⟩
  go_grown

end Go.Proofs.YtmjdhignhdphpaaDoor
