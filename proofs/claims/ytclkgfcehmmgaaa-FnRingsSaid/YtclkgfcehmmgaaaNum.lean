/- Small functions on numbers and on lists of them. -/
import Derived.Test.YtclkgfcehmmgaaaProg
import Derived.Test.YtclkgfcehmmgaaaBase
import Derived.Test.YtclkgfcehmmgaaaPlain
namespace Go.Proofs.Ytclkgfcehmmgaaa
open Go.RowKit Plain
set_option linter.unusedVariables false
set_option linter.unusedSimpArgs false
attribute [local go_sem ↓] Go.wp_at_zero Go.wp_at_succ

set_option maxHeartbeats 400000 in
theorem within_any (n a b : Int) (w : World) :
    Calls Try.prog 36 #[.int .i64 n, .int .i64 a, .int .i64 b] w fun r w' => r = .returned (.bool (inR n a b)) ∧ w = w' := by
  go_enter Try.func36, Try.ntmps36
  go_wp2
  all_goals (go_ret; refine ⟨ret_bool ?_, rfl⟩; simp [inR, *]; try omega)

theorem within_t (n a b : Int) (w : World) (h : inR n a b = true) : Calls Try.prog 36 #[.int .i64 n, .int .i64 a, .int .i64 b] w fun r w' => r = .returned (.bool true) ∧ w' = w := (within_any n a b w).mono fun _ _ k => ⟨by rw [k.1, h], k.2.symm⟩
theorem within_f (n a b : Int) (w : World) (h : inR n a b = false) : Calls Try.prog 36 #[.int .i64 n, .int .i64 a, .int .i64 b] w fun r w' => r = .returned (.bool false) ∧ w' = w := (within_any n a b w).mono fun _ _ k => ⟨by rw [k.1, h], k.2.symm⟩

set_option maxHeartbeats 400000 in
theorem l00In_any (n a b : Int) (w : World) :
    Calls Try.prog 39 #[.int .i64 n, .int .i64 a, .int .i64 b] w fun r w' => r = .returned (.bool (inR n a b)) ∧ w = w' := by
  go_enter Try.func39, Try.ntmps39
  go_wp2
  all_goals (go_ret; refine ⟨ret_bool ?_, rfl⟩; simp [inR, *]; try omega)

theorem l00In_t (n a b : Int) (w : World) (h : inR n a b = true) : Calls Try.prog 39 #[.int .i64 n, .int .i64 a, .int .i64 b] w fun r w' => r = .returned (.bool true) ∧ w' = w := (l00In_any n a b w).mono fun _ _ k => ⟨by rw [k.1, h], k.2.symm⟩
theorem l00In_f (n a b : Int) (w : World) (h : inR n a b = false) : Calls Try.prog 39 #[.int .i64 n, .int .i64 a, .int .i64 b] w fun r w' => r = .returned (.bool false) ∧ w' = w := (l00In_any n a b w).mono fun _ _ k => ⟨by rw [k.1, h], k.2.symm⟩

end Go.Proofs.Ytclkgfcehmmgaaa
