/- Comparison of int64, the keys of trips, the numbers from 0 on: contracts. -/
import Derived.Test.YtkdjeneogclocaaProg
import Derived.Test.YtkdjeneogclocaaUpT
import Derived.Test.YtkdjeneogclocaaApp
import Derived.Test.YtkdjeneogclocaaWords
import Derived.Sort.AtCall
import Derived.Deep.CutRange
namespace Go.Proofs.Ytkdjeneogclocaa
open Go.RowKit Plain
set_option linter.unusedVariables false
set_option linter.unusedSimpArgs false
attribute [local go_sem ↓] Go.wp_at_zero Go.wp_at_succ
def cmpI (x y : Int) : Int := if x < y then -1 else if y < x then 1 else 0
theorem isNaN_any (x : Int) (w : World) : Calls Try.prog 32 #[.int .i64 x] w fun r w' => r = .returned (.bool false) ∧ w' = w := by
  go_enter Try.func32, Try.ntmps32
  go_wp2
  go_ret
  exact ⟨rfl, rfl⟩
theorem compare_any (x y : Int) (w : World) : Calls Try.prog 31 #[.int .i64 x, .int .i64 y] w fun r w' => r = .returned (.int .i64 (cmpI x y)) ∧ w' = w := by
  have HN := hd isNaN_any
  by_cases h1 : x < y
  · have e : cmpI x y = -1 := by rw [cmpI, if_pos h1]
    rw [e]
    clear e
    go_enter Try.func31, Try.ntmps31
    go_wp2_with (go_at_call 32; refine (HN.out _ _).mono ?_; rintro e w' ⟨rfl, hw⟩; subst hw)
    go_ret
    exact ⟨rfl, rfl⟩
  · by_cases h2 : y < x
    · have e : cmpI x y = 1 := by rw [cmpI, if_neg h1, if_pos h2]
      rw [e]
      clear e
      go_enter Try.func31, Try.ntmps31
      go_wp2_with (go_at_call 32; refine (HN.out _ _).mono ?_; rintro e w' ⟨rfl, hw⟩; subst hw)
      go_ret
      exact ⟨rfl, rfl⟩
    · have e : cmpI x y = 0 := by rw [cmpI, if_neg h1, if_neg h2]
      rw [e]
      clear e
      go_enter Try.func31, Try.ntmps31
      go_wp2_with (go_at_call 32; refine (HN.out _ _).mono ?_; rintro e w' ⟨rfl, hw⟩; subst hw)
      go_ret
      exact ⟨rfl, rfl⟩
end Go.Proofs.Ytkdjeneogclocaa
