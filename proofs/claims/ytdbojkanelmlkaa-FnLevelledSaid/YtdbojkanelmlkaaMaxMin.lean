/- The greatest and the least of a list. -/
import Derived.Test.YtdbojkanelmlkaaNum
namespace Go.Proofs.Ytdbojkanelmlkaa
open Go.RowKit Plain
set_option linter.unusedVariables false
set_option linter.unusedSimpArgs false
attribute [local go_sem ↓] Go.wp_at_zero Go.wp_at_succ

theorem ite_max (a b : Int) : (if a < b then b else a) = max a b := by rw [Int.max_def]; split <;> split <;> omega
theorem ite_min (a b : Int) : (if b < a then b else a) = min a b := by rw [Int.min_def]; split <;> split <;> omega
/-- the greatest of the first k numbers -/
def maxTo (xs : List Int) : Nat → Int
  | 0 => xs.getD 0 0
  | k + 1 => max (maxTo xs k) (xs.getD k 0)
/-- the least of the first k numbers -/
def minTo (xs : List Int) : Nat → Int
  | 0 => xs.getD 0 0
  | k + 1 => min (minTo xs k) (xs.getD k 0)
theorem maxTo_bd {xs : List Int} {lo hi : Int} (h : ∀ i, i < xs.length → lo ≤ xs.getD i 0 ∧ xs.getD i 0 ≤ hi) (hn : 0 < xs.length) (k : Nat) (hk : k ≤ xs.length) : lo ≤ maxTo xs k ∧ maxTo xs k ≤ hi := by
  induction k with
  | zero => exact h 0 hn
  | succ k ih =>
    have := ih (by omega)
    have := h k (by omega)
    simp only [maxTo]
    omega
theorem minTo_bd {xs : List Int} {lo hi : Int} (h : ∀ i, i < xs.length → lo ≤ xs.getD i 0 ∧ xs.getD i 0 ≤ hi) (hn : 0 < xs.length) (k : Nat) (hk : k ≤ xs.length) : lo ≤ minTo xs k ∧ minTo xs k ≤ hi := by
  induction k with
  | zero => exact h 0 hn
  | succ k ih =>
    have := ih (by omega)
    have := h k (by omega)
    simp only [minTo]
    omega

set_option maxHeartbeats 400000 in
theorem l00Max_any (a b : Int) (w : World) : Calls Try.prog 39 #[.int .i64 a, .int .i64 b] w fun r w' => r = .returned (.int .i64 (max a b)) ∧ w = w' := by
  by_cases h : b < a
  · rw [Int.max_def, if_neg (by omega)]
    go_enter Try.func39, Try.ntmps39
    go_wp2
    go_ret
    exact ⟨rfl, rfl⟩
  · rw [Int.max_def, if_pos (by omega)]
    go_enter Try.func39, Try.ntmps39
    go_wp2
    go_ret
    exact ⟨rfl, rfl⟩

set_option maxHeartbeats 400000 in
theorem l00Min_any (a b : Int) (w : World) : Calls Try.prog 35 #[.int .i64 a, .int .i64 b] w fun r w' => r = .returned (.int .i64 (min a b)) ∧ w = w' := by
  by_cases h : a < b
  · rw [Int.min_def, if_pos (by omega)]
    go_enter Try.func35, Try.ntmps35
    go_wp2
    go_ret
    exact ⟨rfl, rfl⟩
  · rw [Int.min_def]
    have e : (if a ≤ b then a else b) = b := by split <;> omega
    rw [e]
    go_enter Try.func35, Try.ntmps35
    go_wp2
    go_ret
    exact ⟨rfl, rfl⟩

end Go.Proofs.Ytdbojkanelmlkaa
