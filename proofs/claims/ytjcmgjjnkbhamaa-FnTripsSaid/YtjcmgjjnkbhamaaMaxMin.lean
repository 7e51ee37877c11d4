/- The greatest and the least of a list. -/
import Derived.Test.YtjcmgjjnkbhamaaNum
namespace Go.Proofs.Ytjcmgjjnkbhamaa
open Go.RowKit Plain
set_option linter.unusedVariables false
set_option linter.unusedSimpArgs false
attribute [local go_sem ↓] Go.wp_at_zero Go.wp_at_succ

theorem ite_max (a b : Int) : (if a < b then b else a) = max a b := by rw [Int.max_def]; split <;> split <;> omega
theorem ite_min (a b : Int) : (if b < a then b else a) = min a b := by rw [Int.min_def]; split <;> split <;> omega
/-- the greatest of the first k numbers -/
def maxTo (xs : List Int) : Nat → Int
  | 0 => xs.getD 0 0
  | k + 1 => max (maxTo xs k) (xs.getD k 0)
/-- the least of the first k numbers -/
def minTo (xs : List Int) : Nat → Int
  | 0 => xs.getD 0 0
  | k + 1 => min (minTo xs k) (xs.getD k 0)
theorem maxTo_bd {xs : List Int} {lo hi : Int} (h : ∀ i, i < xs.length → lo ≤ xs.getD i 0 ∧ xs.getD i 0 ≤ hi) (hn : 0 < xs.length) (k : Nat) (hk : k ≤ xs.length) : lo ≤ maxTo xs k ∧ maxTo xs k ≤ hi := by
  induction k with
  | zero => exact h 0 hn
  | succ k ih =>
    have := ih (by omega)
    have := h k (by omega)
    simp only [maxTo]
    omega
theorem minTo_bd {xs : List Int} {lo hi : Int} (h : ∀ i, i < xs.length → lo ≤ xs.getD i 0 ∧ xs.getD i 0 ≤ hi) (hn : 0 < xs.length) (k : Nat) (hk : k ≤ xs.length) : lo ≤ minTo xs k ∧ minTo xs k ≤ hi := by
  induction k with
  | zero => exact h 0 hn
  | succ k ih =>
    have := ih (by omega)
    have := h k (by omega)
    simp only [minTo]
    omega

end Go.Proofs.Ytjcmgjjnkbhamaa
