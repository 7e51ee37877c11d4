/- The greatest and the least of a list. -/
import Derived.Test.YtkaopdpdfbkchaaNum
namespace Go.Proofs.Ytkaopdpdfbkchaa
open Go.RowKit Plain
set_option linter.unusedVariables false
set_option linter.unusedSimpArgs false
attribute [local go_sem ↓] Go.wp_at_zero Go.wp_at_succ

theorem ite_max (a b : Int) : (if a < b then b else a) = max a b := by rw [Int.max_def]; split <;> split <;> omega
theorem ite_min (a b : Int) : (if b < a then b else a) = min a b := by rw [Int.min_def]; split <;> split <;> omega
/-- the greatest of the first k numbers -/
def maxTo (xs : List Int) : Nat → Int
  | 0 => xs.getD 0 0
  | k + 1 => max (maxTo xs k) (xs.getD k 0)
/-- the least of the first k numbers -/
def minTo (xs : List Int) : Nat → Int
  | 0 => xs.getD 0 0
  | k + 1 => min (minTo xs k) (xs.getD k 0)
theorem maxTo_bd {xs : List Int} {lo hi : Int} (h : ∀ i, i < xs.length → lo ≤ xs.getD i 0 ∧ xs.getD i 0 ≤ hi) (hn : 0 < xs.length) (k : Nat) (hk : k ≤ xs.length) : lo ≤ maxTo xs k ∧ maxTo xs k ≤ hi := by
  induction k with
  | zero => exact h 0 hn
  | succ k ih =>
    have := ih (by omega)
    have := h k (by omega)
    simp only [maxTo]
    omega
theorem minTo_bd {xs : List Int} {lo hi : Int} (h : ∀ i, i < xs.length → lo ≤ xs.getD i 0 ∧ xs.getD i 0 ≤ hi) (hn : 0 < xs.length) (k : Nat) (hk : k ≤ xs.length) : lo ≤ minTo xs k ∧ minTo xs k ≤ hi := by
  induction k with
  | zero => exact h 0 hn
  | succ k ih =>
    have := ih (by omega)
    have := h k (by omega)
    simp only [minTo]
    omega

set_option maxHeartbeats 400000 in
theorem slicesMax_any (v : Value) (xs : List Int) (w : World) (hs : Sl w 1 v xs.length (xs.map vi)) (hn0 : 0 < xs.length) :
    Calls Try.prog 19 #[v] w fun r w' => r = .returned (.int .i64 (maxTo xs xs.length)) ∧ w = w' := by
  obtain ⟨A, cap, rfl, hcap, hr⟩ := hs
  have hm := hr.2.1
  unfold maxLen at hm
  generalize hn : xs.length = n at *
  have Hn := hd hn
  clear hn
  obtain ⟨b, off, rfl, hc0⟩ := hr.int hn0
  simp only [Nat.add_zero] at hc0
  have hn1 : (0 : Int) < (n : Int) := by omega
  go_enter Try.func19, Try.ntmps19
  go_wp2
  go_loop [3, 4] (fun m i => ∃ k : Nat, 1 ≤ k ∧ k ≤ n ∧ i = .int .i64 k ∧ m = .int .i64 (maxTo xs k)) (fun _ i => n - (intOf i).toNat)
  case atStart => exact ⟨1, by omega, by omega, rfl, by simp [maxTo]⟩
  case round =>
    obtain ⟨k, hk1, hk, rfl, rfl⟩ := hrel
    by_cases hlt : k < n
    · obtain ⟨b', off', hA, hc⟩ := hr.int hlt
      cases hA
      go_wp2
      go_round
      case rel => exact ⟨k + 1, by omega, by omega, by go_num, by rw [maxTo, List.getD_eq_getElem?_getD, ← ite_max]⟩
      case measure => simp [intOf]; omega
    · have : k = n := by omega
      subst this
      go_wp2
      go_ret
      exact ⟨rfl, rfl⟩
end Go.Proofs.Ytkaopdpdfbkchaa
