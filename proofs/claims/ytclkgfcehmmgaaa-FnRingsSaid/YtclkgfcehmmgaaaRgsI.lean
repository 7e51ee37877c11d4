/- Small contracts for the law of rings: SameArcs of a list with itself, b10Ints of equal lists. -/
import Derived.Test.YtclkgfcehmmgaaaProg
import Derived.Test.YtclkgfcehmmgaaaEqualQ
import Derived.Test.YtclkgfcehmmgaaaSlice
namespace Go.Proofs.Ytclkgfcehmmgaaa
open Go.RowKit Plain
set_option linter.unusedVariables false
set_option linter.unusedSimpArgs false
attribute [local go_sem ↓] Go.wp_at_zero Go.wp_at_succ
theorem sameArcs_any (w : World) (v : Value) (x : List Q4) (s : Sl w 4 v x.length (q4s x)) :
    Calls Try.prog 12 #[v, v] w fun r w' => r = .returned (.bool true) ∧ Below w.heap.size w w' := by
  have H := hd (equalArc_any v v x x w s s)
  rw [show decide (x = x) = true by simp] at H
  clear s
  go_enter Try.func12, Try.ntmps12
  go_wp2_with fail
  refine H.out.mono ?_; rintro e w' ⟨rfl, m, rfl⟩
  go_wp2
  go_ret
  exact ⟨rfl, below_drewN (Below.refl _ _) m⟩
set_option maxHeartbeats 1000000 in
theorem ints_any (w : World) (v u : Value) (n : Nat) (x : List Int) (s : Sl w 1 v n (x.map vi)) (t : Sl w 1 u n (x.map vi)) :
    Calls Try.prog 15 #[v, u] w fun r w' => r = .returned (.bool true) ∧ Below w.heap.size w w' := by
  obtain ⟨A, cap, rfl, hcap, hr⟩ := s
  obtain ⟨A', cap', rfl, hcap', hr'⟩ := t
  have hm := hr.2.1
  unfold maxLen at hm
  have HA := hd hr
  have HA' := hd hr'
  clear hr hr'
  go_enter Try.func15, Try.ntmps15
  go_wp2
  go_loopw [13] (fun i wr => ∃ k : Nat, k ≤ n ∧ i = .int .i64 k ∧ Hid (Below w.heap.size w wr)) (fun i _ => n - (intOf i).toNat)
  case atStart => exact ⟨0, by omega, rfl, hd (Below.refl _ _)⟩
  case round =>
    obtain ⟨k, hk, rfl, HB⟩ := hrel
    by_cases hlt : k < n
    · obtain ⟨b, off, rfl, hc⟩ := (HA.out.below HB.out).int hlt
      obtain ⟨b', off', rfl, hc'⟩ := (HA'.out.below HB.out).int hlt
      generalize x.getD k 0 = z at *
      have k2 : (k : Int) < (n : Int) := by omega
      go_wp2
      go_quiet (fail)
      go_wp2
      go_roundw
      case rel => exact ⟨k + 1, by omega, by go_num, hd (below_drewN HB.out _)⟩
      case measure => simp [intOf]; omega
    · obtain rfl : k = n := by omega
      go_wp2
      go_ret
      exact ⟨rfl, HB.out⟩
end Go.Proofs.Ytclkgfcehmmgaaa
