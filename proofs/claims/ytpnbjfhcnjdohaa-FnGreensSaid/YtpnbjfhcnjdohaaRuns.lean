/- Runs of blocks, on both sides. -/
import Derived.Test.YtpnbjfhcnjdohaaNum
import Derived.Test.YtpnbjfhcnjdohaaSlice
namespace Go.Proofs.Ytpnbjfhcnjdohaa
open Go.RowKit Plain
set_option linter.unusedVariables false
set_option linter.unusedSimpArgs false
attribute [local go_sem ↓] Go.wp_at_zero Go.wp_at_succ

set_option maxHeartbeats 400000 in
theorem areRuns_any (v : Value) (xs : List Int) (w : World) (hs : Sl w 1 v xs.length (xs.map vi)) :
    Calls Try.prog 27 #[v] w fun r w' => r = .returned (.bool (manyIn xs 1 12 0 1000)) ∧ w = w' := by
  go_enter Try.func27, Try.ntmps27
  go_wp2_with (go_at_call 28; refine (areMany_any _ xs _ _ _ _ _ hs).mono ?_; rintro e w' ⟨rfl, rfl⟩)
  go_ret
  exact ⟨rfl, rfl⟩
set_option maxHeartbeats 400000 in
theorem l05Runs_any (v : Value) (xs : List Int) (w : World) (hs : Sl w 1 v xs.length (xs.map vi)) :
    Calls Try.prog 31 #[v] w fun r w' => r = .returned (.bool (manyIn xs 1 12 0 1000)) ∧ w = w' := by
  obtain ⟨A, cap, rfl, hcap, hr⟩ := hs
  have hm := hr.2.1
  unfold maxLen at hm
  generalize hn : xs.length = n at *
  have Hn := hd hn
  clear hn
  go_enter Try.func31, Try.ntmps31
  go_wp2
  go_loop [6] (fun i => ∃ k : Nat, k ≤ n ∧ i = .int .i64 k ∧ Hid ((xs.take k).all (inR · 0 1000) = true)) (fun i => n - (intOf i).toNat)
  case atStart => exact ⟨0, by omega, rfl, by simp [Hid]⟩
  case round =>
    obtain ⟨k, hk, rfl, ha⟩ := hrel
    by_cases hlt : k < n
    · obtain ⟨b, off, rfl, hc⟩ := hr.int hlt
      go_wp2_with (go_at_call 24; refine (l00In_any _ _ _ _).mono ?_; rintro e w' ⟨rfl, rfl⟩)
      · have h : (!inR (xs[k]?.getD 0) 0 1000) = true := by assumption
        have hl : k < xs.length := by have := Hn.out; omega
        rw [getD_of hl] at h
        go_ret
        refine ⟨ret_bool ?_, rfl⟩
        rw [manyIn, all_false (p := (inR · 0 1000)) hl (by simpa using h)]
        simp
      · have h : (!inR (xs[k]?.getD 0) 0 1000) = false := by assumption
        have hl : k < xs.length := by have := Hn.out; omega
        rw [getD_of hl] at h
        go_round
        case rel => exact ⟨k + 1, by omega, by go_num, all_take_succ (p := (inR · 0 1000)) ha.out hl (by simpa using h)⟩
        case measure => simp [intOf]; omega
    · have hall := hd (all_whole ha.out (by have := Hn.out; omega))
      go_wp2
      all_goals
        go_ret
        refine ⟨ret_bool ?_, rfl⟩
        rw [manyIn, hall.out, Hn.out]
        simp
        try omega
end Go.Proofs.Ytpnbjfhcnjdohaa
