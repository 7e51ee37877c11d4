/- Small functions on numbers and on lists of them. -/
import Derived.Test.YtkaopdpdfbkchaaProg
import Derived.Test.YtkaopdpdfbkchaaBase
import Derived.Test.YtkaopdpdfbkchaaPlain
namespace Go.Proofs.Ytkaopdpdfbkchaa
open Go.RowKit Plain
set_option linter.unusedVariables false
set_option linter.unusedSimpArgs false
attribute [local go_sem ↓] Go.wp_at_zero Go.wp_at_succ

set_option maxHeartbeats 400000 in
theorem within_any (n a b : Int) (w : World) :
    Calls Try.prog 39 #[.int .i64 n, .int .i64 a, .int .i64 b] w fun r w' => r = .returned (.bool (inR n a b)) ∧ w = w' := by
  go_enter Try.func39, Try.ntmps39
  go_wp2
  all_goals (go_ret; refine ⟨ret_bool ?_, rfl⟩; simp [inR, *]; try omega)

theorem within_t (n a b : Int) (w : World) (h : inR n a b = true) : Calls Try.prog 39 #[.int .i64 n, .int .i64 a, .int .i64 b] w fun r w' => r = .returned (.bool true) ∧ w' = w := (within_any n a b w).mono fun _ _ k => ⟨by rw [k.1, h], k.2.symm⟩
theorem within_f (n a b : Int) (w : World) (h : inR n a b = false) : Calls Try.prog 39 #[.int .i64 n, .int .i64 a, .int .i64 b] w fun r w' => r = .returned (.bool false) ∧ w' = w := (within_any n a b w).mono fun _ _ k => ⟨by rw [k.1, h], k.2.symm⟩

set_option maxHeartbeats 400000 in
theorem areWithin_any (v : Value) (xs : List Int) (lo hi : Int) (w : World) (hs : Sl w 1 v xs.length (xs.map vi)) :
    Calls Try.prog 24 #[v, .int .i64 lo, .int .i64 hi] w fun r w' => r = .returned (.bool (xs.all (inR · lo hi))) ∧ w = w' := by
  obtain ⟨A, cap, rfl, hcap, hr⟩ := hs
  have hm := hr.2.1
  unfold maxLen at hm
  generalize hn : xs.length = n at *
  have Hn := hd hn
  clear hn
  go_enter Try.func24, Try.ntmps24
  go_wp2
  go_loop [11] (fun i => ∃ k : Nat, k ≤ n ∧ i = .int .i64 k ∧ Hid ((xs.take k).all (inR · lo hi) = true)) (fun i => n - (intOf i).toNat)
  case atStart => exact ⟨0, by omega, rfl, by simp [Hid]⟩
  case round =>
    obtain ⟨k, hk, rfl, ha⟩ := hrel
    by_cases hlt : k < n
    · obtain ⟨b, off, rfl, hc⟩ := hr.int hlt
      go_wp2_with (go_at_call 39; refine (within_any _ _ _ _).mono ?_; rintro e w' ⟨rfl, rfl⟩)
      · have h : (!inR (xs[k]?.getD 0) lo hi) = true := by assumption
        have hl : k < xs.length := by have := Hn.out; omega
        rw [getD_of hl] at h
        go_ret
        exact ⟨ret_bool (all_false hl (by simpa using h)).symm, rfl⟩
      · have h : (!inR (xs[k]?.getD 0) lo hi) = false := by assumption
        have hl : k < xs.length := by have := Hn.out; omega
        rw [getD_of hl] at h
        go_round
        case rel => exact ⟨k + 1, by omega, by go_num, all_take_succ ha.out hl (by simpa using h)⟩
        case measure => simp [intOf]; omega
    · go_wp2
      go_ret
      exact ⟨ret_bool (all_whole ha.out (by have := Hn.out; omega)).symm, rfl⟩

set_option maxHeartbeats 400000 in
theorem areMany_any (v : Value) (xs : List Int) (few many lo hi : Int) (w : World) (hs : Sl w 1 v xs.length (xs.map vi)) :
    Calls Try.prog 37 #[v, .int .i64 few, .int .i64 many, .int .i64 lo, .int .i64 hi] w fun r w' => r = .returned (.bool (manyIn xs few many lo hi)) ∧ w = w' := by
  have hs' := hs
  obtain ⟨A, cap, rfl, hcap, hr⟩ := hs
  by_cases h1 : few ≤ (xs.length : Int)
  · by_cases h2 : (xs.length : Int) ≤ many
    · go_enter Try.func37, Try.ntmps37
      go_wp2_with (go_at_call 24; refine (areWithin_any _ xs _ _ _ hs').mono ?_; rintro e w' ⟨rfl, rfl⟩)
      go_ret
      exact ⟨ret_bool (by simp [manyIn, h1, h2]), rfl⟩
    · go_enter Try.func37, Try.ntmps37
      go_wp2
      go_ret
      exact ⟨ret_bool (by simp [manyIn]; intros; omega), rfl⟩
  · go_enter Try.func37, Try.ntmps37
    go_wp2
    go_ret
    exact ⟨ret_bool (by simp [manyIn]; intros; omega), rfl⟩

end Go.Proofs.Ytkaopdpdfbkchaa
