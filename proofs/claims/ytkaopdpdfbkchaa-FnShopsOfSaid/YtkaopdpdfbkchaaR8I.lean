/- Numbers of bytes for the laws of crews: r8At, r8Long, r8Has, R8Below. -/
import Derived.Test.YtkaopdpdfbkchaaProg
import Derived.Test.YtkaopdpdfbkchaaSrcI
import Derived.Test.YtkaopdpdfbkchaaApp
import Derived.Test.YtkaopdpdfbkchaaWords
namespace Go.Proofs.Ytkaopdpdfbkchaa
open Go.RowKit Plain
set_option linter.unusedVariables false
set_option linter.unusedSimpArgs false
attribute [local go_sem ↓] Go.wp_at_zero Go.wp_at_succ
/-- the number at place k of the bytes, below n -/
def r8F (xs : List Nat) (k n : Nat) : Nat := if k < xs.length then xs.getD k 0 % n else 0
theorem r8F_lt (xs : List Nat) (k : Nat) {n : Nat} (h : 0 < n) : r8F xs k n < n := by
  unfold r8F; split
  · exact Nat.mod_lt _ h
  · exact h
set_option maxHeartbeats 1000000 in
theorem r8Long_any (v0 v1 : Value) (x0 x1 : List Nat) (w : World) (s0 : Sl w 1 v0 x0.length (bys x0)) (s1 : Sl w 1 v1 x1.length (bys x1)) :
    Calls Try.prog 4 #[v0, v1] w fun r w' => r = .returned (.bool (decide (48 < x0.length) || decide (48 < x1.length))) ∧ w' = w := by
  obtain ⟨A0, c0, rfl, h0, r0⟩ := s0
  obtain ⟨A1, c1, rfl, h1, r1⟩ := s1
  have m0 := r0.2.1
  have m1 := r1.2.1
  unfold maxLen at m0 m1
  generalize x0.length = n0 at *
  generalize x1.length = n1 at *
  clear r0 r1
  by_cases g0 : (48 : Int) < (n0 : Int) <;> by_cases g1 : (48 : Int) < (n1 : Int)
  all_goals
    have H := hd (show (decide (48 < n0) || decide (48 < n1)) = (decide ((48 : Int) < n0) || decide ((48 : Int) < n1)) by
      rw [Bool.eq_iff_iff]; simp only [Bool.or_eq_true, decide_eq_true_eq]; omega)
    have H2 := hd H.out
    rw [H.out]
    clear H H2
    go_enter Try.func4, Try.ntmps4
    go_wp2
    go_ret
    refine ⟨ret_bool ?_, rfl⟩
    simp [g0, g1]
set_option maxHeartbeats 1000000 in
theorem r8At_any (v : Value) (xs : List Nat) (hx : ∀ x ∈ xs, x < 256) (k n : Nat) (hn : 1 ≤ n) (hn2 : n ≤ 1000) (hk : k ≤ 1000) (w : World) (hs : Sl w 1 v xs.length (bys xs)) :
    Calls Try.prog 5 #[v, .int .i64 k, .int .i64 n] w fun r w' => r = .returned (.int .i64 (r8F xs k n : Nat)) ∧ w' = w := by
  obtain ⟨A, cap, rfl, hcap, hr⟩ := hs
  have hm := hr.2.1
  unfold maxLen at hm
  rcases Nat.lt_or_ge 1 n with h1 | h1
  · have g1 : ¬ ((n : Int) ≤ 1) := by omega
    by_cases hlt : k < xs.length
    · obtain ⟨b, off, rfl, hc⟩ := hr.2.2 (by omega)
      have hc2 := hc k (.int .u8 (xs[k] : Int)) (by simp [bys, hlt])
      have hb := hx _ (List.getElem_mem hlt)
      have HF := hd (show r8F xs k n = xs[k] % n by rw [r8F, if_pos hlt, List.getD_eq_getElem?_getD, List.getElem?_eq_getElem hlt]; rfl)
      obtain ⟨y, hy⟩ : ∃ y, y = xs[k] := ⟨_, rfl⟩
      rw [← hy] at hc2 hb HF
      clear hc hr hy
      generalize r8F xs k n = res at *
      generalize xs.length = m at *
      have i1 : (0 : Int) ≤ (k : Int) := by omega
      have i2 : (k : Int) < (m : Int) := by omega
      have i3 : ¬ ((m : Int) ≤ (k : Int)) := by omega
      have i4 : ¬ ((n : Int) = 0) := by omega
      have Q := hd (show (y : Int).tmod (n : Int) = ((y % n : Nat) : Int) by rw [Int.tmod_eq_emod_of_nonneg (by omega)]; push_cast; rfl)
      go_enter Try.func5, Try.ntmps5
      go_wp2
      go_ret
      refine ⟨?_, rfl⟩
      rw [HF.out]
      push_cast; rfl
    · have i3 : (xs.length : Int) ≤ (k : Int) := by omega
      have HF := hd (show r8F xs k n = 0 by rw [r8F, if_neg hlt])
      clear hr
      generalize r8F xs k n = res at *
      generalize xs.length = m at *
      go_enter Try.func5, Try.ntmps5
      go_wp2
      go_ret
      exact ⟨by rw [HF.out]; rfl, rfl⟩
  · obtain rfl : n = 1 := by omega
    have HF := hd (show r8F xs k 1 = 0 by have := r8F_lt xs k (n := 1) (by omega); omega)
    clear hr
    generalize r8F xs k 1 = res at *
    generalize xs.length = m at *
    go_enter Try.func5, Try.ntmps5
    go_wp2
    go_ret
    exact ⟨by rw [HF.out]; rfl, rfl⟩
end Go.Proofs.Ytkaopdpdfbkchaa
