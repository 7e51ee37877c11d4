/- slices.Equal at records of four int64. -/
import Derived.Test.YtclkgfcehmmgaaaQSlice
namespace Go.Proofs.Ytclkgfcehmmgaaa
open Go.RowKit Plain
set_option linter.unusedVariables false
set_option linter.unusedSimpArgs false
attribute [local go_sem ↓] Go.wp_at_zero Go.wp_at_succ

theorem neqArc_run (a b c d a' b' c' d' : Int) (w : World) : (binOp .neq 37 (.agg #[.int .i64 a, .int .i64 b, .int .i64 c, .int .i64 d]) (.agg #[.int .i64 a', .int .i64 b', .int .i64 c', .int .i64 d'])).run Try.prog w = .ok (.bool (!q4eq a b c d a' b' c' d')) w := by
  by_cases e1 : a = a'
  · by_cases e2 : b = b'
    · by_cases e3 : c = c'
      · by_cases e4 : d = d' <;> simp [go_sem, *, q4eq]
      · simp [go_sem, *, q4eq]
    · simp [go_sem, *, q4eq]
  · simp [go_sem, *, q4eq]
set_option maxHeartbeats 1000000 in
theorem equalArc_any (v u : Value) (xs ys : List Q4) (w : World) (hs : Sl w 4 v xs.length (q4s xs)) (ht : Sl w 4 u ys.length (q4s ys)) :
    Calls Try.prog 38 #[v, u] w (Draws (.bool (decide (xs = ys))) w) := by
  obtain ⟨A, cap, rfl, hcap, hr⟩ := hs
  obtain ⟨A', cap', rfl, hcap', hr'⟩ := ht
  have hm := hr.2.1
  have hm' := hr'.2.1
  unfold maxLen at hm hm'
  generalize hn : xs.length = n at *
  generalize hn' : ys.length = n' at *
  have Hn := hd hn.symm
  have Hn' := hd hn'.symm
  clear hn hn'
  by_cases hnn : n = n'
  · subst hnn
    go_enter Try.func38, Try.ntmps38
    go_wp2
    go_loopw [13] (fun i wr => ∃ k : Nat, k ≤ n ∧ i = .int .i64 k ∧ Hid (xs.take k = ys.take k) ∧ ∃ m, wr = w.drewN m) (fun i _ => n - (intOf i).toNat)
    case atStart => exact ⟨0, by omega, rfl, by simp [Hid], 0, rfl⟩
    case round =>
      obtain ⟨k, hk, rfl, he, m, rfl⟩ := hrel
      by_cases hlt : k < n
      · obtain ⟨b, off, qa, qb, qc, qd, rfl, hq, c0, c1, c2, c3⟩ := hr.q4 hlt
        obtain ⟨b', off', ra, rb, rc, rd, rfl, hq', d0, d1, d2, d3⟩ := hr'.q4 hlt
        have i1 : (0 : Int) ≤ (k : Int) := by omega
        have i2 : (k : Int) < (n : Int) := by omega
        clear hr hr'
        have hneq := neqArc_run qa qb qc qd ra rb rc rd
        go_wp2
        go_quiet (fail)
        clear hneq
        go_wp2
        · have h : (!q4eq qa qb qc qd ra rb rc rd) = true := by assumption
          go_ret
          exact ⟨ret_bool (by simpa using ne_of_get hq.out hq'.out (q4eq_f (by simpa using h))), by first | exact ⟨_, rfl⟩ | exact drew2 _ _ _⟩
        · have h : (!q4eq qa qb qc qd ra rb rc rd) = false := by assumption
          go_roundw
          case rel => exact ⟨k + 1, by omega, by go_num, take_succ_of he.out hq.out (q4eq_t (by simpa using h) ▸ hq'.out), by first | exact ⟨_, rfl⟩ | exact drew2 _ _ _⟩
          case measure => simp [intOf]; omega
      · have hkn : k = n := by omega
        subst hkn
        go_wp2
        go_ret
        exact ⟨ret_bool (by simpa using (eq_of_take he.out Hn.out.symm Hn'.out.symm)), _, rfl⟩
  · go_enter Try.func38, Try.ntmps38
    have hne : ¬ ((n : Int) = (n' : Int)) := by omega
    go_wp2
    go_ret
    refine ⟨ret_bool ?_, 0, rfl⟩
    symm
    rw [decide_eq_false_iff_not]
    rintro rfl
    exact hnn (Hn.out.trans Hn'.out.symm)
end Go.Proofs.Ytclkgfcehmmgaaa
