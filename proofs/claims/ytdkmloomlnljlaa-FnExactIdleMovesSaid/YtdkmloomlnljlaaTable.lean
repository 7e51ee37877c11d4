/- The table of all pairs of trips, on the reference's side; what is known of trips and moves that are valid. -/
import Derived.Test.YtdkmloomlnljlaaProg
import Derived.Test.YtdkmloomlnljlaaFollow
import Derived.Test.YtdkmloomlnljlaaCrews
import Derived.Test.YtdkmloomlnljlaaBSlice
namespace Go.Proofs.Ytdkmloomlnljlaa
open Go.RowKit Plain
set_option linter.unusedVariables false
set_option linter.unusedSimpArgs false
attribute [local go_sem ↓] Go.wp_at_zero Go.wp_at_succ

theorem trips_q {l : List Q4} (h : tripsB l = true) {k : Nat} {a b c d : Int} (hq : l[k]? = some ⟨a, b, c, d⟩) : ∃ nc nd : Nat, c = nc ∧ d = nd ∧ nc ≤ 7 ∧ nd ≤ 7 ∧ 0 ≤ a ∧ a ≤ 10000 ∧ 0 ≤ b ∧ b ≤ 10000 := by
  rw [tripsB, Bool.and_eq_true, List.all_eq_true] at h
  have := tripB_iff.1 (h.1 _ (List.mem_of_getElem? hq))
  simp only at this
  exact ⟨c.toNat, d.toNat, by omega, by omega, by omega, by omega, by omega, by omega, by omega, by omega⟩
theorem trips_len {l : List Q4} (h : tripsB l = true) : 1 ≤ l.length ∧ l.length ≤ 24 := by
  rw [tripsB, Bool.and_eq_true, decide_eq_true_eq] at h
  exact h.2
theorem moves_at {ms : List Int} (h : movesB ms = true) (i k : Nat) (hi : i ≤ 7) (hk : k ≤ 7) : 0 ≤ ms.getD (i * 8 + k) 0 ∧ ms.getD (i * 8 + k) 0 ≤ 1000 :=
  inR_iff.1 ((movesB_iff.1 h).2.1 _ (by omega))
theorem folB_nat (ms : List Int) (a b c a' b' d' : Int) (nd nc : Nat) : folB ms ⟨a, b, c, nd⟩ ⟨a', b', nc, d'⟩ = decide (b + ms.getD (nd * 8 + nc) 0 ≤ a') := by
  unfold folB
  rw [show ((nd : Int) * 8 + (nc : Int)).toNat = nd * 8 + nc by omega]

end Go.Proofs.Ytdkmloomlnljlaa
